/-
  What an abstract state says survives slots that are written, new blocks, stores (no condition).
-/
import Derived.Test.YtjpjnjidchdlbaaDoorEngG
namespace Go.Proofs.YtjpjnjidchdlbaaDoor
set_option linter.unusedSimpArgs false
set_option linter.unusedVariables false
open Go Go.RowKit

theorem Keep.refl (S : Nat → Prop) (w : World) : Keep S w w := ⟨rfl, rfl, rfl, Nat.le_refl _, fun _ _ _ => rfl⟩
theorem alive_of_hot {o : Obj} (h : hot o = true) : alive o = true := by cases o <;> first | rfl | (simp [hot] at h)
theorem Step.refl (r : Ren) (h : List Obj) (w : World) : Step r h w r h w :=
  ⟨Nat.le_refl _, fun _ _ => rfl, Keep.refl _ _, fun i o hi _ hk => by
    rcases hk with hk | hk
    · exact .inl ⟨i, o, hi, hk, rfl⟩
    · have := (List.getElem?_eq_some_iff.1 hi).1; omega, fun _ o hi ha => ⟨o, hi, ha⟩, fun _ _ h => h⟩
theorem Step.hots {r r' : Ren} {h h' : List Obj} {w w' : World} (a : Step r h w r' h' w') {k : Nat} (hk : HotSet r' h' k) : HotSet r h k ∨ w.heap.size ≤ k := by
  obtain ⟨i, o, hi, hh, rfl⟩ := hk
  exact a.own i o hi (alive_of_hot hh) (.inl hh)
theorem Step.trans {r r' r'' : Ren} {h h' h'' : List Obj} {w w' w'' : World} (a : Step r h w r' h' w') (b : Step r' h' w' r'' h'' w'') : Step r h w r'' h'' w'' := by
  refine ⟨Nat.le_trans a.len b.len, fun i hi => (b.ext i (Nat.lt_of_lt_of_le hi a.len)).trans (a.ext i hi), ⟨b.keep.os.trans a.keep.os, b.keep.tape.trans a.keep.tape, b.keep.output.trans a.keep.output, Nat.le_trans a.keep.size b.keep.size, ?_⟩, ?_, ?_, fun i o hi => b.dfr i o (a.dfr i o hi)⟩
  · intro k hk hs
    rw [b.keep.block k (Nat.lt_of_lt_of_le hk a.keep.size) ?_]
    · exact a.keep.block k hk hs
    · intro hs'
      rcases a.hots hs' with h1 | h1
      · exact hs h1
      · omega
  · intro i o hi ha hk
    by_cases hb : hot o = true ∨ h'.length ≤ i
    · rcases b.own i o hi ha hb with h1 | h1
      · exact a.hots h1
      · right; exact Nat.le_trans a.keep.size h1
    · have hlt : i < h'.length := by
        by_cases q : i < h'.length
        · exact q
        · exact absurd (.inr (by omega)) hb
      have hge : h.length ≤ i := by
        rcases hk with hk | hk
        · exact absurd (.inl hk) hb
        · exact hk
      obtain ⟨u, hu⟩ : ∃ u, h'[i]? = some u := ⟨_, List.getElem?_eq_getElem hlt⟩
      cases hau : alive u with
      | true =>
        rw [b.ext i hlt]
        exact a.own i u hu hau (.inr hge)
      | false =>
        obtain ⟨u', h1, h2⟩ := b.dead i u hu hau
        rw [hi] at h1; cases h1
        rw [ha] at h2; cases h2
  · intro i o hi ha
    obtain ⟨u, h1, h2⟩ := a.dead i o hi ha
    exact b.dead i u h1 h2
/-- draws, and whatever else turns no block -/
theorem Step.same {r : Ren} {h : List Obj} {w w' : World} (h1 : w'.heap = w.heap) (h2 : w'.os = w.os) (h3 : w'.tape = w.tape) (h4 : w'.output = w.output) : Step r h w r h w' :=
  have q := Step.refl r h w
  ⟨Nat.le_refl _, fun _ _ => rfl, ⟨h2, h3, h4, by rw [h1]; exact Nat.le_refl _, fun _ _ _ => by rw [h1]⟩, q.own, q.dead, fun _ _ h => h⟩

section
variable {G : List (Nat × Obj)} {r r' : Ren} {h h' : List Obj} {s : St} {a : Act} {w w' : World}
theorem RepH.same (R : RepH G r h w) (h1 : w'.heap = w.heap) : RepH G r h w' := by
  refine ⟨fun i o hi => ?_, R.inj, R.sc, fun g o hg => ?_⟩
  · have := R.ok i o hi
    unfold ObjOk LoopOk at *
    rw [h1]; exact this
  · have := R.gl g o hg
    rw [h1]; exact this
theorem RepS.world (R : RepS G r s a w) (h1 : w'.heap = w.heap) : RepS G r s a w' := ⟨R.heap.same h1, R.tmp, R.dfr, R.dok⟩
/-- the slots, over a heap that has grown -/
theorem RepS.move (R : RepS G r s a w) (H : RepH G r' h' w') (hl : s.h.length ≤ h'.length) (he : ∀ i, i < s.h.length → r' i = r i)
    (hd : ∀ (i : Nat) (o : Option (List Deferred)), s.h[i]? = some (Obj.deferred o) → h'[i]? = some (Obj.deferred o)) : RepS G r' ⟨s.t, h', s.d⟩ a w' := by
  refine ⟨H, fun i v hv => ?_, ?_, fun i hi => ?_⟩
  · obtain ⟨h1, h2⟩ := R.tmp i v hv
    refine ⟨h1, fun hm => ?_⟩
    obtain ⟨h3, h4⟩ := h2 hm
    exact ⟨by rw [h3, c3_congr he h4], s3_mono hl h4⟩
  · rw [R.dfr]
    apply List.map_congr_left
    intro i hi
    obtain ⟨o, ho⟩ := R.dok i hi
    have : i < s.h.length := (List.getElem?_eq_some_iff.1 ho).1
    simp [markOf, he i this]
  · obtain ⟨o, ho⟩ := R.dok i hi
    exact ⟨o, hd i o ho⟩
theorem get2_write {t : List (List Value)} {i : Nat} {row : List Value} {v : Value} (h1 : t[i / 16]? = some row) (h2 : i % 16 < row.length) (j : Nat) :
    get2 (t.take (i / 16) ++ [row.take (i % 16) ++ [v] ++ row.drop (i % 16 + 1)] ++ t.drop (i / 16 + 1)) j = if j = i then some v else get2 t j := by
  have hlt : i / 16 < t.length := (List.getElem?_eq_some_iff.1 h1).1
  have e1 : t.take (i / 16) ++ [row.take (i % 16) ++ [v] ++ row.drop (i % 16 + 1)] ++ t.drop (i / 16 + 1) = t.set (i / 16) (row.set (i % 16) v) := by
    rw [List.set_eq_take_append_cons_drop, if_pos hlt, List.set_eq_take_append_cons_drop, if_pos h2]
    simp
  rw [e1]
  unfold get2
  rw [List.getElem?_set]
  by_cases hq : i / 16 = j / 16
  · rw [if_pos hq, if_pos (by omega)]
    simp only [Option.bind_some]
    rw [List.getElem?_set]
    by_cases hr : i % 16 = j % 16
    · rw [if_pos hr, if_pos (by omega)]
      have : j = i := by omega
      rw [if_pos this]
    · rw [if_neg hr]
      have : ¬ j = i := by rintro rfl; exact hr rfl
      rw [if_neg this, ← hq, h1]; rfl
  · rw [if_neg hq]
    have : ¬ j = i := by rintro rfl; exact hq rfl
    rw [if_neg this]
theorem putK_ok (R : RepS G r s a w) {d : Option Nat} {v : Value} {K : St → Prop} (hv : s3 s.h.length v) (h : putK s d v K) :
    ∃ s', RepS G r s' (a.put d (c3 r v)) w ∧ s'.h = s.h ∧ K s' := by
  cases d with
  | none => exact ⟨s, R, rfl, h⟩
  | some i =>
    obtain ⟨t, hp, ds⟩ := s
    simp only [putK, nthK_iff, writeK_iff, List.length_cons, List.length_nil, Nat.zero_add] at h
    obtain ⟨row, h1, h2, h3, h⟩ := h
    refine ⟨⟨t.take (i / 16) ++ [row.take (i % 16) ++ [v] ++ row.drop (i % 16 + 1)] ++ t.drop (i / 16 + 1), hp, ds⟩, ⟨R.heap, fun j u hu => ?_, R.dfr, R.dok⟩, rfl, h⟩
    simp only at hu
    rw [get2_write h1 (by omega)] at hu
    have hi : i < a.tmps.size := by
      have : get2 t i = some (row[i % 16]'(by omega)) := get2_of h1 (List.getElem?_eq_getElem (by omega))
      exact (R.tmp i _ this).1
    by_cases hj : j = i
    · subst hj
      rw [if_pos rfl] at hu
      cases hu
      refine ⟨by simpa [Act.put] using hi, fun _ => ⟨?_, hv⟩⟩
      simp [Act.put, hi]
    · rw [if_neg hj] at hu
      obtain ⟨g1, g2⟩ := R.tmp j u hu
      refine ⟨by simpa [Act.put] using g1, fun hm => ?_⟩
      obtain ⟨g3, g4⟩ := g2 hm
      refine ⟨?_, g4⟩
      simp only [Act.put]
      rw [Array.getElem?_setIfInBounds_ne (by omega)]
      exact g3
/-- a slot written with what it holds -/
theorem putK_same (R : RepS G r s a w) {d : Nat} {v : Value} {K : St → Prop} (hv : s3 s.h.length v) (ha : a.tmps[d]? = some (c3 r v)) (h : putK s (some d) v K) :
    ∃ s', RepS G r s' a w ∧ s'.h = s.h ∧ K s' := by
  obtain ⟨s', h1, h2, h3⟩ := putK_ok R hv h
  refine ⟨s', ?_, h2, h3⟩
  have : a.put (some d) (c3 r v) = a := by
    obtain ⟨tm, df⟩ := a
    simp only [Act.put]
    congr 1
    obtain ⟨hlt, he⟩ := Array.getElem?_eq_some_iff.1 ha
    apply Array.ext
    · simp
    · intro j h1 h2
      rw [Array.getElem_setIfInBounds]
      split
      · rename_i e; subst e; exact he.symm
      · rfl
  rw [this] at h1; exact h1

/-! ## New blocks -/
def rpush (r : Ren) (h : List Obj) (w : World) : Ren := fun i => if i = h.length then w.heap.size else r i
theorem rpush_lt (r : Ren) (h : List Obj) (w : World) {i : Nat} (hi : i < h.length) : rpush r h w i = r i := by
  unfold rpush; rw [if_neg (by omega)]
theorem map_c1_congr {n : Nat} {r r' : Ren} (he : ∀ i, i < n → r' i = r i) {c : Array Value} (hc : ∀ x ∈ c.toList, s1 n x) : c.map (c1 r') = c.map (c1 r) :=
  Array.map_congr_left fun x hx => c1_congr he (hc x (Array.mem_toList_iff.2 hx))
theorem LoopOk.congr {b : Nat} {l : Loop} (he : ∀ i, i < h.length → r' i = r i) (hs : ∀ v ∈ l.tmps.toList, s1 h.length v) (hw : w'.heap[b]? = w.heap[b]?) (H : LoopOk r b l w) : LoopOk r' b l w' := by
  obtain ⟨e, arr, d, h1, h2, h3⟩ := H
  refine ⟨e, arr, d, by rw [hw]; exact h1, h2, fun i v hv hm => ?_⟩
  have : v ∈ l.tmps.toList := Array.mem_toList_iff.2 (Array.mem_of_getElem? hv)
  rw [c1_congr he (hs v this)]
  exact h3 i v hv hm
theorem ObjOk.congr {b : Nat} {o : Obj} (he : ∀ i, i < h.length → r' i = r i) (hs : ∀ v ∈ cellsOf o, s1 h.length v) (hw : w'.heap[b]? = w.heap[b]?) (H : ObjOk r b o w) : ObjOk r' b o w' := by
  cases o with
  | cells c t f =>
    unfold ObjOk at *
    simp only at *
    rw [hw, map_c1_congr he hs]; exact H
  | deferred d => unfold ObjOk at *; simp only at *; rw [hw]; exact H
  | map es k =>
    unfold ObjOk at *
    simp only at *
    rw [hw, H]
    congr 2
    apply Array.map_congr_left
    intro e he'
    have : s1 h.length e.val := hs e.val (by simp only [cellsOf, List.mem_map]; exact ⟨e, Array.mem_toList_iff.2 he', rfl⟩)
    rw [c1_congr he this]
  | loop l => exact LoopOk.congr (h := h) he hs hw H
  | pending c t => unfold ObjOk at *; simp only at *; rw [hw]; exact H
  | _ => trivial
theorem RepH.lt (R : RepH G r h w) {i : Nat} {o : Obj} (hi : h[i]? = some o) (ha : alive o = true) : r i < w.heap.size := by
  have H := R.ok i o hi
  have key : ∀ x, w.heap[r i]? = some x → r i < w.heap.size := fun x hx => (Array.getElem?_eq_some_iff.1 hx).1
  cases o with
  | cells c t f =>
    simp only [ObjOk] at H
    split at H
    · exact key _ H
    · obtain ⟨g, hg⟩ := H; exact key _ hg
  | deferred d => exact key _ H
  | map es k => exact key _ H
  | loop l => obtain ⟨_, _, _, H, _⟩ := H; exact key _ H
  | pending c t => obtain ⟨g, hg⟩ := H; exact key _ hg
  | _ => cases ha
/-- a new block of cells -/
theorem RepH.push (R : RepH G r h w) {c : Array Value} (t : TypeId) (hc : ∀ x ∈ c.toList, s1 h.length x) :
    RepH G (rpush r h w) (h ++ [.cells c t]) (w.alloc (.cells (c.map (c1 r)) t)) := by
  have he : ∀ i, i < h.length → rpush r h w i = r i := fun i hi => rpush_lt r h w hi
  have old : ∀ i o, (h ++ [Obj.cells c t])[i]? = some o → (h[i]? = some o ∧ i < h.length) ∨ (i = h.length ∧ o = .cells c t) := by
    intro i o hi
    by_cases hlt : i < h.length
    · left; rw [List.getElem?_append_left hlt] at hi; exact ⟨hi, hlt⟩
    · right
      rw [List.getElem?_append_right (by omega)] at hi
      have : i - h.length = 0 := by
        by_cases e : i - h.length = 0
        · exact e
        · rw [List.getElem?_eq_none (by simp; omega)] at hi; cases hi
      rw [this] at hi
      simp at hi
      exact ⟨by omega, hi.symm⟩
  refine ⟨fun i o hi => ?_, fun i j o u hi hj hh ha hr => ?_, fun i o hi v hv => ?_, fun g o hg => ?_⟩
  · rcases old i o hi with ⟨h1, h2⟩ | ⟨rfl, rfl⟩
    · rw [he i h2]
      by_cases ha : alive o = true
      · refine ObjOk.congr he (R.sc i o h1) ?_ (R.ok i o h1)
        exact Below.heap_alloc _ _ _ (R.lt h1 ha)
      · cases o <;> first | trivial | (simp [alive] at ha)
    · simp only [ObjOk, rpush, if_true]
      show (w.heap.push _)[w.heap.size]? = _
      rw [Array.getElem?_push_size]
      rw [map_c1_congr he hc]
  · rcases old i o hi with ⟨h1, h2⟩ | ⟨rfl, rfl⟩
    · rcases old j u hj with ⟨g1, g2⟩ | ⟨rfl, rfl⟩
      · rw [he i h2, he j g2] at hr
        exact R.inj i j o u h1 g1 hh ha hr
      · rw [he i h2] at hr
        have hao : alive o = true := by cases o <;> first | rfl | (simp [hot] at hh)
        have := R.lt h1 hao
        simp [rpush] at hr
        omega
    · rcases old j u hj with ⟨g1, g2⟩ | ⟨rfl, rfl⟩
      · rw [he j g2] at hr
        have := R.lt g1 ha
        simp [rpush] at hr
        omega
      · rfl
  · have hle : h.length ≤ (h ++ [Obj.cells c t]).length := by simp
    rcases old i o hi with ⟨h1, h2⟩ | ⟨rfl, rfl⟩
    · exact s1_mono hle (R.sc i o h1 v hv)
    · exact s1_mono hle (hc v hv)
  · obtain ⟨⟨c', t', f', rfl, h1, f'', h2⟩, h3⟩ := R.gl g o hg
    have hlt : g < w.heap.size := (Array.getElem?_eq_some_iff.1 h2).1
    refine ⟨⟨c', t', f', rfl, h1, f'', ?_⟩, fun i u hi hh => ?_⟩
    · rw [← h2]; exact Below.heap_alloc _ _ _ hlt
    · rcases old i u hi with ⟨g1, g2⟩ | ⟨rfl, rfl⟩
      · rw [he i g2]; exact h3 i u g1 hh
      · simp [rpush]; omega
theorem Step.push (r : Ren) (h : List Obj) (w : World) (o o' : Obj) : Step r h w (rpush r h w) (h ++ [o]) (w.alloc o') := by
  refine ⟨by simp, fun i hi => rpush_lt r h w hi, ⟨rfl, rfl, rfl, by simp, fun k hk _ => Below.heap_alloc _ _ _ hk⟩, ?_, ?_, ?_⟩
  · intro i u hi _ hh
    by_cases hlt : i < h.length
    · left
      rw [List.getElem?_append_left hlt] at hi
      rcases hh with hh | hh
      · exact ⟨i, u, hi, hh, (rpush_lt r h w hlt).symm⟩
      · omega
    · right
      have : i = h.length := by
        have := (List.getElem?_eq_some_iff.1 hi).1
        simp at this; omega
      subst this
      simp [rpush]
  · intro i u hi ha
    have : i < h.length := (List.getElem?_eq_some_iff.1 hi).1
    exact ⟨u, by rw [List.getElem?_append_left this]; exact hi, ha⟩
  · intro i d hi
    have : i < h.length := (List.getElem?_eq_some_iff.1 hi).1
    rw [List.getElem?_append_left this]; exact hi
theorem RepS.push (R : RepS G r s a w) {c : Array Value} (t : TypeId) (hc : ∀ x ∈ c.toList, s1 s.h.length x) :
    RepS G (rpush r s.h w) ⟨s.t, s.h ++ [.cells c t], s.d⟩ a (w.alloc (.cells (c.map (c1 r)) t)) :=
  R.move (R.heap.push t hc) (by simp) (fun i hi => rpush_lt r s.h w hi) (fun i o hi => by
    have : i < s.h.length := (List.getElem?_eq_some_iff.1 hi).1
    rw [List.getElem?_append_left this]; exact hi)
theorem c3_ptr_push (r : Ren) (h : List Obj) (w : World) : c3 (rpush r h w) (ptr h.length 0) = .pointer (some ⟨w.heap.size, 0, none⟩) := by
  simp [c3, c2, c1, c0, cA, rpush]
theorem c3_slc_push (r : Ren) (h : List Obj) (w : World) (l c : Nat) : c3 (rpush r h w) (slc h.length 0 l c) = .slice (some ⟨w.heap.size, 0, none⟩) l c := by
  simp [c3, c2, c1, c0, cA, rpush]

/-! ## Stores -/
theorem RepH.set (R : RepH G r h w) {b : Nat} {c : Array Value} {t : TypeId} {f : Nat × Nat} (hb : h[b]? = some (.cells c t f)) (hf : f.1 = 0) {c' : Array Value} (hc : ∀ x ∈ c'.toList, s1 h.length x) :
    RepH G r (h.set b (.cells c' t)) { w with heap := w.heap.setIfInBounds (r b) (.cells (c'.map (c1 r)) t (0, 0)) } := by
  have hlt : b < h.length := (List.getElem?_eq_some_iff.1 hb).1
  have hhot : hot (.cells c t f) = true := by simp [hot, hf]
  have hrb : r b < w.heap.size := R.lt hb rfl
  have old : ∀ i o, (h.set b (.cells c' t))[i]? = some o → (i ≠ b ∧ h[i]? = some o) ∨ (i = b ∧ o = .cells c' t) := by
    intro i o hi
    rw [List.getElem?_set] at hi
    by_cases e : b = i
    · rw [if_pos e, if_pos hlt] at hi
      cases hi; exact .inr ⟨e.symm, rfl⟩
    · rw [if_neg e] at hi; exact .inl ⟨fun h => e h.symm, hi⟩
  refine ⟨fun i o hi => ?_, fun i j o u hi hj hh ha hr => ?_, fun i o hi v hv => ?_, fun g o hg => ?_⟩
  · rcases old i o hi with ⟨h1, h2⟩ | ⟨rfl, rfl⟩
    · by_cases ha : alive o = true
      · refine ObjOk.congr (h := h) (fun _ _ => rfl) (R.sc i o h2) ?_ (R.ok i o h2)
        have : r b ≠ r i := fun e => h1 (R.inj b i _ o hb h2 hhot ha e).symm
        simp [this]
      · cases o <;> first | trivial | (simp [alive] at ha)
    · simp [ObjOk, hrb]
  · have hi' : ∃ o', h[i]? = some o' ∧ hot o' = true := by
      rcases old i o hi with ⟨h1, h2⟩ | ⟨rfl, rfl⟩
      · exact ⟨o, h2, hh⟩
      · exact ⟨_, hb, hhot⟩
    have hj' : ∃ u', h[j]? = some u' ∧ alive u' = true := by
      rcases old j u hj with ⟨h1, h2⟩ | ⟨rfl, rfl⟩
      · exact ⟨u, h2, ha⟩
      · exact ⟨_, hb, rfl⟩
    obtain ⟨o', g1, g2⟩ := hi'
    obtain ⟨u', g3, g4⟩ := hj'
    exact R.inj i j o' u' g1 g3 g2 g4 hr
  · rw [List.length_set]
    rcases old i o hi with ⟨h1, h2⟩ | ⟨rfl, rfl⟩
    · exact R.sc i o h2 v hv
    · exact hc v hv
  · obtain ⟨⟨c0', t', f', rfl, h1, f'', h2⟩, h3⟩ := R.gl g o hg
    have hne : r b ≠ g := h3 b _ hb hhot
    refine ⟨⟨c0', t', f', rfl, h1, f'', by simp [hne, h2]⟩, fun i u hi hh => ?_⟩
    rcases old i u hi with ⟨g1, g2⟩ | ⟨rfl, rfl⟩
    · exact h3 i u g2 hh
    · exact hne
theorem Step.set {b : Nat} {c c' : Array Value} {t : TypeId} {f : Nat × Nat} (hb : h[b]? = some (.cells c t f)) (hf : f.1 = 0) (o : Obj) :
    Step r h w r (h.set b (.cells c' t)) { w with heap := w.heap.setIfInBounds (r b) o } := by
  have hlt : b < h.length := (List.getElem?_eq_some_iff.1 hb).1
  have hhot : hot (.cells c t f) = true := by simp [hot, hf]
  refine ⟨by simp, fun _ _ => rfl, ⟨rfl, rfl, rfl, by simp, fun k hk hs => ?_⟩, ?_, ?_, ?_⟩
  · have : r b ≠ k := fun e => hs ⟨b, _, hb, hhot, e⟩
    simp [this]
  · intro i u hi _ hh
    rw [List.getElem?_set] at hi
    by_cases e : b = i
    · subst e; exact .inl ⟨b, _, hb, hhot, rfl⟩
    · rw [if_neg e] at hi
      rcases hh with hh | hh
      · exact .inl ⟨i, u, hi, hh, rfl⟩
      · have := (List.getElem?_eq_some_iff.1 hi).1; omega
  · intro i u hi ha
    have : b ≠ i := by rintro rfl; rw [hb] at hi; cases hi; cases ha
    exact ⟨u, by rw [List.getElem?_set_ne this]; exact hi, ha⟩
  · intro i d hi
    rw [List.getElem?_set]
    by_cases e : b = i
    · subst e; rw [hb] at hi; cases hi
    · rw [if_neg e]; exact hi
end
end Go.Proofs.YtjpjnjidchdlbaaDoor
