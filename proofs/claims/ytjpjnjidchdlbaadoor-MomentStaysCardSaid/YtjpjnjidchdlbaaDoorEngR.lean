/-
  Ranges over functions, run in place: the loop's record is an object of the abstract heap; a call of yield is the round's own code.
-/
import Derived.Test.YtjpjnjidchdlbaaDoorEngQ
namespace Go.Proofs.YtjpjnjidchdlbaaDoor
set_option linter.unusedSimpArgs false
set_option linter.unusedVariables false
open Go Go.RowKit

section
variable {P : Program} {T : Tab} {G : List (Nat × Obj)} {ro : Option Nat} {r r' : Ren} {h h' : List Obj} {s : St} {a : Act} {w w' : World}
/-- a new block of whatever kind -/
theorem RepH.pushO (R : RepH G r h w) {o o' : Obj} (ho : ObjOk (rpush r h w) w.heap.size o (w.alloc o')) (hs : ∀ v ∈ cellsOf o, s1 h.length v) :
    RepH G (rpush r h w) (h ++ [o]) (w.alloc o') := by
  have he : ∀ i, i < h.length → rpush r h w i = r i := fun i hi => rpush_lt r h w hi
  have old : ∀ i u, (h ++ [o])[i]? = some u → (h[i]? = some u ∧ i < h.length) ∨ (i = h.length ∧ u = o) := by
    intro i u hi
    by_cases hlt : i < h.length
    · left; rw [List.getElem?_append_left hlt] at hi; exact ⟨hi, hlt⟩
    · right
      rw [List.getElem?_append_right (by omega)] at hi
      have : i - h.length = 0 := by
        by_cases e : i - h.length = 0
        · exact e
        · rw [List.getElem?_eq_none (by simp; omega)] at hi; cases hi
      rw [this] at hi
      simp at hi
      exact ⟨by omega, hi.symm⟩
  have hn : rpush r h w h.length = w.heap.size := by simp [rpush]
  refine ⟨fun i u hi => ?_, fun i j u v hi hj hh ha hr => ?_, fun i u hi v hv => ?_, fun g u hg => ?_⟩
  · rcases old i u hi with ⟨h1, h2⟩ | ⟨rfl, rfl⟩
    · rw [he i h2]
      by_cases ha : alive u = true
      · refine ObjOk.congr he (R.sc i u h1) ?_ (R.ok i u h1)
        exact Below.heap_alloc _ _ _ (R.lt h1 ha)
      · cases u <;> first | trivial | (simp [alive] at ha)
    · rw [hn]; exact ho
  · rcases old i u hi with ⟨h1, h2⟩ | ⟨rfl, rfl⟩
    · rcases old j v hj with ⟨g1, g2⟩ | ⟨rfl, rfl⟩
      · rw [he i h2, he j g2] at hr
        exact R.inj i j u v h1 g1 hh ha hr
      · rw [he i h2, hn] at hr
        have := R.lt h1 (alive_of_hot hh)
        omega
    · rcases old j v hj with ⟨g1, g2⟩ | ⟨rfl, rfl⟩
      · rw [he j g2, hn] at hr
        have := R.lt g1 ha
        omega
      · rfl
  · have hle : h.length ≤ (h ++ [o]).length := by simp
    rcases old i u hi with ⟨h1, h2⟩ | ⟨rfl, rfl⟩
    · exact s1_mono hle (R.sc i u h1 v hv)
    · exact s1_mono hle (hs v hv)
  · obtain ⟨⟨c', t', f', rfl, h1, f'', h2⟩, h3⟩ := R.gl g u hg
    have hlt : g < w.heap.size := (Array.getElem?_eq_some_iff.1 h2).1
    refine ⟨⟨c', t', f', rfl, h1, f'', ?_⟩, fun i u hi hh => ?_⟩
    · rw [← h2]; exact Below.heap_alloc _ _ _ hlt
    · rcases old i u hi with ⟨g1, g2⟩ | ⟨rfl, rfl⟩
      · rw [he i g2]; exact h3 i u g1 hh
      · rw [hn]; omega
/-- a hot block that is turned into another of its kind -/
theorem RepH.setO (R : RepH G r h w) {b : Nat} {o o1 o' : Obj} (hb : h[b]? = some o) (hh : hot o = true) (hh1 : hot o1 = true) (ho : ObjOk r (r b) o1 { w with heap := w.heap.setIfInBounds (r b) o' }) (hs : ∀ v ∈ cellsOf o1, s1 h.length v) :
    RepH G r (h.set b o1) { w with heap := w.heap.setIfInBounds (r b) o' } := by
  have hlt : b < h.length := (List.getElem?_eq_some_iff.1 hb).1
  have old : ∀ i u, (h.set b o1)[i]? = some u → (i ≠ b ∧ h[i]? = some u) ∨ (i = b ∧ u = o1) := by
    intro i u hi
    rw [List.getElem?_set] at hi
    by_cases e : b = i
    · rw [if_pos e, if_pos hlt] at hi
      cases hi; exact .inr ⟨e.symm, rfl⟩
    · rw [if_neg e] at hi; exact .inl ⟨fun h => e h.symm, hi⟩
  refine ⟨fun i u hi => ?_, fun i j u v hi hj hu ha hr => ?_, fun i u hi v hv => ?_, fun g u hg => ?_⟩
  · rcases old i u hi with ⟨h1, h2⟩ | ⟨rfl, rfl⟩
    · by_cases ha : alive u = true
      · refine ObjOk.congr (h := h) (fun _ _ => rfl) (R.sc i u h2) ?_ (R.ok i u h2)
        have : r b ≠ r i := fun e => h1 (R.inj b i _ u hb h2 hh ha e).symm
        simp [this]
      · cases u <;> first | trivial | (simp [alive] at ha)
    · exact ho
  · have hi' : ∃ q, h[i]? = some q ∧ hot q = true := by
      rcases old i u hi with ⟨h1, h2⟩ | ⟨rfl, rfl⟩
      · exact ⟨u, h2, hu⟩
      · exact ⟨_, hb, hh⟩
    have hj' : ∃ q, h[j]? = some q ∧ alive q = true := by
      rcases old j v hj with ⟨h1, h2⟩ | ⟨rfl, rfl⟩
      · exact ⟨v, h2, ha⟩
      · exact ⟨_, hb, alive_of_hot hh⟩
    obtain ⟨q, g1, g2⟩ := hi'
    obtain ⟨q', g3, g4⟩ := hj'
    exact R.inj i j q q' g1 g3 g2 g4 hr
  · rw [List.length_set]
    rcases old i u hi with ⟨h1, h2⟩ | ⟨rfl, rfl⟩
    · exact R.sc i u h2 v hv
    · exact hs v hv
  · obtain ⟨⟨c0', t', f', rfl, h1, f'', h2⟩, h3⟩ := R.gl g u hg
    have hne : r b ≠ g := h3 b _ hb hh
    refine ⟨⟨c0', t', f', rfl, h1, f'', by simp [hne, h2]⟩, fun i u hi hu => ?_⟩
    rcases old i u hi with ⟨g1, g2⟩ | ⟨rfl, rfl⟩
    · exact h3 i u g2 hu
    · exact hne
theorem Step.setO {b : Nat} {o o1 : Obj} (hb : h[b]? = some o) (hh : hot o = true) (hd : ∀ d, o ≠ .deferred d) (o' : Obj) :
    Step r h w r (h.set b o1) { w with heap := w.heap.setIfInBounds (r b) o' } := by
  have hlt : b < h.length := (List.getElem?_eq_some_iff.1 hb).1
  refine ⟨by simp, fun _ _ => rfl, ⟨rfl, rfl, rfl, by simp, fun k hk hs => ?_⟩, ?_, ?_, ?_⟩
  · have : r b ≠ k := fun e => hs ⟨b, _, hb, hh, e⟩
    simp [this]
  · intro i u hi _ hu
    rw [List.getElem?_set] at hi
    by_cases e : b = i
    · subst e; exact .inl ⟨b, _, hb, hh, rfl⟩
    · rw [if_neg e] at hi
      rcases hu with hu | hu
      · exact .inl ⟨i, u, hi, hu, rfl⟩
      · have := (List.getElem?_eq_some_iff.1 hi).1; omega
  · intro i u hi ha
    have : b ≠ i := by rintro rfl; rw [hb] at hi; cases hi; rw [alive_of_hot hh] at ha; cases ha
    exact ⟨u, by rw [List.getElem?_set_ne this]; exact hi, ha⟩
  · intro i d hi
    rw [List.getElem?_set]
    by_cases e : b = i
    · subst e; rw [hb] at hi; cases hi; exact absurd rfl (hd _)
    · rw [if_neg e]; exact hi
/-! ## The record -/
/-- the machine's record for the abstract one -/
theorem RepH.loop (R : RepH G r h w) {n : Nat} {l : Loop} (hn : h[n]? = some (.loop l)) :
    r n = l.defers ∧ ∃ (arr : Array Value) (d : Nat), w.heap[l.defers]? = some (.loop { l with tmps := arr, defers := d }) ∧ l.tmps.size ≤ arr.size ∧
      ∀ (i : Nat) (v : Value), l.tmps[i]? = some v → isMark v = false → arr[i]? = some (c1 r v) := by
  obtain ⟨e, arr, d, h1, h2, h3⟩ := R.ok n _ hn
  exact ⟨e, arr, d, by rw [← e]; exact h1, h2, h3⟩
/-- the record's state and pending jump turn -/
theorem RepH.turn (R : RepH G r h w) {n q : Nat} {l : Loop} (hn : h[n]? = some (.loop l)) (hq : l.defers = q) (st : LoopState) (pd : Option Code) :
    ∀ (arr : Array Value) (d : Nat), w.heap[q]? = some (.loop { l with tmps := arr, defers := d }) →
      RepH G r (h.set n (.loop { l with state := st, pending := pd })) (w.putObj q (.loop { l with tmps := arr, defers := d, state := st, pending := pd })) ∧
      Step r h w r (h.set n (.loop { l with state := st, pending := pd })) (w.putObj q (.loop { l with tmps := arr, defers := d, state := st, pending := pd })) := by
  intro arr d hw
  obtain ⟨e, arr', d', h1, h2, h3⟩ := R.ok n _ hn
  have hlt : q < w.heap.size := (Array.getElem?_eq_some_iff.1 hw).1
  have e' : r n = q := e.trans hq
  rw [e', hw] at h1
  cases h1
  constructor
  · have := R.setO (o1 := .loop { l with state := st, pending := pd }) (o' := .loop { l with tmps := arr, defers := d, state := st, pending := pd }) hn rfl rfl
      ⟨e, arr, d, by rw [e']; simp [hlt], h2, h3⟩ (show ∀ v ∈ cellsOf (.loop l), s1 h.length v from R.sc n _ hn)
    rw [e'] at this
    exact this
  · have := Step.setO (r := r) (w := w) (o1 := .loop { l with state := st, pending := pd }) hn rfl (fun d => by simp) (.loop { l with tmps := arr, defers := d, state := st, pending := pd })
    rw [e'] at this
    exact this
/-! ## A round -/
def putsL (fl : List Value) (pa : List (Nat × Value)) : List Value := pa.foldl (fun l p => l.set p.1 p.2) fl
/-- slots of the machine under a list of values with names -/
def Slots (r : Ren) (n : Nat) (fl : List Value) (arr : Array Value) : Prop :=
  ∀ (i : Nat) (v : Value), fl[i]? = some v → i < arr.size ∧ (isMark v = false → arr[i]? = some (c3 r v) ∧ s3 n v)
theorem Slots.set {n : Nat} {fl : List Value} {arr : Array Value} (H : Slots r n fl arr) (p : Nat) {v : Value} (hv : s3 n v) : Slots r n (fl.set p v) (arr.setIfInBounds p (c3 r v)) := by
  intro i u hu
  rw [List.getElem?_set] at hu
  by_cases e : p = i
  · subst e
    rw [if_pos rfl] at hu
    split at hu
    · rename_i hlt
      cases hu
      obtain ⟨h1, _⟩ := H p _ (List.getElem?_eq_getElem hlt)
      exact ⟨by simpa using h1, fun _ => ⟨by simp [h1], hv⟩⟩
    · cases hu
  · rw [if_neg e] at hu
    obtain ⟨h1, h2⟩ := H i u hu
    exact ⟨by simpa using h1, fun hm => by rw [Array.getElem?_setIfInBounds_ne e]; exact h2 hm⟩
theorem Slots.puts {n : Nat} : ∀ (ps : List Nat) (vs : List Value) (fl : List Value) (arr : Array Value), Slots r n fl arr → (∀ v ∈ vs, s3 n v) →
    Slots r n (putsL fl (ps.zip vs)) ((ps.zip (vs.map (c3 r))).foldl (fun tmps p => tmps.setIfInBounds p.1 p.2) arr)
  | [], _, _, _, H, _ => by simpa [putsL] using H
  | _ :: _, [], _, _, H, _ => by simpa [putsL] using H
  | p :: ps, v :: vs, fl, arr, H, hv => by
    simp only [putsL, List.zip_cons_cons, List.map_cons, List.foldl_cons]
    exact Slots.puts ps vs _ _ (H.set p (hv v List.mem_cons_self)) fun u hu => hv u (List.mem_cons_of_mem _ hu)
def unloop (s : St) (n : Nat) (l : Loop) (st : LoopState) (pd : Option Code) (h : List Obj) : St := ⟨s.t, h.set n (.loop { l with state := st, pending := pd }), s.d⟩
/-- a round has ended -/
def YEnd (n l : Nat) (s : St) (o : Oper) (K : St → Prop) (e : Exit) (s2 : St) : Prop :=
  ∃ l2 : Loop, s2.h[n]? = some (.loop l2) ∧ l2.defers = l ∧ match e with
    | .normal => putK (unloop s n l2 .ready none s2.h) o.dst (.bool true) K
    | .ret => putK (unloop s n l2 .done (some .ret) s2.h) o.dst (.bool false) K
    | .exit i => putK (unloop s n l2 .done (some (.exit i)) s2.h) o.dst (.bool false) K
    | .goto i => putK (unloop s n l2 .done (some (.goto i)) s2.h) o.dst (.bool false) K
    | _ => False
/-- a round's two parts -/
def YRound (P : Program) (G : List (Nat × Obj)) (n l : Nat) (l0 : Loop) (t0 : List (List Value)) (s : St) (o : Oper) (K : St → Prop) : Prop :=
  AW P G (some l) l0.assign ⟨t0, s.h, []⟩ fun e s1 => e = .normal ∧ ∃ l1 : Loop, s1.h[n]? = some (.loop l1) ∧ l1.defers = l ∧ l1.state = .ready ∧
    AW P G (some l) l0.body ⟨s1.t, s1.h.set n (.loop { l1 with state := .busy, pending := l1.pending }), s1.d⟩ (YEnd n l s o K)
theorem ao_yield {o : Oper} {K : St → Prop} {c : Call} {f : Operand} {l n : Nat} {l0 : Loop} {vs : List Value} {t0 : List (List Value)} (hop : o.op = .call c) (hcal : c.callee = .value f)
    (hev : evK s f fun v => v = .func (.yield l) #[] #[]) (hvs : evsK s c.args.toList fun u => u = vs)
    (hn : s.h[n]? = some (.loop l0)) (hl : l0.defers = l) (hsz : vs.length = l0.params.size)
    (ht0 : ∀ i v, get2 t0 i = some v → (putsL l0.tmps.toList (l0.params.toList.zip vs))[i]? = some v)
    (h : YRound P G n l l0 t0 s o K) : AO P G ro o s K := by
  unfold AO
  intro r a w R N Q hN
  obtain ⟨fv, e1, e2, rfl⟩ := evK_ok R hev
  obtain ⟨_, f1, f2, rfl⟩ := evsK_ok R _ _ hvs
  obtain ⟨hrn, arr, d, hw, ha1, ha2⟩ := R.heap.loop hn
  rw [hl] at hrn hw
  rename_i vs
  let tm := (l0.params.zip (vs.map (c3 r)).toArray).foldl (fun tmps (p : Nat × Value) => tmps.setIfInBounds p.1 p.2) arr
  have hargs : c.args.map a.eval = (vs.map (c3 r)).toArray := by
    apply Array.ext'; simp only [Array.toList_map]; exact f1
  have hy : (Instr.yield l (c.args.map a.eval)).run P w = .ok (.round l l0.fn tm l0.assign l0.body) w := by
    rw [hargs]
    exact run_yield hw (by simp [hsz])
  have he : (execOp a.eval o).run P w = .ok (.round l l0.fn tm l0.assign l0.body) w := by
    have e1' : a.eval f = .func (.yield l) #[] #[] := by rw [e1]; simp [c3, c2, c1]
    obtain ⟨dst, op, type, pos, after, guard⟩ := o
    simp only at hop
    subst hop
    simp only [execOp, resolve, hcal, e1', Deferred.ofValue, Sem.run_bind, Sem.run_pure, Result.andThen_ok, invoke, Array.empty_append]
    exact hy
  have hsl : Slots r s.h.length l0.tmps.toList arr := by
    intro i v hv
    have hv' : l0.tmps[i]? = some v := by simpa using hv
    have hlt : i < arr.size := Nat.lt_of_lt_of_le (Array.getElem?_eq_some_iff.1 hv').1 ha1
    refine ⟨hlt, fun hm => ?_⟩
    have hsc : s1 s.h.length v := R.heap.sc n _ hn v (List.mem_of_getElem? hv)
    exact ⟨by rw [c3_s1 hsc]; exact ha2 i v hv' hm, s3_of_s1 hsc⟩
  have htm : Slots r s.h.length (putsL l0.tmps.toList (l0.params.toList.zip vs)) tm := by
    have := Slots.puts l0.params.toList vs _ _ hsl f2
    have e : tm = (l0.params.toList.zip (vs.map (c3 r))).foldl (fun tmps p => tmps.setIfInBounds p.1 p.2) arr := by
      simp only [tm]
      rw [← Array.foldl_toList]
      simp
    rw [e]; exact this
  have R0 : RepS G r ⟨t0, s.h, []⟩ { tmps := tm, defers := [] } w :=
    ⟨R.heap, fun i v hv => htm i v (ht0 i v hv), rfl, fun i hi => by cases hi⟩
  refine ⟨fun f _ => fen_fn ro f, ?_⟩
  have hd : ∀ c, o.op ≠ .defer c := by intro c' hc'; rw [hop] at hc'; cases hc'
  rw [Oper.semAt_eq _ _ _ hd, he, Oper.uponIn_round]
  refine ⟨fun h => (by rw [fen_depth] at h; cases h), roundIn_of_wpIn (fen_fn ro _) ?_⟩
  have hfen : (fen ro).inRound l = fen (some l) := by cases ro <;> rfl
  rw [hfen]
  unfold YRound at h
  refine wpIn_mono (aw_out h R0) ?_
  rintro e a1 w1 ⟨r1, s1, S1, R1, rfl, l1, hn1, hl1, hst1, h2⟩
  obtain ⟨hrn1, arr1, d1, hw1, _, _⟩ := R1.heap.loop hn1
  rw [hl1] at hrn1 hw1
  obtain ⟨T1, T2⟩ := R1.heap.turn hn1 hl1 .busy l1.pending arr1 d1 hw1
  refine ⟨_, run_beginRound hw1 hst1, ?_⟩
  have RB : RepS G r1 ⟨s1.t, s1.h.set n (.loop { l1 with state := .busy, pending := l1.pending }), s1.d⟩ a1 (w1.putObj l (.loop { l1 with tmps := arr1, defers := d1, state := .busy, pending := l1.pending })) :=
    R1.move T1 (by simp) (fun _ _ => rfl) T2.dfr
  refine wpIn_mono (aw_out h2 RB) ?_
  rintro e2 a2 w2 ⟨r2, s2, S2, R2, l2, hn2, hl2, h3⟩
  obtain ⟨hrn2, arr2, d2, hw2, _, _⟩ := R2.heap.loop hn2
  rw [hl2] at hrn2 hw2
  have Sall : Step r s.h w r2 s2.h w2 := (S1.trans T2).trans S2
  have done : ∀ (st : LoopState) (pd : Option Code) (b : Bool), putK (unloop s n l2 st pd s2.h) o.dst (.bool b) K →
      N (a.put o.dst (.bool b)) (w2.putObj l (.loop { l2 with tmps := arr2, defers := d2, state := st, pending := pd })) := by
    intro st pd b hk
    obtain ⟨U1, U2⟩ := R2.heap.turn hn2 hl2 st pd arr2 d2 hw2
    have Sz := Sall.trans U2
    have RE : RepS G r2 ⟨s.t, s2.h.set n (.loop { l2 with state := st, pending := pd }), s.d⟩ a _ := R.move U1 Sz.len Sz.ext Sz.dfr
    obtain ⟨s', g1, g2, g3⟩ := putK_ok RE (v := .bool b) trivial hk
    have := hN r2 s' _ _ (by rw [g2]; exact Sz) g1 g3
    simpa [c3, c2, c1, c0] using this
  cases e2 with
  | normal => exact ⟨_, _, run_endRound none hw2, done .ready none true h3⟩
  | ret => exact ⟨_, _, run_endRound (some .ret) hw2, done .done (some .ret) false h3⟩
  | exit i => exact ⟨_, _, run_endRound (some (.exit i)) hw2, done .done (some (.exit i)) false h3⟩
  | goto i => exact ⟨_, _, run_endRound (some (.goto i)) hw2, done .done (some (.goto i)) false h3⟩
  | panic c => exact h3.elim
  | outgrown => exact h3.elim
end
end Go.Proofs.YtjpjnjidchdlbaaDoor
