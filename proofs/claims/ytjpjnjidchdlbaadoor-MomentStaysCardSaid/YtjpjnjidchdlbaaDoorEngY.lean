/-
  Regions that draw their order, by facts: what each operation makes true, whatever has been done before it (no condition).
-/
import Derived.Test.YtjpjnjidchdlbaaDoorEngX
namespace Go.Proofs.YtjpjnjidchdlbaaDoor
set_option linter.unusedSimpArgs false
set_option linter.unusedVariables false
open Go Go.RowKit

section
variable {P : Program} {T : Tab} {G : List (Nat × Obj)} {ro : Option Nat} {ops : Array Oper}
/-- operations wait for earlier ones alone -/
noncomputable def lowB (l : List Oper) : Nat → Bool :=
  List.rec (motive := fun _ => Nat → Bool) (fun _ => true) (fun o _ ih i => (preds o).all (fun p => Nat.blt p i) && ih (i + 1)) l
theorem lowB_spec : ∀ (l : List Oper) (n : Nat), lowB l n = true → ∀ (i : Nat) (o : Oper), l[i]? = some o → ∀ p ∈ preds o, p < n + i
  | [], _, _, i, o, h => by simp at h
  | o :: l, n, hb, i, o', h => by
    have hb' : ((preds o).all (fun p => Nat.blt p n) && lowB l (n + 1)) = true := hb
    rw [Bool.and_eq_true] at hb'
    cases i with
    | zero =>
      cases h
      intro p hp
      exact Nat.le_of_ble_eq_true (List.all_eq_true.1 hb'.1 p hp)
    | succ i =>
      intro p hp
      have := lowB_spec l (n + 1) hb'.2 i o' (by simpa using h) p hp
      omega
/-- what each operation owes -/
def stepsK (P : Program) (T : Tab) (G : List (Nat × Obj)) (ro : Option Nat) (all : List Oper) (J : (Nat → Bool) → St → Prop) (l : List Oper) : Nat → Prop :=
  List.rec (motive := fun _ => Nat → Prop) (fun _ => True) (fun o _ ih i =>
    (∀ S s, J S s → S i = false → (∀ p, p ∈ preds o → S p = true) → guardK P T G ro all s o fun s' => J (fun j => S j || Nat.beq j i) s') ∧ ih (i + 1)) l
theorem stepsK_spec {all : List Oper} {J : (Nat → Bool) → St → Prop} : ∀ (l : List Oper) (n : Nat), stepsK P T G ro all J l n → ∀ (i : Nat) (o : Oper), l[i]? = some o →
    ∀ S s, J S s → S (n + i) = false → (∀ p, p ∈ preds o → S p = true) → guardK P T G ro all s o fun s' => J (fun j => S j || Nat.beq j (n + i)) s'
  | [], _, _, i, o, h => by simp at h
  | o :: l, n, hs, i, o', h => by
    have hs' : (∀ S s, J S s → S n = false → (∀ p, p ∈ preds o → S p = true) → guardK P T G ro all s o fun s' => J (fun j => S j || Nat.beq j n) s') ∧ stepsK P T G ro all J l (n + 1) := hs
    cases i with
    | zero => cases h; exact hs'.1
    | succ i =>
      have := stepsK_spec l (n + 1) hs'.2 i o' (by simpa using h)
      rw [show n + (i + 1) = n + 1 + i from by omega]
      exact this
theorem inv_any (hT : TabOk P T) (hlow : lowB ops.toList 0 = true) {J : (Nat → Bool) → St → Prop} (hstep : stepsK P T G ro ops.toList J ops.toList 0) {Q : Exit → Act → World → Prop} :
    ∀ (n : Nat) (rest : List (Nat × Bool)) (listed : Array Bool) (r : Ren) (s : St) (a : Act) (w : World),
    rest.length = n → Listed ops listed rest → rest.Pairwise (fun a b => a.1 ≠ b.1) → (∀ a ∈ rest, a.1 < ops.size) → RepS G r s a w → J (fun j => listed.getD j false) s →
    (∀ r' s' a' w' S, Step r s.h w r' s'.h w' → RepS G r' s' a' w' → (∀ i, i < ops.size → S i = true) → J S s' → Q .normal a' w') →
    wpAnyIn (fen ro) 0 P .any ops Q n listed a w := by
  intro n
  induction n with
  | zero =>
    intro rest listed r s a w hn hl _ _ R h hQ
    cases rest with
    | cons x rest => simp at hn
    | nil =>
      refine ⟨?_, hQ r s a w _ (Step.refl _ _ _) R (fun i hi => ?_) h⟩
      · refine List.eq_nil_iff_forall_not_mem.2 fun i hi => ?_
        obtain ⟨o, _, ⟨a, ha, _⟩, _⟩ := ready_spec hl hi
        simp at ha
      · have := (hl.2 i hi).2 (fun a ha => by simp at ha)
        rw [Array.getD_eq_getD_getElem?, Array.getElem?_eq_getElem (by rw [hl.1]; exact hi)] at this ⊢
        simpa using this
  | succ n ih =>
    intro rest listed r s a w hn hl hp hv R h hQ
    refine ⟨fun he => ?_, fun i hi => ?_⟩
    · have hex : ∃ m, ∃ a ∈ rest, a.1 = m := by
        cases rest with
        | nil => simp at hn
        | cons x rest => exact ⟨x.1, x, List.mem_cons_self, rfl⟩
      have hmin : ∃ m, (∃ a ∈ rest, a.1 = m) ∧ ∀ k, (∃ a ∈ rest, a.1 = k) → m ≤ k := by
        obtain ⟨m0, hm0⟩ := hex
        have key : ∀ m, (∃ a ∈ rest, a.1 = m) → ∃ m, (∃ a ∈ rest, a.1 = m) ∧ ∀ k, (∃ a ∈ rest, a.1 = k) → m ≤ k := by
          intro m
          induction m using Nat.strongRecOn with
          | _ m ihm =>
            intro hm
            by_cases hc : ∃ k, (∃ a ∈ rest, a.1 = k) ∧ k < m
            · obtain ⟨k, hk, hlt⟩ := hc
              exact ihm k hlt hk
            · refine ⟨m, hm, fun k hk => ?_⟩
              refine Nat.le_of_not_lt fun hlt => hc ⟨k, hk, hlt⟩
        exact key m0 hm0
      obtain ⟨m, ⟨x, hx, rfl⟩, hmin⟩ := hmin
      have hlt := hv x hx
      have hready : x.1 ∈ Region.ready .any ops listed := by
        refine List.mem_filter.2 ⟨List.mem_range.2 hlt, ?_⟩
        simp only [Array.getElem?_eq_getElem hlt, Option.map_some, Option.getD_some, Bool.and_eq_true, Bool.not_eq_true']
        constructor
        · have : ¬ listed.getD x.1 true = true := fun hc => (hl.2 x.1 hlt).1 hc x hx rfl
          simpa using this
        · refine Array.all_eq_true'.2 fun e he => ?_
          cases hbd : Region.binds .any e with
          | false => rfl
          | true =>
            simp only [Bool.not_true, Bool.false_or]
            have hpr : e.on ∈ preds ops[x.1] := List.mem_map.2 ⟨e, List.mem_filter.2 ⟨by simpa using he, hbd⟩, rfl⟩
            have hl1 := lowB_spec ops.toList 0 hlow x.1 ops[x.1] (by simp [hlt]) _ hpr
            have hl2 : e.on < ops.size := by omega
            have : listed.getD e.on true = true := (hl.2 _ hl2).2 fun b hb hc => by
              have := hmin e.on ⟨b, hb, hc⟩
              omega
            rw [Array.getD_eq_getD_getElem?, Array.getElem?_eq_getElem (by rw [hl.1]; exact hl2)] at this ⊢
            simpa using this
      rw [he] at hready; simp at hready
    · obtain ⟨o, ho, ⟨x, hx, rfl⟩, hpr⟩ := ready_spec hl hi
      obtain ⟨p, q, hpq⟩ := List.append_of_mem hx
      subst hpq
      obtain ⟨hp1, hp2, hp3⟩ := List.pairwise_append.1 hp
      obtain ⟨hp4, hp5⟩ := List.pairwise_cons.1 hp2
      have hne : ∀ b ∈ p ++ q, b.1 ≠ x.1 := by
        intro b hb
        rcases List.mem_append.1 hb with hb | hb
        · exact hp3 b hb x List.mem_cons_self
        · exact fun he => hp4 b hb he.symm
      have hl' := listed_set hl hne
      have hmem : ∀ b ∈ p ++ q, b ∈ p ++ x :: q := fun b hb => by
        rcases List.mem_append.1 hb with hb | hb
        · exact List.mem_append_left _ hb
        · exact List.mem_append_right _ (List.mem_cons_of_mem _ hb)
      have hpp : (p ++ q).Pairwise (fun a b => a.1 ≠ b.1) := List.pairwise_append.2 ⟨hp1, hp5, fun b hb c hc => hp3 b hb c (List.mem_cons_of_mem _ hc)⟩
      have hlen : (p ++ q).length = n := by simp at hn ⊢; omega
      have hxs : x.1 < listed.size := by rw [hl.1]; exact hv x hx
      have hfalse : listed.getD x.1 false = false := by
        have : ¬ listed.getD x.1 true = true := fun hc => (hl.2 x.1 (hv x hx)).1 hc x hx rfl
        rw [Array.getD_eq_getD_getElem?, Array.getElem?_eq_getElem hxs] at this ⊢
        simpa using this
      have hpreds : ∀ p', p' ∈ preds o → listed.getD p' false = true := by
        intro p' hp'
        have hlt : p' < ops.size := by
          have := lowB_spec ops.toList 0 hlow x.1 o (by simpa using ho) p' hp'
          have := hv x hx
          omega
        have := (hl.2 p' hlt).2 fun b hb => hpr p' hp' b hb
        rw [Array.getD_eq_getD_getElem?, Array.getElem?_eq_getElem (by rw [hl.1]; exact hlt)] at this ⊢
        simpa using this
      have hS : (fun j => (listed.setIfInBounds x.1 true).getD j false) = fun j => listed.getD j false || Nat.beq j (0 + x.1) := by
        funext j
        rw [Nat.zero_add]
        by_cases hj : x.1 = j
        · subst hj
          have hb : Nat.beq x.1 x.1 = true := Nat.beq_refl _
          rw [hb, Bool.or_true]
          simp [Array.getD_eq_getD_getElem?, hxs]
        · have hb : Nat.beq j x.1 = false := by
            cases hc : Nat.beq j x.1 with
            | false => rfl
            | true => exact absurd (Nat.eq_of_beq_eq_true hc).symm hj
          rw [hb, Bool.or_false]
          simp only [Array.getD_eq_getD_getElem?]
          rw [Array.getElem?_setIfInBounds_ne hj]
      have hg := stepsK_spec ops.toList 0 hstep x.1 o (by simpa using ho) _ s h (by rw [Nat.zero_add]; exact hfalse) hpreds
      have key := (agu_of hT hg) r a w R (wpAnyIn (fen ro) 0 P .any ops Q n (listed.setIfInBounds x.1 true)) Q (fun r' s' a' w' S R' k =>
        ih (p ++ q) _ r' s' a' w' hlen hl' hpp (fun b hb => hv b (hmem b hb)) R' (by rw [hS]; exact k) (fun r'' s'' a'' w'' Z S' R'' hz k' => hQ r'' s'' a'' w'' Z (S.trans S') R'' hz k'))
      unfold wpOpIn
      simp only [ho]
      by_cases hw : Region.wanted o (yielded ops a.tmps) = true
      · rw [if_pos hw]; exact key.1 hw
      · rw [if_neg hw]
        exact ⟨fun f _ => fen_fn ro f, key.2 (by simpa using hw)⟩
/-- the body hands back a value; all that was laid is kept -/
theorem fin_allP {h0 : List Obj} {k : Value → List Obj → Prop} {v : Value} {s : St} (h1 news : List Obj) (hs : s.h = h1 ++ news) (hl : h1.length = h0.length)
    (hv : s3 (h0.length + news.length) v ∧ ∀ t : Ren, (∀ i, i < h0.length + news.length → t i = i) → r3 t v = v)
    (hsc : ∀ (o : Obj), o ∈ h1 ++ news → ∀ x ∈ cellsOf o, s1 (h0.length + news.length) x) (hn : news.all isCells = true) (hk : k v (h1 ++ news)) : Fin h0 k v s := by
  have hid : ∀ i, i < h0.length + news.length → tau h0.length (List.range' h0.length news.length) i = i := by
    intro i hi
    unfold tau
    split
    · rfl
    · rw [List.getD_eq_getElem?_getD, List.getElem?_range' (by omega)]
      simp; omega
  obtain ⟨z1, z2⟩ := hv
  refine ⟨h1, List.range' h0.length news.length, v, news, (z2 _ hid).symm, by simpa using z1, hl, fun i o hi => .inr ⟨?_, ?_⟩, by simp, fun j o hj => ⟨?_, ?_, ?_, ?_⟩, List.nodup_range', hk⟩
  · have hlt : i < h1.length := (List.getElem?_eq_some_iff.1 hi).1
    rw [rO_id hid (hsc o (List.mem_append_left _ (List.mem_of_getElem? hi))), hs, List.getElem?_append_left hlt]; exact hi
  · simpa using hsc o (List.mem_append_left _ (List.mem_of_getElem? hi))
  · exact isCells_ok (List.all_eq_true.1 hn o (List.mem_of_getElem? hj))
  · simpa using hsc o (List.mem_append_right _ (List.mem_of_getElem? hj))
  · have hlt : j < news.length := (List.getElem?_eq_some_iff.1 hj).1
    rw [List.getD_eq_getElem?_getD, List.getElem?_range' hlt]
    simp
  · have hlt : j < news.length := (List.getElem?_eq_some_iff.1 hj).1
    rw [rO_id hid (hsc o (List.mem_append_right _ (List.mem_of_getElem? hj))), hs, List.getD_eq_getElem?_getD, List.getElem?_range' hlt]
    simp only [Option.getD_some, Nat.one_mul]
    rw [List.getElem?_append_right (by omega)]
    rw [show h0.length + j - h1.length = j from by omega]; exact hj
/-- a region that draws its order: facts J that each operation hands on -/
theorem ad_inv (hT : TabOk P T) (hm : P.follows .mixedOrders = true) (hlow : lowB ops.toList 0 = true) (J : (Nat → Bool) → St → Prop) {s : St} {K : St → Prop}
    (h0 : J (fun _ => false) s) (hstep : stepsK P T G ro ops.toList J ops.toList 0) (hend : ∀ S s, (∀ i, i < ops.size → S i = true) → J S s → (∀ (i : Nat) (o : Obj), s.h[i]? = some o → ∀ v ∈ cellsOf o, s1 s.h.length v) → K s) : AD P G ro ops s K := by
  unfold AD
  intro id
  unfold AW
  intro r a w R
  refine wpIn_region_any hm ?_
  have R' : RepS G r s a { w with drawn := w.drawn + 1 } := R.world rfl
  have S' : Step r s.h w r s.h { w with drawn := w.drawn + 1 } := Step.same rfl rfl rfl rfl
  let rest : List (Nat × Bool) := (List.range ops.size).map fun i => (i, false)
  have hrl : rest.length = ops.size := by simp [rest]
  have hmem : ∀ j, j < ops.size → ∃ a ∈ rest, a.1 = j := fun j hj => ⟨(j, false), List.mem_map.2 ⟨j, List.mem_range.2 hj, rfl⟩, rfl⟩
  refine inv_any hT hlow hstep ops.size rest _ r s a _ hrl ⟨by simp, fun j hj => ?_⟩ ?_ ?_ R' ?_ (fun r' s' a' w' Z S R' hz k => ⟨r', s', S'.trans S, R', hend Z s' hz k R'.heap.sc⟩)
  · constructor
    · intro hx
      simp [Array.getD_eq_getD_getElem?, hj] at hx
    · intro hx
      obtain ⟨a, ha, he⟩ := hmem j hj
      exact absurd he (hx a ha)
  · refine List.pairwise_map.2 ?_
    exact List.nodup_range.imp fun h => h
  · intro b hb
    obtain ⟨i, hi, rfl⟩ := List.mem_map.1 hb
    exact List.mem_range.1 hi
  · have e : (fun j => (Array.replicate ops.size false).getD j false) = fun _ => false := by
      funext j
      simp only [Array.getD_eq_getD_getElem?]
      by_cases hj : j < ops.size
      · simp [hj]
      · rw [Array.getElem?_eq_none (by simp; omega)]
        rfl
    first | (rw [e]; exact h0) | (simp only [e]; exact h0)
end
end Go.Proofs.YtjpjnjidchdlbaaDoor
