/-
  Lemmas that the Moment laws share (no condition).
-/
import Derived.Test.YtjpjnjidchdlbaaDoorMomJ
import Derived.Test.YtjpjnjidchdlbaaDoorMomR
namespace Go.Proofs.YtjpjnjidchdlbaaDoor
set_option linter.unusedSimpArgs false
set_option linter.unusedVariables false
open Go
set_option maxRecDepth 100000
set_option maxHeartbeats 4000000
/-- new blocks, that may hold names, told in another order -/
theorem ren_list2 {n : Nat} {base news us : List Obj} {q : List Nat} {t1 t2 : List (List Value)} (hn : n ≤ base.length) (hq : q.length = us.length) (hnd : q.Nodup) (hus : ∀ (j : Nat) (o : Obj), us[j]? = some o → news[q.getD j 0]? = some (rO (tq base.length q) o))
    (hcl : ∀ o ∈ us, ∀ v ∈ cellsOf o, s1 (base.length + us.length) v) (hb : ∀ o ∈ base, ∀ v ∈ cellsOf o, s1 base.length v) (ht : t1 = t2.map (List.map (r3 (tq base.length q))))
    (hs : t2.all (fun row => row.all fun v => isMark v || scop3 (base.length + us.length) v) = true) : RenOk n (tq base.length q) ⟨t1, base ++ news, []⟩ ⟨t2, base ++ us, []⟩ := by
  have hl : (base ++ us).length = base.length + us.length := List.length_append
  refine ⟨fun i hi => tq_lt (by omega), fun i j hi hj he => ?_, by show n ≤ (base ++ us).length; omega, fun i o hi => ?_, fun i v hv => ?_, rfl, fun i hi => by simp at hi⟩
  · have hi' : i < base.length + us.length := by rw [← hl]; exact hi
    have hj' : j < base.length + us.length := by rw [← hl]; exact hj
    by_cases h1 : i < base.length
    · by_cases h2 : j < base.length
      · rw [tq_lt h1, tq_lt h2] at he; exact he
      · rw [tq_lt h1, tq_ge (by omega)] at he; omega
    · by_cases h2 : j < base.length
      · rw [tq_ge (by omega), tq_lt h2] at he; omega
      · rw [tq_ge (by omega), tq_ge (by omega)] at he
        have a1 : i - base.length < q.length := by omega
        have a2 : j - base.length < q.length := by omega
        have : i - base.length = j - base.length := by
          refine (List.getElem_inj (h₀ := a1) (h₁ := a2) hnd).1 ?_
          have he2 : q.getD (i - base.length) 0 = q.getD (j - base.length) 0 := by omega
          simpa [List.getD_eq_getElem?_getD, a1, a2] using he2
        omega
  · have hi' : (base ++ us)[i]? = some o := hi
    show (base ++ news)[tq base.length q i]? = some (rO (tq base.length q) o) ∧ ∀ v ∈ cellsOf o, s1 (base ++ us).length v
    rw [hl]
    by_cases h1 : i < base.length
    · rw [List.getElem?_append_left h1] at hi'
      have hsc := hb o (List.mem_of_getElem? hi')
      rw [tq_lt h1, rO_id (fun i hi => tq_lt hi) hsc, List.getElem?_append_left h1]
      exact ⟨hi', fun v hv => s1_mono (by omega) (hsc v hv)⟩
    · rw [List.getElem?_append_right (by omega)] at hi'
      rw [tq_ge (by omega), List.getElem?_append_right (by omega), Nat.add_sub_cancel]
      exact ⟨hus _ o hi', hcl o (List.mem_of_getElem? hi')⟩
  · have hv' : get2 t2 i = some v := hv
    obtain ⟨row, h1, h2⟩ := get2_iff.1 hv'
    refine ⟨r3 (tq base.length q) v, ?_, ?_⟩
    · show get2 t1 i = _
      rw [ht]
      refine get2_iff.2 ⟨row.map (r3 (tq base.length q)), by rw [List.getElem?_map, h1]; rfl, by rw [List.getElem?_map, h2]; rfl⟩
    · have h5 := List.all_eq_true.1 (List.all_eq_true.1 hs row (List.mem_of_getElem? h1)) v (List.mem_of_getElem? h2)
      rw [Bool.or_eq_true] at h5
      rcases h5 with h5 | h5
      · exact .inl h5
      · refine .inr ⟨rfl, ?_⟩
        show s3 (base ++ us).length v
        rw [hl]
        exact (scop3_ok h5).1
theorem fits_len {l : List Int} {g b tp nr me step : Int} {bl : List Bd} (h : fitsF l g b tp nr me step bl = true) : l.length = bl.length ∧ bl.length ≤ 4 := by
  unfold fitsF okState at h
  simp only [Bool.and_eq_true, decide_eq_true_eq] at h
  exact ⟨h.1, h.2.2.2.2.2.1⟩
theorem winI_set {c c' : Array Value} {l : List Int} {i : Nat} {y : Int} (hi : i < l.length) (hw : WinI c 0 l) (h : ∀ j : Nat, c'[j]? = if j = i then some (I64 y) else c[j]?) : WinI c' 0 (l.set i y) := by
  intro j x hj
  rw [Nat.zero_add, h j]
  rw [List.getElem?_set] at hj
  by_cases h1 : i = j
  · subst h1
    rw [if_pos rfl, if_pos hi] at hj
    cases hj
    rw [if_pos rfl]
  · rw [if_neg h1] at hj
    rw [if_neg (fun e => h1 e.symm)]
    have := hw j x hj
    rwa [Nat.zero_add] at this
theorem mix_next {α : Type} {r l : List α} {i : Nat} {x : α} (hl : l.length = r.length) (hx : r[i]? = some x) : (r.take i ++ l.drop i).set i x = r.take (i + 1) ++ l.drop (i + 1) := by
  have hi : i < r.length := (List.getElem?_eq_some_iff.1 hx).1
  have hxe : r[i] = x := (List.getElem?_eq_some_iff.1 hx).2
  have h2 : (r.take i).length = i := by simp; omega
  rw [List.set_append_right i _ (by omega), h2, Nat.sub_self, List.drop_eq_getElem_cons (by omega), List.set_cons_zero, List.take_succ_eq_append_getElem hi, hxe]
  simp
theorem mix_at {α : Type} {r l : List α} {i : Nat} (hl : l.length = r.length) (hi : i < r.length) : ∃ y, (r.take i ++ l.drop i)[i]? = some y := by
  have h2 : (r.take i).length = i := by simp; omega
  exact ⟨l[i], by rw [List.getElem?_append_right (by omega), h2, Nat.sub_self, List.getElem?_drop, Nat.add_zero]; exact List.getElem?_eq_getElem (by omega)⟩
theorem rO_cl {c : Array Value} {t : TypeId} {r : Ren} (hc : ∀ x ∈ c.toList, cleanV x = true) : rO r (.cells c t) = .cells c t :=
  rO_id (n := 0) (fun i hi => absurd hi (Nat.not_lt_zero i)) fun v hv => clean_sc (hc v hv) 0
theorem orN {b c : Bool} (hc : c = false) (h : (b || c) = false) : b = false := by rw [hc, Bool.or_false] at h; exact h
theorem LostC_q (G) {h0 : List Obj} {s : St} {d : Option Nat} {K : St → Prop} (a b c x y z : Int) (hk : putK s d (A3 (wrapS .i64 (x - a)) (wrapS .i64 (y - b)) (wrapS .i64 (z - c))) K) : Quiet Tryd.prog G h0 33 [A3 a b c, A3 x y z] fun v => putK s d v K := by
  refine quiet_of (Lost_c G a b c x y z) rfl ?_
  rintro v h' ⟨rfl, rfl⟩
  exact ⟨rfl, rfl, hk⟩
theorem MwakesC_q (tt : TypeId) {h0 : List Obj} {s : St} {d : Option Nat} {K : St → Prop} (hk : putK s d (.bool true) K) : Quiet Tryd.prog (GM tt) h0 26 [] fun v => putK s d v K := by
  refine quiet_of (Mwakes_c tt) rfl ?_
  rintro v h' ⟨rfl, rfl⟩
  exact ⟨rfl, rfl, hk⟩
end Go.Proofs.YtjpjnjidchdlbaaDoor
