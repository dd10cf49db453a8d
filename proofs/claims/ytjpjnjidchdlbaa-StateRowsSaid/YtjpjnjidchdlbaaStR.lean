/-
  Rows and states tell each other: the plain law (no condition).
-/
import Derived.Test.YtjpjnjidchdlbaaStM
namespace Go.Proofs.Ytjpjnjidchdlbaa
set_option linter.unusedSimpArgs false
set_option linter.unusedVariables false
open Go
set_option maxRecDepth 100000
set_option maxHeartbeats 4000000
theorem flatN_at : ∀ (l : List Bd) (i q : Nat), q < 6 → (l.flatMap numsB)[i * 6 + q]? = (l[i]?).bind fun b => (numsB b)[q]?
  | [], i, q, _ => by simp
  | b :: l, 0, q, hq => by
    rw [List.flatMap_cons, List.getElem?_append_left (by show 0 * 6 + q < 6; omega), Nat.zero_mul, Nat.zero_add]
    rfl
  | b :: l, i + 1, q, hq => by
    rw [List.flatMap_cons, List.getElem?_append_right (by show 6 ≤ _; omega), show (i + 1) * 6 + q - (numsB b).length = i * 6 + q from by show (i + 1) * 6 + q - 6 = _; omega, flatN_at l i q hq]
    simp
theorem rowN_at (step : Int) (n : Nat) (l : List Bd) {i q : Nat} (hq : q < 6) : (rowN step n l)[2 + i * 6 + q]? = (l[i]?).bind fun b => (numsB b)[q]? := by
  unfold rowN
  rw [List.getElem?_append_right (by show 2 ≤ _; omega), show 2 + i * 6 + q - [step, (n : Int)].length = i * 6 + q from by show 2 + i * 6 + q - 2 = _; omega, flatN_at l i q hq]
theorem bdAt_row (step : Int) (n : Nat) {l : List Bd} {i : Nat} {b : Bd} (h : l[i]? = some b) : bdAt (rowN step n l) i = b := by
  have key : ∀ q x, q < 6 → (numsB b)[q]? = some x → (rowN step n l).getD (2 + i * 6 + q) 0 = x := by
    intro q x hq hx
    refine getD_some ?_
    rw [rowN_at step n l hq, h]
    exact hx
  unfold bdAt
  rw [key 1 _ (by decide) rfl, key 2 _ (by decide) rfl, key 3 _ (by decide) rfl, key 4 _ (by decide) rfl, key 5 _ (by decide) rfl, show (rowN step n l).getD (2 + i * 6) 0 = b.a from key 0 _ (by decide) rfl]
theorem bdsOf_row (step : Int) (l : List Bd) : bdsOf (rowOf step l) = l := by
  apply List.ext_getElem?
  intro i
  have hlen : (rowOf step l).length / 6 = l.length := by unfold rowOf; rw [rowN_len]; omega
  by_cases hi : i < l.length
  · rw [bdsOf_at (by rw [hlen]; exact hi), List.getElem?_eq_getElem hi]
    exact congrArg some (bdAt_row step _ (List.getElem?_eq_getElem hi))
  · rw [List.getElem?_eq_none (by rw [bdsOf_len, hlen]; omega), List.getElem?_eq_none (by omega)]
theorem row_step (step : Int) (l : List Bd) : (rowOf step l).getD 0 0 = step := rfl
theorem ofOk_row {step : Int} {l : List Bd} (h : okState step l = true) : ofOk (rowOf step l) = true := by
  have h1 : 1 ≤ l.length := by
    have h2 := h
    unfold okState at h2
    simp only [Bool.and_eq_true, decide_eq_true_iff] at h2
    omega
  have hlen : (rowOf step l).length = 2 + 6 * l.length := rowN_len _ _ _
  unfold ofOk shapeOk
  rw [bdsOf_row, row_step, h, decide_eq_true (by omega : 8 ≤ (rowOf step l).length), decide_eq_true (by omega : (rowOf step l).length % 6 = 2)]
  have : (rowOf step l).getD 1 0 = (((rowOf step l).length / 6 : Nat) : Int) := by
    rw [hlen, show (2 + 6 * l.length) / 6 = l.length from by omega]
    rfl
  rw [decide_eq_true this]
  rfl
theorem not_mod {l : List Int} (h : l.length % 6 ≠ 2) : ofOk l = false := by
  unfold ofOk shapeOk
  rw [decide_eq_false h]
  simp
theorem row_of {li : List Int} (h : ofOk li = true) : rowOf (li.getD 0 0) (bdsOf li) = li := by
  unfold ofOk shapeOk at h
  simp only [Bool.and_eq_true, decide_eq_true_iff] at h
  obtain ⟨⟨h1, h2, h3⟩, _⟩ := h
  apply List.ext_getElem?
  intro j
  have hlen : (rowOf (li.getD 0 0) (bdsOf li)).length = li.length := by unfold rowOf; rw [rowN_len, bdsOf_len]; omega
  by_cases hj : j < li.length
  · have gj : ∀ x, li.getD j 0 = x → some x = li[j]? := by
      intro x hx
      rw [List.getD_eq_getElem?_getD, List.getElem?_eq_getElem hj] at hx
      rw [List.getElem?_eq_getElem hj, ← hx]
      rfl
    by_cases h0 : j = 0
    · subst h0
      exact gj _ rfl
    by_cases h01 : j = 1
    · subst h01
      refine gj _ ?_
      rw [h3, bdsOf_len]
    obtain ⟨i, q, hq, rfl⟩ : ∃ i q, q < 6 ∧ j = 2 + i * 6 + q := ⟨(j - 2) / 6, (j - 2) % 6, Nat.mod_lt _ (by omega), by omega⟩
    have hi : i < li.length / 6 := by omega
    unfold rowOf
    rw [rowN_at _ _ _ hq, bdsOf_at hi]
    show (numsB (bdAt li i))[q]? = _
    match q, hq with
    | 0, _ => exact gj _ rfl
    | 1, _ => exact gj _ rfl
    | 2, _ => exact gj _ rfl
    | 3, _ => exact gj _ rfl
    | 4, _ => exact gj _ rfl
    | 5, _ => exact gj _ rfl
  · rw [List.getElem?_eq_none (by omega), List.getElem?_eq_none (by omega)]
theorem ofOk_state {li : List Int} (h : ofOk li = true) : okState (li.getD 0 0) (bdsOf li) = true := by
  unfold ofOk at h
  exact (Bool.and_eq_true _ _ ▸ h).2
theorem winI_take {c : Array Value} {off : Nat} {l : List Int} (h : WinI c off l) (n : Nat) : WinI c off (l.take n) := by
  intro j x hj
  rw [List.getElem?_take] at hj
  split at hj
  · exact h j x hj
  · cases hj
end Go.Proofs.Ytjpjnjidchdlbaa
