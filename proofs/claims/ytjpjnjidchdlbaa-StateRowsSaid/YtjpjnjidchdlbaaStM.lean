/-
  wakes (no condition).
-/
import Derived.Test.YtjpjnjidchdlbaaStL
namespace Go.Proofs.Ytjpjnjidchdlbaa
set_option linter.unusedSimpArgs false
set_option linter.unusedVariables false
open Go
set_option maxRecDepth 100000
set_option maxHeartbeats 4000000
def wkB : List Bd := [⟨0, 0, 0, 1, -2, 3⟩, ⟨3, 0, 4, 0, 0, 0⟩]
def wkR : List Int := [2, 2, 0, 0, 0, 1, -2, 3, 3, 0, 4, 0, 0, 0]
def wkC : Array Value := ⟨flatB wkB⟩
theorem wkC_win : WinB wkC 0 wkB := by
  have := winB_own (l := wkB) (rest := [])
  rw [List.append_nil] at this
  exact this
theorem wkC_clean : ∀ x ∈ wkC.toList, cleanV x = true := flatB_clean wkB
def zB : Bd := ⟨0, 0, 0, 0, 0, 0⟩
theorem zB_win : WinB ⟨flatB [zB]⟩ 0 [zB] := by
  have := winB_own (l := [zB]) (rest := [])
  rw [List.append_nil] at this
  exact this
theorem made_z : madeCells ti56.zero.cells (1 * ti56.size) = ⟨flatB [zB]⟩ := by
  apply Array.ext'
  simp only [madeCells, Array.toList_map, Array.toList_range]
  rfl
theorem WithinS_s (G) (step : Int) {h : List Obj} {bs : Value} {l : List Bd} (hs : SlB h bs l) (hl : l.length ≤ 1000000000000) (box top : Int) :
    AC Try.prog G 32 [.agg #[I64 step, bs], I64 box, I64 top] h (fun v h' => v = .bool (!l.any (badB box top)) ∧ h' = h) := by
  rcases hs with ⟨rfl, rfl⟩ | ⟨m, off, cap, c, t, rfl, h2, h4, h5⟩
  · refine ac_readF [] (WithinS_n G step box top) (by simp [r3, r2, r1, r0]) rfl cold_0 ?_
    rintro v h' ⟨rfl, rfl⟩
    exact ⟨rfl, rfl, rfl, rfl⟩
  · refine ac_readF [m] (WithinS_r G step c t off cap l h4 hl box top) (by simp [r3, r2, r1, r0, rA, nu]) rfl (cold_p h2) ?_
    rintro v h' ⟨rfl, rfl⟩
    exact ⟨rfl, rfl, rfl, rfl⟩
theorem wakes_c (G) : AC Try.prog G 23 [] [] (fun v h => v = .bool true ∧ h = []) := by
  refine ac_of_body tabOk has23 ?_
  unfold BodyOk
  conv => whnf
  refine ac_mono (Least_s G 2 (l := wkB) (.inr ⟨0, 0, 2, wkC, 56, rfl, .inr ⟨wkC_clean, (0, 0), rfl⟩, wkC_win, by decide⟩) (by decide)) ?_
  rintro v h' ⟨rfl, rfl⟩
  rw [show leastF 2 wkB = (25, true) from by decide]
  conv => whnf
  refine ac_mono (Row24_ok G 2 (m := 2) rfl (l := wkB) (.inr ⟨0, 0, 2, wkC, 56, rfl, .inr ⟨wkC_clean, (0, 0), rfl⟩, wkC_win, by decide⟩) (by decide) (by decide)) ?_
  rintro v h' ⟨c, cp, rfl, rfl, hc1, hc2, hc3⟩
  conv => whnf
  refine ac_mono (Turn29_s G 2 (m := 3) rfl (l := wkB) (.inr ⟨0, 0, 2, wkC, 56, rfl, .inr ⟨wkC_clean, (0, 0), rfl⟩, wkC_win, by decide⟩) (by decide) (by decide)) ?_
  rintro v h' ⟨ct, cpt, rfl, rfl, ht1, ht2, ht3⟩
  have hk := fun (j : Nat) (v : Value) (hj : (⟨0, 0, 0, -1, 2, -3⟩ : Bd).cells[j]? = some v) => ht2 0 ⟨0, 0, 0, -1, 2, -3⟩ rfl j v hj
  obtain ⟨a0, a1, a2, a3, a4, a5, t, rfl⟩ := six (c := ct) (by have := (Array.getElem?_eq_some_iff.1 (hk 5 _ rfl)).1; omega)
  obtain rfl : a3 = I64 (-1) := Option.some.inj (hk 3 _ rfl)
  obtain rfl : a4 = I64 2 := Option.some.inj (hk 4 _ rfl)
  obtain rfl : a5 = I64 (-3) := Option.some.inj (hk 5 _ rfl)
  conv => whnf
  refine ao_make (l := 1) (c := 1) (i := ti40) (j := ti56) (e := 56) (m := 5) tabOk rfl (by (conv => whnf) <;> rfl) (by (conv => whnf) <;> rfl) rfl rfl rfl rfl rfl (by decide) (by decide) (by decide) rfl ?_
  rw [made_z]
  conv => whnf
  refine ac_mono (Least_s G 0 (l := [zB]) (.inr ⟨5, 0, 1, ⟨flatB [zB]⟩, 56, rfl, .inr ⟨flatB_clean [zB], (0, 0), rfl⟩, zB_win, by decide⟩) (by decide)) ?_
  rintro v h' ⟨rfl, rfl⟩
  rw [show leastF 0 [zB] = (0, false) from by decide]
  conv => whnf
  refine ac_mono (Of26_s G (m := 6) rfl (l := rowOf 2 wkB) (.inr ⟨2, 0, cp, c, 3, rfl, .inr ⟨hc1, (0, 0), rfl⟩, hc2, hc3⟩) (by decide)) ?_
  rintro v h' (⟨q1, _⟩ | ⟨_, co, cpo, rfl, rfl, ho1, ho2, ho3⟩)
  · exact absurd q1 (by decide)
  conv => whnf
  refine ac_mono (Of26_s G (m := 9) rfl (l := [0, 0]) (.inr ⟨8, 0, 2, ⟨[0, 0].map I64 ++ []⟩, 3, rfl, .inr ⟨cI_clean [0, 0], (0, 0), rfl⟩, winI_own, by decide⟩) (by decide)) ?_
  rintro v h' (⟨_, rfl, rfl⟩ | ⟨q1, _⟩)
  rotate_left
  · exact absurd q1 (by decide)
  conv => whnf
  refine nthK_of (l := c.toList) (hc2.at (k := 0) (x := 2) rfl) ?_
  conv => whnf
  refine nthK_of (l := c.toList) (hc2.at (k := 1) (x := 2) rfl) ?_
  conv => whnf
  refine nthK_of (l := c.toList) (hc2.at (k := 6) (x := -2) rfl) ?_
  conv => whnf
  refine ac_mono (Same40_s G 2 2 (l := bdsOf (rowOf 2 wkB)) (l1 := wkB) ⟨6, 0, cpo, co, 56, rfl, .inr ⟨ho1, (0, 0), rfl⟩, ho2, ho3⟩ ⟨0, 0, 2, wkC, 56, rfl, .inr ⟨wkC_clean, (0, 0), rfl⟩, wkC_win, by decide⟩ (by decide)) ?_
  rintro v h' ⟨b, rfl, hb, rfl⟩
  have hbt : b = true := hb.2 ⟨rfl, rfl⟩
  subst hbt
  conv => whnf
  refine ac_mono (Right_s G 2 (l := wkB) (.inr ⟨0, 0, 2, wkC, 56, rfl, .inr ⟨wkC_clean, (0, 0), rfl⟩, wkC_win, by decide⟩) (by decide)) ?_
  rintro v h' ⟨rfl, rfl⟩
  rw [show okState 2 wkB = true from by decide]
  conv => whnf
  refine ac_mono (Right_s G 0 (l := []) (.inl ⟨rfl, rfl⟩) (by decide)) ?_
  rintro v h' ⟨rfl, rfl⟩
  rw [show okState 0 [] = false from by decide]
  conv => whnf
  refine ac_mono (WithinS_s G 2 (l := wkB) (.inr ⟨0, 0, 2, wkC, 56, rfl, .inr ⟨wkC_clean, (0, 0), rfl⟩, wkC_win, by decide⟩) (by decide) 4 3) ?_
  rintro v h' ⟨rfl, rfl⟩
  rw [show wkB.any (badB 4 3) = false from by decide]
  conv => whnf
  refine ac_mono (WithinS_s G 2 (l := wkB) (.inr ⟨0, 0, 2, wkC, 56, rfl, .inr ⟨wkC_clean, (0, 0), rfl⟩, wkC_win, by decide⟩) (by decide) 3 3) ?_
  rintro v h' ⟨rfl, rfl⟩
  rw [show wkB.any (badB 3 3) = true from by decide]
  conv => whnf
  refine ⟨rfl, fin_turnedK rfl ?_⟩
  conv => whnf
  exact ⟨rfl, rfl⟩
end Go.Proofs.Ytjpjnjidchdlbaa
