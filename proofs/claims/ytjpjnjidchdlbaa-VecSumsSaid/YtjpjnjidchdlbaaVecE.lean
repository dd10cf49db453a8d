/-
  wakes: it hands back true.
-/
import Derived.Test.YtjpjnjidchdlbaaVecD
namespace Go.Proofs.Ytjpjnjidchdlbaa
set_option linter.unusedSimpArgs false
set_option linter.unusedVariables false
open Go
set_option maxRecDepth 100000
set_option maxHeartbeats 4000000
theorem wakes_c (G) : AC Try.prog G 12 [] [] (fun v h => v = .bool true ∧ h = []) := by
  refine ac_of_body tabOk has12 ?_
  unfold BodyOk
  conv => whnf
  refine ac_read [] (Cross_c G 1 0 0 0 1 0) (by simp [r3, r2, r1, r0]) rfl trivial ?_
  rintro v h' ⟨rfl, rfl⟩
  refine ⟨rfl, rfl, ?_⟩
  conv => whnf
  refine ac_read [] (Dot_c G 1 2 3 4 5 6) (by simp [r3, r2, r1, r0]) rfl trivial ?_
  rintro v h' ⟨rfl, rfl⟩
  refine ⟨rfl, rfl, ?_⟩
  conv => whnf
  refine ac_read [] (Add_c G 536870912 0 0 1 0 0) (by simp [r3, r2, r1, r0]) rfl trivial ?_
  rintro v h' ⟨rfl, rfl⟩
  refine ⟨rfl, rfl, ?_⟩
  conv => whnf
  refine ac_read [] (Far2_c G 1 1 1 (-1) 3 2) (by simp [r3, r2, r1, r0]) rfl trivial ?_
  rintro v h' ⟨rfl, rfl⟩
  refine ⟨rfl, rfl, ?_⟩
  conv => whnf
  refine ac_read [] (Times_c G 1 (-2) 0 3) (by simp [r3, r2, r1, r0]) rfl trivial ?_
  rintro v h' ⟨rfl, rfl⟩
  refine ⟨rfl, rfl, ?_⟩
  conv => whnf
  refine ac_read [] (VWithin_c G 1 (-1) 0 1) (by simp [r3, r2, r1, r0]) rfl trivial ?_
  rintro v h' ⟨rfl, rfl⟩
  refine ⟨rfl, rfl, ?_⟩
  conv => whnf
  refine ac_read [] (VWithin_c G 2 0 0 1) (by simp [r3, r2, r1, r0]) rfl trivial ?_
  rintro v h' ⟨rfl, rfl⟩
  refine ⟨rfl, rfl, ?_⟩
  conv => whnf
  refine ac_read [] (Neg_c G 1 (-2) 0) (by simp [r3, r2, r1, r0]) rfl trivial ?_
  rintro v h' ⟨rfl, rfl⟩
  refine ⟨rfl, rfl, ?_⟩
  conv => whnf
  refine ac_read [] (Fine0 G) (by simp [r3, r2, r1, r0]) rfl trivial ?_
  rintro v h' ⟨rfl, rfl⟩
  refine ⟨rfl, rfl, ?_⟩
  conv => whnf
  refine ac_read [3] (Fine1 G 0 536870913 0) rfl rfl ⟨⟨by decide, rfl, _, rfl⟩, trivial⟩ ?_
  rintro v h' ⟨rfl, rfl⟩
  refine ⟨rfl, rfl, ?_⟩
  conv => whnf
  refine ⟨rfl, fin_turnedK rfl ?_⟩
  conv => whnf
  exact ⟨rfl, rfl⟩
end Go.Proofs.Ytjpjnjidchdlbaa
