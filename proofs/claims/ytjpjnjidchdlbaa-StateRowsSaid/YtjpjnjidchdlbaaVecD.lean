/-
  Far2, Times, small: what they compute.
-/
import Derived.Test.YtjpjnjidchdlbaaVecC
namespace Go.Proofs.Ytjpjnjidchdlbaa
set_option linter.unusedSimpArgs false
set_option linter.unusedVariables false
open Go
set_option maxRecDepth 100000
set_option maxHeartbeats 4000000
def isZ (a b c : Int) : Bool := (a == 0) && ((b == 0) && ((c == 0) && true))
def pick2 (b : Bool) (p q : Int) : Int := match b with
  | true => p
  | false => q
def tmOk (a b c n : Int) : Bool := ok6 a b c n n n && fine3 (wrapS .i64 (a * n)) (wrapS .i64 (b * n)) (wrapS .i64 (c * n))
theorem Times_c (G) (a b c n : Int) : AC Try.prog G 18 [V3 a b c, I64 n] [] (fun v h => v = .tuple #[V3 (pick2 (isZ a b c) a (sel (tmOk a b c n) (wrapS .i64 (a * n)))) (pick2 (isZ a b c) b (sel (tmOk a b c n) (wrapS .i64 (b * n)))) (pick2 (isZ a b c) c (sel (tmOk a b c n) (wrapS .i64 (c * n)))), I64 (pick2 (isZ a b c) 0 (err (tmOk a b c n)))] ∧ h = []) := by
  refine ac_of_body tabOk has18 ?_
  unfold BodyOk
  conv => whnf
  refine ways (fun h => ?_) (fun h => ?_) <;> conv => whnf
  · refine ⟨rfl, fin_turnedK rfl ?_⟩
    conv => whnf
    have h6 : isZ a b c = true := h
    refine ⟨by rw [h6]; rfl, rfl⟩
  have h6 : isZ a b c = false := h
  rw [h6]
  refine ac_read [] (eachTimes_c G a b c n n n) (by simp [r3, r2, r1, r0]) rfl trivial ?_
  rintro v h' ⟨rfl, rfl⟩
  refine ⟨rfl, rfl, ?_⟩
  conv => whnf
  refine ⟨rfl, fin_turnedK rfl ?_⟩
  conv => whnf
  exact ⟨rfl, rfl⟩
theorem small2_c (G) (a b c x y z : Int) : AC Try.prog G 11 [slc 0 0 2 2] [.cells #[I64 a, I64 b, I64 c, I64 x, I64 y, I64 z] 23 (1, 0)] (fun v h => v = .bool ((rwin 16384 a && (rwin 16384 b && rwin 16384 c)) && (rwin 16384 x && (rwin 16384 y && rwin 16384 z))) ∧ h = [.cells #[I64 a, I64 b, I64 c, I64 x, I64 y, I64 z] 23 (1, 0)]) := by
  refine ac_of_body tabOk has11 ?_
  unfold BodyOk
  conv => whnf
  refine aw_rounds tabOk 4 ?_
  conv => whnf
  refine ac_read [] (Within_c G a b c 16384) (by simp [r3, r2, r1, r0]) rfl trivial ?_
  rintro v h' ⟨rfl, rfl⟩
  refine ⟨rfl, rfl, ?_⟩
  conv => whnf
  refine ways (fun h1 => ?_) (fun h1 => ?_) <;> conv => whnf
  · refine ⟨rfl, fin_turnedK rfl ?_⟩
    conv => whnf
    exact ⟨by rw [notF h1]; rfl, rfl⟩
  refine ac_read [] (Within_c G x y z 16384) (by simp [r3, r2, r1, r0]) rfl trivial ?_
  rintro v h' ⟨rfl, rfl⟩
  refine ⟨rfl, rfl, ?_⟩
  conv => whnf
  refine ways (fun h => ?_) (fun h => ?_) <;> conv => whnf
  · refine ⟨rfl, fin_turnedK rfl ?_⟩
    conv => whnf
    exact ⟨by rw [notT h1, notF h]; rfl, rfl⟩
  · refine ⟨rfl, fin_turnedK rfl ?_⟩
    conv => whnf
    exact ⟨by rw [notT h1, notT h]; rfl, rfl⟩
/-- what Far2 hands back, by the way's parts and whether it may be -/
def far2R (b : Bool) (p q r : Int) : Value := .tuple #[I64 (pick2 (err b != 0) 0 (sel (ok6 (sel b p) (sel b q) (sel b r) (sel b p) (sel b q) (sel b r)) (dot3 (sel b p) (sel b q) (sel b r) (sel b p) (sel b q) (sel b r)))),
  I64 (pick2 (err b != 0) (err b) (err (ok6 (sel b p) (sel b q) (sel b r) (sel b p) (sel b q) (sel b r))))]
theorem Far2_c (G) (a b c x y z : Int) : AC Try.prog G 20 [V3 a b c, V3 x y z] [] (fun v h => v = far2R (ok6 a b c x y z && fine3 (wrapS .i64 (a - x)) (wrapS .i64 (b - y)) (wrapS .i64 (c - z))) (wrapS .i64 (a - x)) (wrapS .i64 (b - y)) (wrapS .i64 (c - z)) ∧ h = []) := by
  refine ac_of_body tabOk has20 ?_
  unfold BodyOk
  conv => whnf
  refine ac_read [] (Sub_c G a b c x y z) (by simp [r3, r2, r1, r0]) rfl trivial ?_
  rintro v h' ⟨rfl, rfl⟩
  refine ⟨rfl, rfl, ?_⟩
  conv => whnf
  refine ways (fun h => ?_) (fun h => ?_) <;> conv => whnf
  · refine ⟨rfl, fin_turnedK rfl ?_⟩
    conv => whnf
    refine ⟨?_, rfl⟩
    simp only [far2R, h]
    rfl
  refine ac_read [] (Dot_c G (sel (ok6 a b c x y z && fine3 (wrapS .i64 (a - x)) (wrapS .i64 (b - y)) (wrapS .i64 (c - z))) (wrapS .i64 (a - x))) (sel (ok6 a b c x y z && fine3 (wrapS .i64 (a - x)) (wrapS .i64 (b - y)) (wrapS .i64 (c - z))) (wrapS .i64 (b - y))) (sel (ok6 a b c x y z && fine3 (wrapS .i64 (a - x)) (wrapS .i64 (b - y)) (wrapS .i64 (c - z))) (wrapS .i64 (c - z))) (sel (ok6 a b c x y z && fine3 (wrapS .i64 (a - x)) (wrapS .i64 (b - y)) (wrapS .i64 (c - z))) (wrapS .i64 (a - x))) (sel (ok6 a b c x y z && fine3 (wrapS .i64 (a - x)) (wrapS .i64 (b - y)) (wrapS .i64 (c - z))) (wrapS .i64 (b - y))) (sel (ok6 a b c x y z && fine3 (wrapS .i64 (a - x)) (wrapS .i64 (b - y)) (wrapS .i64 (c - z))) (wrapS .i64 (c - z)))) (by simp [r3, r2, r1, r0]) rfl trivial ?_
  rintro v h' ⟨rfl, rfl⟩
  refine ⟨rfl, rfl, ?_⟩
  conv => whnf
  refine ⟨rfl, fin_turnedK rfl ?_⟩
  conv => whnf
  refine ⟨?_, rfl⟩
  simp only [far2R, h]
  rfl
end Go.Proofs.Ytjpjnjidchdlbaa
