/-
  VecFar: it hands back true, at whatever four points.
-/
import Derived.Test.YtjpjnjidchdlbaaVecF
namespace Go.Proofs.Ytjpjnjidchdlbaa
set_option linter.unusedSimpArgs false
set_option linter.unusedVariables false
open Go
set_option maxRecDepth 100000
set_option maxHeartbeats 4000000
theorem rwin27_spec {x : Int} (h : rwin 134217728 x = true) : -134217728 ≤ x ∧ x ≤ 134217728 := by
  have e : wrapS .i64 (0 - 134217728) = -134217728 := by decide
  simp only [rwin, e, Bool.and_eq_true, Bool.not_eq_true', decide_eq_false_iff_not] at h
  omega
theorem fine3_of {p q r : Int} (hp : -536870912 ≤ p ∧ p ≤ 536870912) (hq : -536870912 ≤ q ∧ q ≤ 536870912) (hr : -536870912 ≤ r ∧ r ≤ 536870912) : fine3 p q r = true := by
  simp only [fine3, okc_of hp.1 hp.2, okc_of hq.1 hq.2, okc_of hr.1 hr.2, Bool.and_self]
theorem ok6_fine {a b c x y z : Int} (h : fine3 a b c = true) (g : fine3 x y z = true) : ok6 a b c x y z = true := by
  simp only [fine3, ok6, Bool.and_eq_true] at h g ⊢
  exact ⟨h.1, h.2.1, h.2.2, g.1, g.2.1, g.2.2⟩
theorem sq_pos (x : Int) : 0 ≤ x * x := by
  rcases Int.le_total 0 x with h | h
  · exact Int.mul_nonneg h h
  · exact Int.mul_nonneg_of_nonpos_of_nonpos h h
theorem sq_zero {x : Int} (h : x * x = 0) : x = 0 := by
  rcases Int.mul_eq_zero.1 h with h | h <;> exact h
/-- a way's square is 0 just of one point -/
theorem far_zero (a b c x y z : Int) : ((a - x) * (a - x) + (b - y) * (b - y) + (c - z) * (c - z) == 0) = ((a == x) && ((b == y) && ((c == z) && true))) := by
  have h1 := sq_pos (a - x)
  have h2 := sq_pos (b - y)
  have h3 := sq_pos (c - z)
  rw [Bool.eq_iff_iff]
  simp only [beq_iff_eq, Bool.and_eq_true, and_true]
  constructor
  · intro h
    have e1 := sq_zero (x := a - x) (by omega)
    have e2 := sq_zero (x := b - y) (by omega)
    have e3 := sq_zero (x := c - z) (by omega)
    omega
  · rintro ⟨rfl, rfl, rfl⟩
    simp
theorem far_tri1 (u v : Int) : (u + v) * (u + v) ≤ 2 * (u * u) + 2 * (v * v) := by
  have h := sq_pos (u - v)
  have e : (u - v) * (u - v) = 2 * (u * u) + 2 * (v * v) - (u + v) * (u + v) := by grind
  omega
theorem far_tri (a b c x y z p q r : Int) : (a - p) * (a - p) + (b - q) * (b - q) + (c - r) * (c - r) ≤
    2 * ((a - x) * (a - x) + (b - y) * (b - y) + (c - z) * (c - z)) + 2 * ((x - p) * (x - p) + (y - q) * (y - q) + (z - r) * (z - r)) := by
  have h1 := far_tri1 (a - x) (x - p)
  have h2 := far_tri1 (b - y) (y - q)
  have h3 := far_tri1 (c - z) (z - r)
  rw [show a - x + (x - p) = a - p from by omega] at h1
  rw [show b - y + (y - q) = b - q from by omega] at h2
  rw [show c - z + (z - r) = c - r from by omega] at h3
  omega
theorem VecFar_c (G) (a b c x y z p q r i j k : Int) : AC Try.prog G 5 [V3 a b c, V3 x y z, V3 p q r, V3 i j k] [] (fun v h => v = .bool true ∧ h = []) := by
  refine ac_of_body tabOk has5 ?_
  unfold BodyOk
  conv => whnf
  refine ac_read [] (Within_c G a b c 134217728) (by simp [r3, r2, r1, r0]) rfl trivial ?_
  rintro v h' ⟨rfl, rfl⟩
  refine ⟨rfl, rfl, ?_⟩
  conv => whnf
  refine ways (fun h0 => ?_) (fun h0 => ?_) <;> conv => whnf
  · refine ac_read [] (wakes_c G) (by simp [r3, r2, r1, r0]) rfl trivial ?_
    rintro v h' ⟨rfl, rfl⟩
    refine ⟨rfl, rfl, ?_⟩
    conv => whnf
    refine ⟨rfl, fin_turnedK rfl ?_⟩
    conv => whnf
    exact ⟨rfl, rfl⟩
  refine ac_read [] (Within_c G x y z 134217728) (by simp [r3, r2, r1, r0]) rfl trivial ?_
  rintro v h' ⟨rfl, rfl⟩
  refine ⟨rfl, rfl, ?_⟩
  conv => whnf
  refine ways (fun h1 => ?_) (fun h1 => ?_) <;> conv => whnf
  · refine ac_read [] (wakes_c G) (by simp [r3, r2, r1, r0]) rfl trivial ?_
    rintro v h' ⟨rfl, rfl⟩
    refine ⟨rfl, rfl, ?_⟩
    conv => whnf
    refine ⟨rfl, fin_turnedK rfl ?_⟩
    conv => whnf
    exact ⟨rfl, rfl⟩
  refine ac_read [] (Within_c G p q r 134217728) (by simp [r3, r2, r1, r0]) rfl trivial ?_
  rintro v h' ⟨rfl, rfl⟩
  refine ⟨rfl, rfl, ?_⟩
  conv => whnf
  refine ways (fun h2 => ?_) (fun h2 => ?_) <;> conv => whnf
  · refine ac_read [] (wakes_c G) (by simp [r3, r2, r1, r0]) rfl trivial ?_
    rintro v h' ⟨rfl, rfl⟩
    refine ⟨rfl, rfl, ?_⟩
    conv => whnf
    refine ⟨rfl, fin_turnedK rfl ?_⟩
    conv => whnf
    exact ⟨rfl, rfl⟩
  refine ac_read [] (Within_c G i j k 134217728) (by simp [r3, r2, r1, r0]) rfl trivial ?_
  rintro v h' ⟨rfl, rfl⟩
  refine ⟨rfl, rfl, ?_⟩
  conv => whnf
  refine ways (fun h3 => ?_) (fun h3 => ?_) <;> conv => whnf
  · refine ac_read [] (wakes_c G) (by simp [r3, r2, r1, r0]) rfl trivial ?_
    rintro v h' ⟨rfl, rfl⟩
    refine ⟨rfl, rfl, ?_⟩
    conv => whnf
    refine ⟨rfl, fin_turnedK rfl ?_⟩
    conv => whnf
    exact ⟨rfl, rfl⟩
  have g0 := notT h0
  simp only [Bool.and_eq_true] at g0
  have bda := rwin27_spec g0.1
  have bdb := rwin27_spec g0.2.1
  have bdc := rwin27_spec g0.2.2
  have f0 : fine3 a b c = true := fine3_of (by omega) (by omega) (by omega)
  have g1 := notT h1
  simp only [Bool.and_eq_true] at g1
  have bdx := rwin27_spec g1.1
  have bdy := rwin27_spec g1.2.1
  have bdz := rwin27_spec g1.2.2
  have f1 : fine3 x y z = true := fine3_of (by omega) (by omega) (by omega)
  have g2 := notT h2
  simp only [Bool.and_eq_true] at g2
  have bdp := rwin27_spec g2.1
  have bdq := rwin27_spec g2.2.1
  have bdr := rwin27_spec g2.2.2
  have f2 : fine3 p q r = true := fine3_of (by omega) (by omega) (by omega)
  have g3 := notT h3
  simp only [Bool.and_eq_true] at g3
  have bdi := rwin27_spec g3.1
  have bdj := rwin27_spec g3.2.1
  have bdk := rwin27_spec g3.2.2
  have f3 : fine3 i j k = true := fine3_of (by omega) (by omega) (by omega)
  refine ac_read [] (Far2_ok G a b c x y z (ok6_fine f0 f1) (fine3_of (by omega) (by omega) (by omega))) (by simp [r3, r2, r1, r0]) rfl trivial ?_
  rintro v h' ⟨rfl, rfl⟩
  refine ⟨rfl, rfl, ?_⟩
  conv => whnf
  refine ac_read [] (Far2_ok G x y z a b c (ok6_fine f1 f0) (fine3_of (by omega) (by omega) (by omega))) (by simp [r3, r2, r1, r0]) rfl trivial ?_
  rintro v h' ⟨rfl, rfl⟩
  refine ⟨rfl, rfl, ?_⟩
  conv => whnf
  refine ac_read [] (Far2_ok G x y z p q r (ok6_fine f1 f2) (fine3_of (by omega) (by omega) (by omega))) (by simp [r3, r2, r1, r0]) rfl trivial ?_
  rintro v h' ⟨rfl, rfl⟩
  refine ⟨rfl, rfl, ?_⟩
  conv => whnf
  refine ac_read [] (Far2_ok G a b c p q r (ok6_fine f0 f2) (fine3_of (by omega) (by omega) (by omega))) (by simp [r3, r2, r1, r0]) rfl trivial ?_
  rintro v h' ⟨rfl, rfl⟩
  refine ⟨rfl, rfl, ?_⟩
  conv => whnf
  refine ac_read [] (Add_ok G a b c i j k (ok6_fine f0 f3) (fine3_of (by omega) (by omega) (by omega))) (by simp [r3, r2, r1, r0]) rfl trivial ?_
  rintro v h' ⟨rfl, rfl⟩
  refine ⟨rfl, rfl, ?_⟩
  conv => whnf
  refine ac_read [] (Add_ok G x y z i j k (ok6_fine f1 f3) (fine3_of (by omega) (by omega) (by omega))) (by simp [r3, r2, r1, r0]) rfl trivial ?_
  rintro v h' ⟨rfl, rfl⟩
  refine ⟨rfl, rfl, ?_⟩
  conv => whnf
  refine ac_read [] (Far2_ok G (a + i) (b + j) (c + k) (x + i) (y + j) (z + k) (ok6_fine (fine3_of (by omega) (by omega) (by omega)) (fine3_of (by omega) (by omega) (by omega))) (fine3_of (by omega) (by omega) (by omega))) (by simp [r3, r2, r1, r0]) rfl trivial ?_
  rintro v h' ⟨rfl, rfl⟩
  refine ⟨rfl, rfl, ?_⟩
  conv => whnf
  have _ : Bd a 134217728 := Bd.of bda.1 bda.2
  have _ : Bd b 134217728 := Bd.of bdb.1 bdb.2
  have _ : Bd c 134217728 := Bd.of bdc.1 bdc.2
  have _ : Bd x 134217728 := Bd.of bdx.1 bdx.2
  have _ : Bd y 134217728 := Bd.of bdy.1 bdy.2
  have _ : Bd z 134217728 := Bd.of bdz.1 bdz.2
  have _ : Bd p 134217728 := Bd.of bdp.1 bdp.2
  have _ : Bd q 134217728 := Bd.of bdq.1 bdq.2
  have _ : Bd r 134217728 := Bd.of bdr.1 bdr.2
  refine way1 (by grind) ?_
  conv => whnf
  refine way1 (by grind) ?_
  conv => whnf
  refine way1 (beq_iff_eq.2 (far_zero a b c x y z)) ?_
  conv => whnf
  refine way1 (by simp (disch := decide) only [wrapS_c]; exact decide_eq_true (far_tri a b c x y z p q r)) ?_
  conv => whnf
  refine ac_read [] (wakes_c G) (by simp [r3, r2, r1, r0]) rfl trivial ?_
  rintro v h' ⟨rfl, rfl⟩
  refine ⟨rfl, rfl, ?_⟩
  conv => whnf
  refine ⟨rfl, fin_turnedK rfl ?_⟩
  conv => whnf
  exact ⟨rfl, rfl⟩
end Go.Proofs.Ytjpjnjidchdlbaa
