/-
  VecSums: it hands back true, at whatever three points and number.
-/
import Derived.Test.YtjpjnjidchdlbaaVecJ
namespace Go.Proofs.Ytjpjnjidchdlbaa
set_option linter.unusedSimpArgs false
set_option linter.unusedVariables false
open Go
set_option maxRecDepth 100000
set_option maxHeartbeats 4000000
theorem small3_c (G) (a b c x y z p q r : Int) : AC Try.prog G 11 [slc 0 0 3 3] [.cells #[I64 a, I64 b, I64 c, I64 x, I64 y, I64 z, I64 p, I64 q, I64 r] 23 (1, 0)] (fun v h => v = .bool (((rwin 16384 a && (rwin 16384 b && rwin 16384 c)) && (rwin 16384 x && (rwin 16384 y && rwin 16384 z))) && (rwin 16384 p && (rwin 16384 q && rwin 16384 r))) ∧ h = [.cells #[I64 a, I64 b, I64 c, I64 x, I64 y, I64 z, I64 p, I64 q, I64 r] 23 (1, 0)]) := by
  refine ac_of_body tabOk has11 ?_
  unfold BodyOk
  conv => whnf
  refine aw_rounds tabOk 5 ?_
  conv => whnf
  refine ac_read [] (Within_c G a b c 16384) (by simp [r3, r2, r1, r0]) rfl trivial ?_
  rintro v h' ⟨rfl, rfl⟩
  refine ⟨rfl, rfl, ?_⟩
  conv => whnf
  refine ways (fun h0 => ?_) (fun h0 => ?_) <;> conv => whnf
  · refine ⟨rfl, fin_turnedK rfl ?_⟩
    conv => whnf
    exact ⟨by rw [notF h0]; first | rfl | simp only [Bool.and_false, Bool.false_and], rfl⟩
  refine ac_read [] (Within_c G x y z 16384) (by simp [r3, r2, r1, r0]) rfl trivial ?_
  rintro v h' ⟨rfl, rfl⟩
  refine ⟨rfl, rfl, ?_⟩
  conv => whnf
  refine ways (fun h1 => ?_) (fun h1 => ?_) <;> conv => whnf
  · refine ⟨rfl, fin_turnedK rfl ?_⟩
    conv => whnf
    exact ⟨by rw [notT h0, notF h1]; first | rfl | simp only [Bool.and_false, Bool.false_and], rfl⟩
  refine ac_read [] (Within_c G p q r 16384) (by simp [r3, r2, r1, r0]) rfl trivial ?_
  rintro v h' ⟨rfl, rfl⟩
  refine ⟨rfl, rfl, ?_⟩
  conv => whnf
  refine ways (fun h2 => ?_) (fun h2 => ?_) <;> conv => whnf
  · refine ⟨rfl, fin_turnedK rfl ?_⟩
    conv => whnf
    exact ⟨by rw [notT h0, notT h1, notF h2]; first | rfl | simp only [Bool.and_false, Bool.false_and], rfl⟩
  refine ⟨rfl, fin_turnedK rfl ?_⟩
  conv => whnf
  exact ⟨by rw [notT h0, notT h1, notT h2]; rfl, rfl⟩
theorem VecSums_c (G) (a b c x y z p q r n : Int) : AC Try.prog G 4 [V3 a b c, V3 x y z, V3 p q r, I64 n] [] (fun v h => v = .bool true ∧ h = []) := by
  refine ac_of_body tabOk has4 ?_
  unfold BodyOk
  conv => whnf
  refine ac_read [3] (small3_c G a b c x y z p q r) rfl rfl ⟨⟨by decide, rfl, _, rfl⟩, trivial⟩ ?_
  rintro v h' ⟨rfl, rfl⟩
  refine ⟨rfl, rfl, ?_⟩
  conv => whnf
  refine ways (fun h0 => ?_) (fun h0 => ?_) <;> conv => whnf
  · refine ac_read [] (wakes_c G) (by simp [r3, r2, r1, r0]) rfl trivial ?_
    rintro v h' ⟨rfl, rfl⟩
    refine ⟨rfl, rfl, ?_⟩
    conv => whnf
    refine ⟨rfl, fin_turnedK rfl ?_⟩
    conv => whnf
    exact ⟨rfl, rfl⟩
  refine ways (fun h1 => ?_) (fun h1 => ?_) <;> conv => whnf
  · refine ac_read [] (wakes_c G) (by simp [r3, r2, r1, r0]) rfl trivial ?_
    rintro v h' ⟨rfl, rfl⟩
    refine ⟨rfl, rfl, ?_⟩
    conv => whnf
    refine ⟨rfl, fin_turnedK rfl ?_⟩
    conv => whnf
    exact ⟨rfl, rfl⟩
  refine ways (fun h2 => ?_) (fun h2 => ?_) <;> conv => whnf
  · refine ac_read [] (wakes_c G) (by simp [r3, r2, r1, r0]) rfl trivial ?_
    rintro v h' ⟨rfl, rfl⟩
    refine ⟨rfl, rfl, ?_⟩
    conv => whnf
    refine ⟨rfl, fin_turnedK rfl ?_⟩
    conv => whnf
    exact ⟨rfl, rfl⟩
  have g0 := notT h0
  simp only [Bool.and_eq_true] at g0
  have o1 : -16384 ≤ n := by simpa using h1
  have o2 : n ≤ 16384 := by simpa using h2
  have bda := rwin_spec g0.1.1.1
  have _ : Bd a 16384 := Bd.of bda.1 bda.2
  have bdb := rwin_spec g0.1.1.2.1
  have _ : Bd b 16384 := Bd.of bdb.1 bdb.2
  have bdc := rwin_spec g0.1.1.2.2
  have _ : Bd c 16384 := Bd.of bdc.1 bdc.2
  have f0 : fine3 a b c = true := fine3_of (by omega) (by omega) (by omega)
  have bdx := rwin_spec g0.1.2.1
  have _ : Bd x 16384 := Bd.of bdx.1 bdx.2
  have bdy := rwin_spec g0.1.2.2.1
  have _ : Bd y 16384 := Bd.of bdy.1 bdy.2
  have bdz := rwin_spec g0.1.2.2.2
  have _ : Bd z 16384 := Bd.of bdz.1 bdz.2
  have f1 : fine3 x y z = true := fine3_of (by omega) (by omega) (by omega)
  have bdp := rwin_spec g0.2.1
  have _ : Bd p 16384 := Bd.of bdp.1 bdp.2
  have bdq := rwin_spec g0.2.2.1
  have _ : Bd q 16384 := Bd.of bdq.1 bdq.2
  have bdr := rwin_spec g0.2.2.2
  have _ : Bd r 16384 := Bd.of bdr.1 bdr.2
  have f2 : fine3 p q r = true := fine3_of (by omega) (by omega) (by omega)
  have _ : Bd n 16384 := Bd.of o1 o2
  have tn : ∀ u : Int, -16384 ≤ u ∧ u ≤ 16384 → -268435456 ≤ u * n ∧ u * n ≤ 268435456 := by
    intro u hu
    have : Bd u 16384 := Bd.of hu.1 hu.2
    have := (inferInstance : Bd (u * n) _).le
    omega
  have ta := tn a bda
  have tb := tn b bdb
  have tc := tn c bdc
  have fn : fine3 n n n = true := fine3_of (by omega) (by omega) (by omega)
  have fs : fine3 (a + x) (b + y) (c + z) = true := fine3_of (by omega) (by omega) (by omega)
  have ft : fine3 (a * n) (b * n) (c * n) = true := fine3_of (by omega) (by omega) (by omega)
  have fm : fine3 (-a) (-b) (-c) = true := fine3_of (by omega) (by omega) (by omega)
  refine ac_read [] (Add_ok G a b c x y z (ok6_fine f0 f1) fs) (by simp [r3, r2, r1, r0]) rfl trivial ?_
  rintro v h' ⟨rfl, rfl⟩
  refine ⟨rfl, rfl, ?_⟩
  conv => whnf
  refine ac_read [] (Sub_ok G (a + x) (b + y) (c + z) x y z (ok6_fine fs f1) (fine3_of (by omega) (by omega) (by omega))) (by simp [r3, r2, r1, r0]) rfl trivial ?_
  rintro v h' ⟨rfl, rfl⟩
  refine ⟨rfl, rfl, ?_⟩
  conv => whnf
  refine ad_of tabOk (by kernel_rfl) [(7, false), (0, false), (1, false), (2, false), (3, false), (4, false), (5, false), (6, false), (8, false), (9, false)] (by kernel_rfl) ?_
  conv => whnf
  refine ac_mono (Neg_ok G a b c f0) ?_
  rintro v h' ⟨rfl, rfl⟩
  refine ⟨rfl, rfl, ?_⟩
  conv => whnf
  refine ac_mono (Add_ok G a b c (-a) (-b) (-c) (ok6_fine f0 fm) (fine3_of (by omega) (by omega) (by omega))) ?_
  rintro v h' ⟨rfl, rfl⟩
  refine ⟨rfl, rfl, ?_⟩
  conv => whnf
  refine ⟨⟨_, rfl⟩, ?_⟩
  conv => whnf
  refine ac_read [] (Times_ok G a b c n (ok6_fine f0 fn) ft) (by simp [r3, r2, r1, r0]) rfl trivial ?_
  rintro v h' ⟨rfl, rfl⟩
  refine ⟨rfl, rfl, ?_⟩
  conv => whnf
  refine ac_read [] (Dot_ok G (a + x) (b + y) (c + z) p q r (ok6_fine fs f2)) (by simp [r3, r2, r1, r0]) rfl trivial ?_
  rintro v h' ⟨rfl, rfl⟩
  refine ⟨rfl, rfl, ?_⟩
  conv => whnf
  refine ac_read [] (Dot_ok G a b c p q r (ok6_fine f0 f2)) (by simp [r3, r2, r1, r0]) rfl trivial ?_
  rintro v h' ⟨rfl, rfl⟩
  refine ⟨rfl, rfl, ?_⟩
  conv => whnf
  refine ac_read [] (Dot_ok G x y z p q r (ok6_fine f1 f2)) (by simp [r3, r2, r1, r0]) rfl trivial ?_
  rintro v h' ⟨rfl, rfl⟩
  refine ⟨rfl, rfl, ?_⟩
  conv => whnf
  refine ac_read [] (Dot_ok G (a * n) (b * n) (c * n) p q r (ok6_fine ft f2)) (by simp [r3, r2, r1, r0]) rfl trivial ?_
  rintro v h' ⟨rfl, rfl⟩
  refine ⟨rfl, rfl, ?_⟩
  conv => whnf
  refine ac_read [] (Cross_ok G (a + x) (b + y) (c + z) p q r (ok6_fine fs f2)) (by simp [r3, r2, r1, r0]) rfl trivial ?_
  rintro v h' ⟨rfl, rfl⟩
  refine ⟨rfl, rfl, ?_⟩
  conv => whnf
  refine ac_read [] (Cross_ok G a b c p q r (ok6_fine f0 f2)) (by simp [r3, r2, r1, r0]) rfl trivial ?_
  rintro v h' ⟨rfl, rfl⟩
  refine ⟨rfl, rfl, ?_⟩
  conv => whnf
  refine ac_read [] (Cross_ok G x y z p q r (ok6_fine f1 f2)) (by simp [r3, r2, r1, r0]) rfl trivial ?_
  rintro v h' ⟨rfl, rfl⟩
  refine ⟨rfl, rfl, ?_⟩
  conv => whnf
  refine ad_of tabOk (by kernel_rfl) [(0, false), (1, false), (2, false), (3, false), (4, false), (5, false), (6, false), (7, false), (8, false), (9, false), (10, false), (11, false), (12, false), (13, false), (14, false), (15, false), (16, false), (17, false), (18, false), (19, false), (20, false), (21, false), (22, false), (23, false), (24, false), (25, false), (26, false), (27, false), (28, false), (29, false), (30, false), (31, false), (32, false), (33, false), (34, false), (35, false), (36, false), (37, false), (38, false), (39, false), (40, false), (41, false), (42, false), (43, false), (46, false), (44, false), (45, false), (47, false), (48, false), (49, false), (50, false), (51, false), (52, false)] (by kernel_rfl) ?_
  conv => whnf
  repeat' first
    | (refine way1 (by simp (disch := decide) only [wrapS_c]; grind) ?_; conv => whnf)
    | (refine way1 (by grind) ?_; conv => whnf)
  refine ac_mono (Neg_ok G a b c f0) ?_
  rintro v h' ⟨rfl, rfl⟩
  refine ⟨rfl, rfl, ?_⟩
  conv => whnf
  refine ac_mono (Neg_ok G (-a) (-b) (-c) fm) ?_
  rintro v h' ⟨rfl, rfl⟩
  refine ⟨rfl, rfl, ?_⟩
  conv => whnf
  refine way1 (by grind) ?_
  conv => whnf
  refine ac_mono (wakes_c G) ?_
  rintro v h' ⟨rfl, rfl⟩
  refine ⟨rfl, rfl, ?_⟩
  conv => whnf
  refine ⟨rfl, fin_turnedK rfl ?_⟩
  conv => whnf
  exact ⟨rfl, rfl⟩
end Go.Proofs.Ytjpjnjidchdlbaa
