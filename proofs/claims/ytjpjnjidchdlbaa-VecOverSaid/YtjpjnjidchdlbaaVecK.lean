/-
  VecOver: it hands back true, at whatever point, place and way over.
-/
import Derived.Test.YtjpjnjidchdlbaaVecJ
namespace Go.Proofs.Ytjpjnjidchdlbaa
set_option linter.unusedSimpArgs false
set_option linter.unusedVariables false
open Go
set_option maxRecDepth 100000
set_option maxHeartbeats 4000000
/-- ref's Fine over one point -/
theorem FineR_c (G) (a b c : Int) : AC Try.prog G 21 [slc 0 0 1 1] [.cells #[I64 a, I64 b, I64 c] 23 (1, 0)] (fun v h => v = .bool (rwin 536870912 a && (rwin 536870912 b && rwin 536870912 c)) ∧ h = [.cells #[I64 a, I64 b, I64 c] 23 (1, 0)]) := by
  refine ac_of_body tabOk has21 ?_
  unfold BodyOk
  conv => whnf
  refine aw_rounds tabOk 3 ?_
  conv => whnf
  refine ac_read [] (Within_c G a b c 536870912) (by simp [r3, r2, r1, r0]) rfl trivial ?_
  rintro v h' ⟨rfl, rfl⟩
  refine ⟨rfl, rfl, ?_⟩
  conv => whnf
  refine ways (fun h1 => ?_) (fun h1 => ?_) <;> conv => whnf
  · refine ⟨rfl, fin_turnedK rfl ?_⟩
    conv => whnf
    exact ⟨by rw [notF h1], rfl⟩
  · refine ⟨rfl, fin_turnedK rfl ?_⟩
    conv => whnf
    exact ⟨by rw [notT h1], rfl⟩
theorem rwin29_spec {x : Int} (h : rwin 536870912 x = true) : -536870912 ≤ x ∧ x ≤ 536870912 := by
  have e : wrapS .i64 (0 - 536870912) = -536870912 := by decide
  simp only [rwin, e, Bool.and_eq_true, Bool.not_eq_true', decide_eq_false_iff_not] at h
  omega
theorem okc_no {x : Int} (h : x < -536870912 ∨ 536870912 < x) : okc x = false := by
  cases e : okc x with
  | false => rfl
  | true =>
    simp only [okc, Bool.and_eq_true, Bool.not_eq_true', decide_eq_false_iff_not] at e
    omega
theorem Add_bad (G) (a b c x y z : Int) (h : (ok6 a b c x y z && fine3 (wrapS .i64 (a + x)) (wrapS .i64 (b + y)) (wrapS .i64 (c + z))) = false) : AC Try.prog G 15 [V3 a b c, V3 x y z] [] (fun v h => v = .tuple #[V3 0 0 0, I64 20] ∧ h = []) := by
  refine ac_mono (Add_c G a b c x y z) ?_
  rintro v h' ⟨rfl, rfl⟩
  simp only [h, eachR, sel, err, and_self]
theorem Sub_bad (G) (a b c x y z : Int) (h : ok6 a b c x y z = false) : AC Try.prog G 16 [V3 a b c, V3 x y z] [] (fun v h => v = .tuple #[V3 0 0 0, I64 20] ∧ h = []) := by
  refine ac_mono (Sub_c G a b c x y z) ?_
  rintro v h' ⟨rfl, rfl⟩
  simp only [h, eachR, sel, err, Bool.false_and, and_self]
theorem Dot_bad (G) (a b c x y z : Int) (h : ok6 a b c x y z = false) : AC Try.prog G 14 [V3 a b c, V3 x y z] [] (fun v h => v = .tuple #[I64 0, I64 20] ∧ h = []) := by
  refine ac_mono (Dot_c G a b c x y z) ?_
  rintro v h' ⟨rfl, rfl⟩
  simp only [h, sel, err, and_self]
theorem Cross_bad (G) (a b c x y z : Int) (h : ok6 a b c x y z = false) : AC Try.prog G 13 [V3 a b c, V3 x y z] [] (fun v h => v = .tuple #[V3 0 0 0, I64 20] ∧ h = []) := by
  refine ac_mono (Cross_c G a b c x y z) ?_
  rintro v h' ⟨rfl, rfl⟩
  simp only [h, sel, err, and_self]
theorem Far2_bad (G) (a b c x y z : Int) (h : ok6 a b c x y z = false) : AC Try.prog G 20 [V3 a b c, V3 x y z] [] (fun v h => v = .tuple #[I64 0, I64 20] ∧ h = []) := by
  refine ac_mono (Far2_c G a b c x y z) ?_
  rintro v h' ⟨rfl, rfl⟩
  simp only [h, far2R, pick2, sel, err, Bool.false_and, and_true]
  rfl
theorem Times_bad (G) (a b c n : Int) (hz : isZ a b c = false) (h : ok6 a b c n n n = false) : AC Try.prog G 18 [V3 a b c, I64 n] [] (fun v h => v = .tuple #[V3 0 0 0, I64 20] ∧ h = []) := by
  refine ac_mono (Times_c G a b c n) ?_
  rintro v h' ⟨rfl, rfl⟩
  simp only [h, hz, tmOk, pick2, sel, err, Bool.false_and, and_self]
theorem Neg_bd (G) (a b c : Int) [Bd a 2147483648] [Bd b 2147483648] [Bd c 2147483648] : AC Try.prog G 17 [V3 a b c] [] (fun v h => v = V3 (-a) (-b) (-c) ∧ h = []) := by
  refine ac_mono (Neg_c G a b c) ?_
  rintro v h' ⟨rfl, rfl⟩
  simp (disch := decide) only [wrapS_c, Int.zero_sub, and_self]
theorem place3 (at' : Int) : (Int.tmod (wrapS .i64 (Int.tmod at' 3 + 3)) 3 = 0 ∨ Int.tmod (wrapS .i64 (Int.tmod at' 3 + 3)) 3 = 1) ∨ Int.tmod (wrapS .i64 (Int.tmod at' 3 + 3)) 3 = 2 := by
  have h1 := Int.tmod_lt_of_pos at' (b := 3) (by decide)
  have h2 := Int.lt_tmod_of_pos at' (b := 3) (by decide)
  generalize Int.tmod at' 3 = m at h1 h2
  rw [wrapS_id (by omega) (by omega), Int.tmod_eq_emod_of_nonneg (by omega)]
  omega
/-- a point of three parts, one of them far out -/
structure Out (B : Int) (a b c : Int) : Prop where
  far : 536870912 < B
  near : B ≤ 2147483648
  pa : a = B ∨ (-536870912 ≤ a ∧ a ≤ 536870912)
  pb : b = B ∨ (-536870912 ≤ b ∧ b ≤ 536870912)
  pc : c = B ∨ (-536870912 ≤ c ∧ c ≤ 536870912)
  one : a = B ∨ b = B ∨ c = B
theorem VecOver_c (G) (a b c at' over : Int) : AC Try.prog G 6 [V3 a b c, I64 at', I64 over] [] (fun v h => v = .bool true ∧ h = []) := by
  refine ac_of_body tabOk has6 ?_
  unfold BodyOk
  conv => whnf
  refine ac_read [1] (FineR_c G a b c) rfl rfl ⟨⟨by decide, rfl, _, rfl⟩, trivial⟩ ?_
  rintro v h' ⟨rfl, rfl⟩
  refine ⟨rfl, rfl, ?_⟩
  conv => whnf
  refine ways (fun h0 => ?_) (fun h0 => ?_) <;> conv => whnf
  · refine ac_read [] (wakes_c G) (by simp [r3, r2, r1, r0]) rfl trivial ?_
    rintro v h' ⟨rfl, rfl⟩
    refine ⟨rfl, rfl, ?_⟩
    conv => whnf
    refine ⟨rfl, fin_turnedK rfl ?_⟩
    conv => whnf
    exact ⟨rfl, rfl⟩
  refine ways (fun h1 => ?_) (fun h1 => ?_) <;> conv => whnf
  · refine ac_read [] (wakes_c G) (by simp [r3, r2, r1, r0]) rfl trivial ?_
    rintro v h' ⟨rfl, rfl⟩
    refine ⟨rfl, rfl, ?_⟩
    conv => whnf
    refine ⟨rfl, fin_turnedK rfl ?_⟩
    conv => whnf
    exact ⟨rfl, rfl⟩
  refine ways (fun h2 => ?_) (fun h2 => ?_) <;> conv => whnf
  · refine ac_read [] (wakes_c G) (by simp [r3, r2, r1, r0]) rfl trivial ?_
    rintro v h' ⟨rfl, rfl⟩
    refine ⟨rfl, rfl, ?_⟩
    conv => whnf
    refine ⟨rfl, fin_turnedK rfl ?_⟩
    conv => whnf
    exact ⟨rfl, rfl⟩
  have g0 := notT h0
  simp only [Bool.and_eq_true] at g0
  have bda := rwin29_spec g0.1
  have bdb := rwin29_spec g0.2.1
  have bdc := rwin29_spec g0.2.2
  have o1 : 1 ≤ over := by simpa using h1
  have o2 : over ≤ 1073741824 := by simpa using h2
  have hB : wrapS .i64 (536870912 + over) = 536870912 + over := wrapS_id (by omega) (by omega)
  have oa : okc a = true := okc_of bda.1 bda.2
  have ob : okc b = true := okc_of bdb.1 bdb.2
  have oc : okc c = true := okc_of bdc.1 bdc.2
  have oB : okc (536870912 + over) = false := okc_no (by omega)
  have oN : okc (-(536870912 + over)) = false := okc_no (by omega)
  have _ : Bd (536870912 + over) 2147483648 := Bd.of (by omega) (by omega)
  have _ : Bd a 2147483648 := Bd.of (by omega) (by omega)
  have _ : Bd b 2147483648 := Bd.of (by omega) (by omega)
  have _ : Bd c 2147483648 := Bd.of (by omega) (by omega)
  have ea : wrapS .i64 (0 - a) = -a := by rw [wrapS_id (by omega) (by omega)]; omega
  have eb : wrapS .i64 (0 - b) = -b := by rw [wrapS_id (by omega) (by omega)]; omega
  have ec : wrapS .i64 (0 - c) = -c := by rw [wrapS_id (by omega) (by omega)]; omega
  rcases place3 at' with (hN | hN) | hN
  · rw [hN]
    conv => whnf
    rw [hB]
    refine ac_read [] (Neg_bd G (536870912 + over) b c) (by simp [r3, r2, r1, r0]) rfl trivial ?_
    rintro v h' ⟨rfl, rfl⟩
    refine ⟨rfl, rfl, ?_⟩
    conv => whnf
    refine ac_read [] (Add_bad G a b c (536870912 + over) b c (by simp only [ok6, oB, Bool.and_false, Bool.false_and])) (by simp [r3, r2, r1, r0]) rfl trivial ?_
    rintro v h' ⟨rfl, rfl⟩
    refine ⟨rfl, rfl, ?_⟩
    conv => whnf
    refine ac_read [] (Sub_bad G (-(536870912 + over)) (-b) (-c) a b c (by simp only [ok6, oB, oN, Bool.and_false, Bool.false_and])) (by simp [r3, r2, r1, r0]) rfl trivial ?_
    rintro v h' ⟨rfl, rfl⟩
    refine ⟨rfl, rfl, ?_⟩
    conv => whnf
    refine ac_read [] (Dot_bad G (536870912 + over) b c a b c (by simp only [ok6, oB, oN, Bool.and_false, Bool.false_and])) (by simp [r3, r2, r1, r0]) rfl trivial ?_
    rintro v h' ⟨rfl, rfl⟩
    refine ⟨rfl, rfl, ?_⟩
    conv => whnf
    refine ac_read [] (Cross_bad G a b c (-(536870912 + over)) (-b) (-c) (by simp only [ok6, oB, oN, Bool.and_false, Bool.false_and])) (by simp [r3, r2, r1, r0]) rfl trivial ?_
    rintro v h' ⟨rfl, rfl⟩
    refine ⟨rfl, rfl, ?_⟩
    conv => whnf
    refine ac_read [] (Far2_bad G (536870912 + over) b c (-(536870912 + over)) (-b) (-c) (by simp only [ok6, oB, oN, Bool.and_false, Bool.false_and])) (by simp [r3, r2, r1, r0]) rfl trivial ?_
    rintro v h' ⟨rfl, rfl⟩
    refine ⟨rfl, rfl, ?_⟩
    conv => whnf
    refine ac_read [] (Times_bad G (536870912 + over) b c 0 (by simp only [isZ]; grind) (by simp only [ok6, oB, oN, Bool.and_false, Bool.false_and])) (by simp [r3, r2, r1, r0]) rfl trivial ?_
    rintro v h' ⟨rfl, rfl⟩
    refine ⟨rfl, rfl, ?_⟩
    conv => whnf
    cases hs : fine3 (a + a) (b + b) (c + c) with
    | true =>
      have hs2 : (-268435456 ≤ a ∧ a ≤ 268435456) ∧ (-268435456 ≤ b ∧ b ≤ 268435456) ∧ (-268435456 ≤ c ∧ c ≤ 268435456) := by
        simp only [fine3, okc, Bool.and_eq_true, Bool.not_eq_true', decide_eq_false_iff_not] at hs
        omega
      refine ac_read [] (Add_ok G a b c a b c (ok6_of oa ob oc oa ob oc) hs) (by simp [r3, r2, r1, r0]) rfl trivial ?_
      rintro v h' ⟨rfl, rfl⟩
      refine ⟨rfl, rfl, ?_⟩
      conv => whnf
      refine ac_read [9] (Fine1 G a b c) rfl rfl ⟨⟨by decide, rfl, _, rfl⟩, trivial⟩ ?_
      rintro v h' ⟨rfl, rfl⟩
      refine ⟨rfl, rfl, ?_⟩
      conv => whnf
      refine way0 (by simp only [oa, ob, oc]; rfl) ?_
      conv => whnf
      refine ac_read [10] (Fine1 G (536870912 + over) b c) rfl rfl ⟨⟨by decide, rfl, _, rfl⟩, trivial⟩ ?_
      rintro v h' ⟨rfl, rfl⟩
      refine ⟨rfl, rfl, ?_⟩
      conv => whnf
      refine way0 (by simp only [oB, Bool.and_false, Bool.false_and]) ?_
      conv => whnf
      refine ac_read [11] (Fine2 G a b c (-(536870912 + over)) (-b) (-c)) rfl rfl ⟨⟨by decide, rfl, _, rfl⟩, trivial⟩ ?_
      rintro v h' ⟨rfl, rfl⟩
      refine ⟨rfl, rfl, ?_⟩
      conv => whnf
      refine way0 (by simp only [oN, Bool.and_false, Bool.false_and]) ?_
      conv => whnf
      refine way0 (by simp only [ea, eb, ec]; grind) ?_
      conv => whnf
      repeat' first
        | (refine way0 (by decide) ?_; conv => whnf)
        | (refine way1 (by decide) ?_; conv => whnf)
      refine ac_read [] (wakes_c G) (by simp [r3, r2, r1, r0]) rfl trivial ?_
      rintro v h' ⟨rfl, rfl⟩
      refine ⟨rfl, rfl, ?_⟩
      conv => whnf
      refine ⟨rfl, fin_turnedK rfl ?_⟩
      conv => whnf
      exact ⟨rfl, rfl⟩
    | false =>
      have hs2 : ¬((-268435456 ≤ a ∧ a ≤ 268435456) ∧ (-268435456 ≤ b ∧ b ≤ 268435456) ∧ (-268435456 ≤ c ∧ c ≤ 268435456)) := by
        rintro ⟨q1, q2, q3⟩
        rw [fine3_of (by omega) (by omega) (by omega)] at hs
        cases hs
      refine ac_read [] (Add_bad G a b c a b c (by rw [wrapS_id (by omega) (by omega), wrapS_id (by omega) (by omega), wrapS_id (by omega) (by omega), hs, Bool.and_false])) (by simp [r3, r2, r1, r0]) rfl trivial ?_
      rintro v h' ⟨rfl, rfl⟩
      refine ⟨rfl, rfl, ?_⟩
      conv => whnf
      refine ac_read [9] (Fine1 G a b c) rfl rfl ⟨⟨by decide, rfl, _, rfl⟩, trivial⟩ ?_
      rintro v h' ⟨rfl, rfl⟩
      refine ⟨rfl, rfl, ?_⟩
      conv => whnf
      refine way0 (by simp only [oa, ob, oc]; rfl) ?_
      conv => whnf
      refine ac_read [10] (Fine1 G (536870912 + over) b c) rfl rfl ⟨⟨by decide, rfl, _, rfl⟩, trivial⟩ ?_
      rintro v h' ⟨rfl, rfl⟩
      refine ⟨rfl, rfl, ?_⟩
      conv => whnf
      refine way0 (by simp only [oB, Bool.and_false, Bool.false_and]) ?_
      conv => whnf
      refine ac_read [11] (Fine2 G a b c (-(536870912 + over)) (-b) (-c)) rfl rfl ⟨⟨by decide, rfl, _, rfl⟩, trivial⟩ ?_
      rintro v h' ⟨rfl, rfl⟩
      refine ⟨rfl, rfl, ?_⟩
      conv => whnf
      refine way0 (by simp only [oN, Bool.and_false, Bool.false_and]) ?_
      conv => whnf
      refine way0 (by simp only [ea, eb, ec]; grind) ?_
      conv => whnf
      repeat' first
        | (refine way0 (by decide) ?_; conv => whnf)
        | (refine way1 (by decide) ?_; conv => whnf)
      refine ac_read [] (wakes_c G) (by simp [r3, r2, r1, r0]) rfl trivial ?_
      rintro v h' ⟨rfl, rfl⟩
      refine ⟨rfl, rfl, ?_⟩
      conv => whnf
      refine ⟨rfl, fin_turnedK rfl ?_⟩
      conv => whnf
      exact ⟨rfl, rfl⟩
  · rw [hN]
    conv => whnf
    rw [hB]
    refine ac_read [] (Neg_bd G a (536870912 + over) c) (by simp [r3, r2, r1, r0]) rfl trivial ?_
    rintro v h' ⟨rfl, rfl⟩
    refine ⟨rfl, rfl, ?_⟩
    conv => whnf
    refine ac_read [] (Add_bad G a b c a (536870912 + over) c (by simp only [ok6, oB, Bool.and_false, Bool.false_and])) (by simp [r3, r2, r1, r0]) rfl trivial ?_
    rintro v h' ⟨rfl, rfl⟩
    refine ⟨rfl, rfl, ?_⟩
    conv => whnf
    refine ac_read [] (Sub_bad G (-a) (-(536870912 + over)) (-c) a b c (by simp only [ok6, oB, oN, Bool.and_false, Bool.false_and])) (by simp [r3, r2, r1, r0]) rfl trivial ?_
    rintro v h' ⟨rfl, rfl⟩
    refine ⟨rfl, rfl, ?_⟩
    conv => whnf
    refine ac_read [] (Dot_bad G a (536870912 + over) c a b c (by simp only [ok6, oB, oN, Bool.and_false, Bool.false_and])) (by simp [r3, r2, r1, r0]) rfl trivial ?_
    rintro v h' ⟨rfl, rfl⟩
    refine ⟨rfl, rfl, ?_⟩
    conv => whnf
    refine ac_read [] (Cross_bad G a b c (-a) (-(536870912 + over)) (-c) (by simp only [ok6, oB, oN, Bool.and_false, Bool.false_and])) (by simp [r3, r2, r1, r0]) rfl trivial ?_
    rintro v h' ⟨rfl, rfl⟩
    refine ⟨rfl, rfl, ?_⟩
    conv => whnf
    refine ac_read [] (Far2_bad G a (536870912 + over) c (-a) (-(536870912 + over)) (-c) (by simp only [ok6, oB, oN, Bool.and_false, Bool.false_and])) (by simp [r3, r2, r1, r0]) rfl trivial ?_
    rintro v h' ⟨rfl, rfl⟩
    refine ⟨rfl, rfl, ?_⟩
    conv => whnf
    refine ac_read [] (Times_bad G a (536870912 + over) c 0 (by simp only [isZ]; grind) (by simp only [ok6, oB, oN, Bool.and_false, Bool.false_and])) (by simp [r3, r2, r1, r0]) rfl trivial ?_
    rintro v h' ⟨rfl, rfl⟩
    refine ⟨rfl, rfl, ?_⟩
    conv => whnf
    cases hs : fine3 (a + a) (b + b) (c + c) with
    | true =>
      have hs2 : (-268435456 ≤ a ∧ a ≤ 268435456) ∧ (-268435456 ≤ b ∧ b ≤ 268435456) ∧ (-268435456 ≤ c ∧ c ≤ 268435456) := by
        simp only [fine3, okc, Bool.and_eq_true, Bool.not_eq_true', decide_eq_false_iff_not] at hs
        omega
      refine ac_read [] (Add_ok G a b c a b c (ok6_of oa ob oc oa ob oc) hs) (by simp [r3, r2, r1, r0]) rfl trivial ?_
      rintro v h' ⟨rfl, rfl⟩
      refine ⟨rfl, rfl, ?_⟩
      conv => whnf
      refine ac_read [9] (Fine1 G a b c) rfl rfl ⟨⟨by decide, rfl, _, rfl⟩, trivial⟩ ?_
      rintro v h' ⟨rfl, rfl⟩
      refine ⟨rfl, rfl, ?_⟩
      conv => whnf
      refine way0 (by simp only [oa, ob, oc]; rfl) ?_
      conv => whnf
      refine ac_read [10] (Fine1 G a (536870912 + over) c) rfl rfl ⟨⟨by decide, rfl, _, rfl⟩, trivial⟩ ?_
      rintro v h' ⟨rfl, rfl⟩
      refine ⟨rfl, rfl, ?_⟩
      conv => whnf
      refine way0 (by simp only [oB, Bool.and_false, Bool.false_and]) ?_
      conv => whnf
      refine ac_read [11] (Fine2 G a b c (-a) (-(536870912 + over)) (-c)) rfl rfl ⟨⟨by decide, rfl, _, rfl⟩, trivial⟩ ?_
      rintro v h' ⟨rfl, rfl⟩
      refine ⟨rfl, rfl, ?_⟩
      conv => whnf
      refine way0 (by simp only [oN, Bool.and_false, Bool.false_and]) ?_
      conv => whnf
      refine way0 (by simp only [ea, eb, ec]; grind) ?_
      conv => whnf
      repeat' first
        | (refine way0 (by decide) ?_; conv => whnf)
        | (refine way1 (by decide) ?_; conv => whnf)
      refine ac_read [] (wakes_c G) (by simp [r3, r2, r1, r0]) rfl trivial ?_
      rintro v h' ⟨rfl, rfl⟩
      refine ⟨rfl, rfl, ?_⟩
      conv => whnf
      refine ⟨rfl, fin_turnedK rfl ?_⟩
      conv => whnf
      exact ⟨rfl, rfl⟩
    | false =>
      have hs2 : ¬((-268435456 ≤ a ∧ a ≤ 268435456) ∧ (-268435456 ≤ b ∧ b ≤ 268435456) ∧ (-268435456 ≤ c ∧ c ≤ 268435456)) := by
        rintro ⟨q1, q2, q3⟩
        rw [fine3_of (by omega) (by omega) (by omega)] at hs
        cases hs
      refine ac_read [] (Add_bad G a b c a b c (by rw [wrapS_id (by omega) (by omega), wrapS_id (by omega) (by omega), wrapS_id (by omega) (by omega), hs, Bool.and_false])) (by simp [r3, r2, r1, r0]) rfl trivial ?_
      rintro v h' ⟨rfl, rfl⟩
      refine ⟨rfl, rfl, ?_⟩
      conv => whnf
      refine ac_read [9] (Fine1 G a b c) rfl rfl ⟨⟨by decide, rfl, _, rfl⟩, trivial⟩ ?_
      rintro v h' ⟨rfl, rfl⟩
      refine ⟨rfl, rfl, ?_⟩
      conv => whnf
      refine way0 (by simp only [oa, ob, oc]; rfl) ?_
      conv => whnf
      refine ac_read [10] (Fine1 G a (536870912 + over) c) rfl rfl ⟨⟨by decide, rfl, _, rfl⟩, trivial⟩ ?_
      rintro v h' ⟨rfl, rfl⟩
      refine ⟨rfl, rfl, ?_⟩
      conv => whnf
      refine way0 (by simp only [oB, Bool.and_false, Bool.false_and]) ?_
      conv => whnf
      refine ac_read [11] (Fine2 G a b c (-a) (-(536870912 + over)) (-c)) rfl rfl ⟨⟨by decide, rfl, _, rfl⟩, trivial⟩ ?_
      rintro v h' ⟨rfl, rfl⟩
      refine ⟨rfl, rfl, ?_⟩
      conv => whnf
      refine way0 (by simp only [oN, Bool.and_false, Bool.false_and]) ?_
      conv => whnf
      refine way0 (by simp only [ea, eb, ec]; grind) ?_
      conv => whnf
      repeat' first
        | (refine way0 (by decide) ?_; conv => whnf)
        | (refine way1 (by decide) ?_; conv => whnf)
      refine ac_read [] (wakes_c G) (by simp [r3, r2, r1, r0]) rfl trivial ?_
      rintro v h' ⟨rfl, rfl⟩
      refine ⟨rfl, rfl, ?_⟩
      conv => whnf
      refine ⟨rfl, fin_turnedK rfl ?_⟩
      conv => whnf
      exact ⟨rfl, rfl⟩
  · rw [hN]
    conv => whnf
    rw [hB]
    refine ac_read [] (Neg_bd G a b (536870912 + over)) (by simp [r3, r2, r1, r0]) rfl trivial ?_
    rintro v h' ⟨rfl, rfl⟩
    refine ⟨rfl, rfl, ?_⟩
    conv => whnf
    refine ac_read [] (Add_bad G a b c a b (536870912 + over) (by simp only [ok6, oB, Bool.and_false, Bool.false_and])) (by simp [r3, r2, r1, r0]) rfl trivial ?_
    rintro v h' ⟨rfl, rfl⟩
    refine ⟨rfl, rfl, ?_⟩
    conv => whnf
    refine ac_read [] (Sub_bad G (-a) (-b) (-(536870912 + over)) a b c (by simp only [ok6, oB, oN, Bool.and_false, Bool.false_and])) (by simp [r3, r2, r1, r0]) rfl trivial ?_
    rintro v h' ⟨rfl, rfl⟩
    refine ⟨rfl, rfl, ?_⟩
    conv => whnf
    refine ac_read [] (Dot_bad G a b (536870912 + over) a b c (by simp only [ok6, oB, oN, Bool.and_false, Bool.false_and])) (by simp [r3, r2, r1, r0]) rfl trivial ?_
    rintro v h' ⟨rfl, rfl⟩
    refine ⟨rfl, rfl, ?_⟩
    conv => whnf
    refine ac_read [] (Cross_bad G a b c (-a) (-b) (-(536870912 + over)) (by simp only [ok6, oB, oN, Bool.and_false, Bool.false_and])) (by simp [r3, r2, r1, r0]) rfl trivial ?_
    rintro v h' ⟨rfl, rfl⟩
    refine ⟨rfl, rfl, ?_⟩
    conv => whnf
    refine ac_read [] (Far2_bad G a b (536870912 + over) (-a) (-b) (-(536870912 + over)) (by simp only [ok6, oB, oN, Bool.and_false, Bool.false_and])) (by simp [r3, r2, r1, r0]) rfl trivial ?_
    rintro v h' ⟨rfl, rfl⟩
    refine ⟨rfl, rfl, ?_⟩
    conv => whnf
    refine ac_read [] (Times_bad G a b (536870912 + over) 0 (by simp only [isZ]; grind) (by simp only [ok6, oB, oN, Bool.and_false, Bool.false_and])) (by simp [r3, r2, r1, r0]) rfl trivial ?_
    rintro v h' ⟨rfl, rfl⟩
    refine ⟨rfl, rfl, ?_⟩
    conv => whnf
    cases hs : fine3 (a + a) (b + b) (c + c) with
    | true =>
      have hs2 : (-268435456 ≤ a ∧ a ≤ 268435456) ∧ (-268435456 ≤ b ∧ b ≤ 268435456) ∧ (-268435456 ≤ c ∧ c ≤ 268435456) := by
        simp only [fine3, okc, Bool.and_eq_true, Bool.not_eq_true', decide_eq_false_iff_not] at hs
        omega
      refine ac_read [] (Add_ok G a b c a b c (ok6_of oa ob oc oa ob oc) hs) (by simp [r3, r2, r1, r0]) rfl trivial ?_
      rintro v h' ⟨rfl, rfl⟩
      refine ⟨rfl, rfl, ?_⟩
      conv => whnf
      refine ac_read [9] (Fine1 G a b c) rfl rfl ⟨⟨by decide, rfl, _, rfl⟩, trivial⟩ ?_
      rintro v h' ⟨rfl, rfl⟩
      refine ⟨rfl, rfl, ?_⟩
      conv => whnf
      refine way0 (by simp only [oa, ob, oc]; rfl) ?_
      conv => whnf
      refine ac_read [10] (Fine1 G a b (536870912 + over)) rfl rfl ⟨⟨by decide, rfl, _, rfl⟩, trivial⟩ ?_
      rintro v h' ⟨rfl, rfl⟩
      refine ⟨rfl, rfl, ?_⟩
      conv => whnf
      refine way0 (by simp only [oB, Bool.and_false, Bool.false_and]) ?_
      conv => whnf
      refine ac_read [11] (Fine2 G a b c (-a) (-b) (-(536870912 + over))) rfl rfl ⟨⟨by decide, rfl, _, rfl⟩, trivial⟩ ?_
      rintro v h' ⟨rfl, rfl⟩
      refine ⟨rfl, rfl, ?_⟩
      conv => whnf
      refine way0 (by simp only [oN, Bool.and_false, Bool.false_and]) ?_
      conv => whnf
      refine way0 (by simp only [ea, eb, ec]; grind) ?_
      conv => whnf
      repeat' first
        | (refine way0 (by decide) ?_; conv => whnf)
        | (refine way1 (by decide) ?_; conv => whnf)
      refine ac_read [] (wakes_c G) (by simp [r3, r2, r1, r0]) rfl trivial ?_
      rintro v h' ⟨rfl, rfl⟩
      refine ⟨rfl, rfl, ?_⟩
      conv => whnf
      refine ⟨rfl, fin_turnedK rfl ?_⟩
      conv => whnf
      exact ⟨rfl, rfl⟩
    | false =>
      have hs2 : ¬((-268435456 ≤ a ∧ a ≤ 268435456) ∧ (-268435456 ≤ b ∧ b ≤ 268435456) ∧ (-268435456 ≤ c ∧ c ≤ 268435456)) := by
        rintro ⟨q1, q2, q3⟩
        rw [fine3_of (by omega) (by omega) (by omega)] at hs
        cases hs
      refine ac_read [] (Add_bad G a b c a b c (by rw [wrapS_id (by omega) (by omega), wrapS_id (by omega) (by omega), wrapS_id (by omega) (by omega), hs, Bool.and_false])) (by simp [r3, r2, r1, r0]) rfl trivial ?_
      rintro v h' ⟨rfl, rfl⟩
      refine ⟨rfl, rfl, ?_⟩
      conv => whnf
      refine ac_read [9] (Fine1 G a b c) rfl rfl ⟨⟨by decide, rfl, _, rfl⟩, trivial⟩ ?_
      rintro v h' ⟨rfl, rfl⟩
      refine ⟨rfl, rfl, ?_⟩
      conv => whnf
      refine way0 (by simp only [oa, ob, oc]; rfl) ?_
      conv => whnf
      refine ac_read [10] (Fine1 G a b (536870912 + over)) rfl rfl ⟨⟨by decide, rfl, _, rfl⟩, trivial⟩ ?_
      rintro v h' ⟨rfl, rfl⟩
      refine ⟨rfl, rfl, ?_⟩
      conv => whnf
      refine way0 (by simp only [oB, Bool.and_false, Bool.false_and]) ?_
      conv => whnf
      refine ac_read [11] (Fine2 G a b c (-a) (-b) (-(536870912 + over))) rfl rfl ⟨⟨by decide, rfl, _, rfl⟩, trivial⟩ ?_
      rintro v h' ⟨rfl, rfl⟩
      refine ⟨rfl, rfl, ?_⟩
      conv => whnf
      refine way0 (by simp only [oN, Bool.and_false, Bool.false_and]) ?_
      conv => whnf
      refine way0 (by simp only [ea, eb, ec]; grind) ?_
      conv => whnf
      repeat' first
        | (refine way0 (by decide) ?_; conv => whnf)
        | (refine way1 (by decide) ?_; conv => whnf)
      refine ac_read [] (wakes_c G) (by simp [r3, r2, r1, r0]) rfl trivial ?_
      rintro v h' ⟨rfl, rfl⟩
      refine ⟨rfl, rfl, ?_⟩
      conv => whnf
      refine ⟨rfl, fin_turnedK rfl ?_⟩
      conv => whnf
      exact ⟨rfl, rfl⟩
end Go.Proofs.Ytjpjnjidchdlbaa
