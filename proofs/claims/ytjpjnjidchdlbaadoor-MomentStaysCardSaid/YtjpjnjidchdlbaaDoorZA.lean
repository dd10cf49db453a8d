import Derived.Test.YtjpjnjidchdlbaaDoorEngZ
import Derived.Test.YtjpjnjidchdlbaaDoorTab
import Derived.Test.YtjpjnjidchdlbaaDoorMomA
import Derived.Test.YtjpjnjidchdlbaaDoorMomJ
/-
  Wide numbers by their digits: low, digits, wide, not, plus (no condition).
-/
namespace Go.Proofs.YtjpjnjidchdlbaaDoor
set_option linter.unusedSimpArgs false
set_option linter.unusedVariables false
open Go
set_option maxRecDepth 100000
set_option maxHeartbeats 4000000
theorem has113 : Has Tryd.prog 113 Tryd.f113 := ⟨Tryd.func113, by kernel_rfl, by kernel_rfl⟩
theorem has125 : Has Tryd.prog 125 Tryd.f125 := ⟨Tryd.func125, by kernel_rfl, by kernel_rfl⟩
theorem has112 : Has Tryd.prog 112 Tryd.f112 := ⟨Tryd.func112, by kernel_rfl, by kernel_rfl⟩
theorem has127 : Has Tryd.prog 127 Tryd.f127 := ⟨Tryd.func127, by kernel_rfl, by kernel_rfl⟩
theorem has126 : Has Tryd.prog 126 Tryd.f126 := ⟨Tryd.func126, by kernel_rfl, by kernel_rfl⟩

abbrev U64 (x : Int) : Value := .int .u64 x
abbrev W4 (a b c d : Int) : Value := .agg #[U64 a, U64 b, U64 c, U64 d]
abbrev D8 (a b c d e f g h : Int) : Value := .agg #[U64 a, U64 b, U64 c, U64 d, U64 e, U64 f, U64 g, U64 h]
/-- digit i of a number, by 2^32; word i, by 2^64 -/
def dg (n i : Nat) : Nat := n / 4294967296 ^ i % 4294967296
def wd (n i : Nat) : Nat := n / 4294967296 ^ (2 * i) % (4294967296 * 4294967296)
def wv (n : Nat) : Value := W4 (wd n 0 : Nat) (wd n 1 : Nat) (wd n 2 : Nat) (wd n 3 : Nat)
def dv (n : Nat) : Value := D8 (dg n 0 : Nat) (dg n 1 : Nat) (dg n 2 : Nat) (dg n 3 : Nat) (dg n 4 : Nat) (dg n 5 : Nat) (dg n 6 : Nat) (dg n 7 : Nat)
def lowN (n : Nat) : Bool := decide (9223372036854775808 ≤ wd n 3)
theorem dg_lt (n i : Nat) : dg n i < 4294967296 := Nat.mod_lt _ (by decide)
theorem wd_lt (n i : Nat) : wd n i < 18446744073709551616 := Nat.mod_lt _ (by decide)
theorem wd_lo (n i : Nat) : wd n i % 4294967296 = dg n (2 * i) := by
  unfold wd dg
  rw [Nat.mod_mul, Nat.add_mul_mod_self_left, Nat.mod_mod]
theorem wd_hi (n i : Nat) : wd n i / 4294967296 = dg n (2 * i + 1) := by
  unfold wd dg
  rw [Nat.mod_mul, Nat.add_mul_div_left _ _ (by decide), Nat.div_eq_of_lt (Nat.mod_lt _ (by decide)), Nat.zero_add, Nat.div_div_eq_div_mul, ← Nat.pow_succ]
theorem wd_dg (n i : Nat) : wd n i = dg n (2 * i + 1) * 4294967296 + dg n (2 * i) := by
  rw [← wd_lo, ← wd_hi]
  omega
theorem wrapU {n : Int} (h1 : 0 ≤ n) (h2 : n < 18446744073709551616) : wrapS .u64 n = n := by
  rw [wrapS_eq]; simp [IntKind.wrap, IntKind.signed, IntKind.bits]; omega
theorem tmodB (m : Nat) : ((m : Nat) : Int).tmod 4294967296 = ((m % 4294967296 : Nat) : Int) := by
  rw [Int.tmod_eq_emod_of_nonneg (by omega)]
  omega
theorem tdivB (m : Nat) (h : m < 18446744073709551616) : wrapS .u64 (((m : Nat) : Int).tdiv 4294967296) = ((m / 4294967296 : Nat) : Int) := by
  rw [Int.tdiv_eq_ediv_of_nonneg (by omega), wrapU (by omega) (by omega)]
  omega
theorem low_n (G) (n : Nat) : AC Tryd.prog G 113 [wv n] [] (fun v h => v = .bool (lowN n) ∧ h = []) := by
  refine ac_of_body tabOk has113 ?_
  unfold BodyOk
  conv => whnf
  refine ⟨rfl, fin_turnedK rfl ?_⟩
  conv => whnf
  refine ⟨?_, rfl⟩
  show Value.bool ((((wd n 3 : Nat) : Int).fdiv (2 ^ min (Int.toNat 63) 64)) == 1) = _
  congr 1
  have h1 := wd_lt n 3
  have h2 : (((wd n 3 : Nat) : Int).fdiv (2 ^ min (Int.toNat 63) 64)) = ((wd n 3 / 9223372036854775808 : Nat) : Int) := by
    rw [show (2 : Int) ^ min (Int.toNat 63) 64 = 9223372036854775808 from by decide, Int.fdiv_eq_ediv_of_nonneg _ (by decide)]
    omega
  rw [h2]
  unfold lowN
  by_cases h3 : 9223372036854775808 ≤ wd n 3
  · rw [decide_eq_true h3, show wd n 3 / 9223372036854775808 = 1 from by omega]
    rfl
  · rw [decide_eq_false h3, show wd n 3 / 9223372036854775808 = 0 from by omega]
    rfl
theorem digits_n (G) (n : Nat) : AC Tryd.prog G 125 [wv n] [] (fun v h => v = dv n ∧ h = []) := by
  refine ac_of_body tabOk has125 ?_
  unfold BodyOk
  conv => whnf
  refine ⟨rfl, fin_turnedK rfl ?_⟩
  conv => whnf
  refine ⟨?_, rfl⟩
  show D8 (((wd n 0 : Nat) : Int).tmod 4294967296) (wrapS .u64 (((wd n 0 : Nat) : Int).tdiv 4294967296)) (((wd n 1 : Nat) : Int).tmod 4294967296) (wrapS .u64 (((wd n 1 : Nat) : Int).tdiv 4294967296)) (((wd n 2 : Nat) : Int).tmod 4294967296) (wrapS .u64 (((wd n 2 : Nat) : Int).tdiv 4294967296)) (((wd n 3 : Nat) : Int).tmod 4294967296) (wrapS .u64 (((wd n 3 : Nat) : Int).tdiv 4294967296)) = dv n
  rw [tmodB, tmodB, tmodB, tmodB, tdivB _ (wd_lt n 0), tdivB _ (wd_lt n 1), tdivB _ (wd_lt n 2), tdivB _ (wd_lt n 3), wd_lo, wd_lo, wd_lo, wd_lo, wd_hi, wd_hi, wd_hi, wd_hi]
  rfl
theorem join_d (n i : Nat) : wrapS .u64 (wrapS .u64 (((dg n (2 * i + 1) : Nat) : Int) * 4294967296) + ((dg n (2 * i) : Nat) : Int)) = ((wd n i : Nat) : Int) := by
  have h1 := dg_lt n (2 * i + 1)
  have h2 := dg_lt n (2 * i)
  rw [wrapU (n := ((dg n (2 * i + 1) : Nat) : Int) * 4294967296) (by omega) (by omega), wrapU (by omega) (by omega), wd_dg]
  omega
theorem wide_n (G) (n : Nat) : AC Tryd.prog G 112 [dv n] [] (fun v h => v = wv n ∧ h = []) := by
  refine ac_of_body tabOk has112 ?_
  unfold BodyOk
  conv => whnf
  refine ⟨rfl, fin_turnedK rfl ?_⟩
  conv => whnf
  refine ⟨?_, rfl⟩
  have e0 := join_d n 0
  have e1 := join_d n 1
  have e2 := join_d n 2
  have e3 := join_d n 3
  show W4 _ _ _ _ = W4 _ _ _ _
  rw [← e0, ← e1, ← e2, ← e3]
def MW : Nat := 115792089237316195423570985008687907853269984665640564039457584007913129639936
theorem MW_eq : MW = 4294967296 ^ 8 := by decide
theorem dg_not {n i : Nat} (hn : n < MW) (hi : i < 8) : dg (MW - 1 - n) i = 4294967296 - 1 - dg n i := by
  unfold dg
  have hP : 0 < 4294967296 ^ i := Nat.pow_pos (by decide)
  have hM : MW = 4294967296 ^ i * 4294967296 ^ (8 - i) := by rw [← Nat.pow_add, show i + (8 - i) = 8 from by omega, MW_eq]
  have hQ : 4294967296 ^ (8 - i) = 4294967296 * 4294967296 ^ (7 - i) := by rw [← Nat.pow_succ', show 8 - i = 7 - i + 1 from by omega]
  have h1 : n / 4294967296 ^ i < 4294967296 ^ (8 - i) := by rw [Nat.div_lt_iff_lt_mul hP, Nat.mul_comm, ← hM]; exact hn
  have h2 : (MW - 1 - n) / 4294967296 ^ i = 4294967296 ^ (8 - i) - 1 - n / 4294967296 ^ i := by
    rw [Nat.sub_sub, Nat.add_comm 1 n, ← Nat.sub_sub, hM]
    have := Nat.mul_sub_div n (4294967296 ^ i) (4294967296 ^ (8 - i)) (by rw [← hM]; exact hn)
    rw [show 4294967296 ^ i * 4294967296 ^ (8 - i) - n - 1 = 4294967296 ^ i * 4294967296 ^ (8 - i) - (n + 1) from by omega, this]
    omega
  rw [h2, hQ]
  rw [hQ] at h1
  have h3 := Nat.div_add_mod (n / 4294967296 ^ i) 4294967296
  have h4 : n / 4294967296 ^ i / 4294967296 < 4294967296 ^ (7 - i) := by rw [Nat.div_lt_iff_lt_mul (by decide), Nat.mul_comm]; exact h1
  have h5 := Nat.mod_lt (n / 4294967296 ^ i) (show 0 < 4294967296 by decide)
  generalize n / 4294967296 ^ i = q at *
  generalize 4294967296 ^ (7 - i) = R at *
  omega
theorem not_n (G) {n : Nat} (hn : n < MW) : AC Tryd.prog G 127 [dv n] [] (fun v h => v = dv (MW - 1 - n) ∧ h = []) := by
  refine ac_of_body tabOk has127 ?_
  unfold BodyOk
  conv => whnf
  refine aw_rounds tabOk 9 ?_
  conv => whnf
  refine ⟨rfl, fin_turnedK rfl ?_⟩
  conv => whnf
  refine ⟨?_, rfl⟩
  have key : ∀ i, i < 8 → wrapS .u64 (4294967295 - ((dg n i : Nat) : Int)) = ((dg (MW - 1 - n) i : Nat) : Int) := by
    intro i hi
    have h1 := dg_lt n i
    rw [wrapU (by omega) (by omega), dg_not hn hi]
    omega
  unfold dv
  rw [← key 0 (by decide), ← key 1 (by decide), ← key 2 (by decide), ← key 3 (by decide), ← key 4 (by decide), ← key 5 (by decide), ← key 6 (by decide), ← key 7 (by decide)]
def plC (a b c : Nat) : Nat → Int
  | 0 => (c : Int)
  | i + 1 => wrapS .u64 ((wrapS .u64 (wrapS .u64 (((dg a i : Nat) : Int) + ((dg b i : Nat) : Int)) + plC a b c i)).tdiv 4294967296)
def plD (a b c i : Nat) : Int := (wrapS .u64 (wrapS .u64 (((dg a i : Nat) : Int) + ((dg b i : Nat) : Int)) + plC a b c i)).tmod 4294967296
theorem pl_step (a b c P : Nat) (hP : 0 < P) : (a / P % 4294967296 + b / P % 4294967296 + (a % P + b % P + c) / P) % 4294967296 = (a + b + c) / P % 4294967296 ∧
    (a / P % 4294967296 + b / P % 4294967296 + (a % P + b % P + c) / P) / 4294967296 = (a % (P * 4294967296) + b % (P * 4294967296) + c) / (P * 4294967296) := by
  have ha := Nat.div_add_mod a P
  have hb := Nat.div_add_mod b P
  have e : a + b + c = (a % P + b % P + c) + P * (a / P + b / P) := by rw [Nat.mul_add]; omega
  constructor
  · rw [e, Nat.add_mul_div_left _ _ hP]
    omega
  · rw [Nat.mod_mul, Nat.mod_mul, show a % P + P * (a / P % 4294967296) + (b % P + P * (b / P % 4294967296)) + c = (a % P + b % P + c) + P * (a / P % 4294967296 + b / P % 4294967296) from by rw [Nat.mul_add]; omega,
      ← Nat.div_div_eq_div_mul, Nat.add_mul_div_left _ _ hP]
    congr 1
    omega
theorem plC_eq (a b c : Nat) (hc : c ≤ 1) : ∀ i, plC a b c i = (((a % 4294967296 ^ i + b % 4294967296 ^ i + c) / 4294967296 ^ i : Nat) : Int) ∧ (a % 4294967296 ^ i + b % 4294967296 ^ i + c) / 4294967296 ^ i ≤ 1
  | 0 => ⟨by simp [plC, Nat.mod_one], by simp [Nat.mod_one]; exact hc⟩
  | i + 1 => by
    obtain ⟨h1, h2⟩ := plC_eq a b c hc i
    have hP : 0 < 4294967296 ^ i := Nat.pow_pos (by decide)
    have hs := (pl_step a b c (4294967296 ^ i) hP).2
    have da := dg_lt a i
    have db := dg_lt b i
    obtain ⟨C, hC⟩ : ∃ C, C = (a % 4294967296 ^ i + b % 4294967296 ^ i + c) / 4294967296 ^ i := ⟨_, rfl⟩
    rw [← hC] at h1 h2 hs
    have e : wrapS .u64 (wrapS .u64 (((dg a i : Nat) : Int) + ((dg b i : Nat) : Int)) + (C : Int)) = ((dg a i + dg b i + C : Nat) : Int) := by
      rw [wrapU (n := ((dg a i : Nat) : Int) + ((dg b i : Nat) : Int)) (by omega) (by omega), wrapU (by omega) (by omega)]
      omega
    rw [Nat.pow_succ, ← hs]
    refine ⟨?_, ?_⟩
    · unfold plC
      rw [h1, e, tdivB _ (by omega)]
      rfl
    · show (dg a i + dg b i + C) / 4294967296 ≤ 1
      omega
theorem plD_eq (a b c : Nat) (hc : c ≤ 1) (i : Nat) : plD a b c i = ((dg (a + b + c) i : Nat) : Int) := by
  obtain ⟨h1, h2⟩ := plC_eq a b c hc i
  have hP : 0 < 4294967296 ^ i := Nat.pow_pos (by decide)
  have hs := (pl_step a b c (4294967296 ^ i) hP).1
  have da := dg_lt a i
  have db := dg_lt b i
  obtain ⟨C, hC⟩ : ∃ C, C = (a % 4294967296 ^ i + b % 4294967296 ^ i + c) / 4294967296 ^ i := ⟨_, rfl⟩
  rw [← hC] at h1 h2 hs
  unfold plD
  rw [h1, wrapU (n := ((dg a i : Nat) : Int) + ((dg b i : Nat) : Int)) (by omega) (by omega), wrapU (by omega) (by omega), show ((dg a i : Nat) : Int) + ((dg b i : Nat) : Int) + (C : Int) = ((dg a i + dg b i + C : Nat) : Int) from by omega, tmodB]
  congr 1
theorem plus_n (G) (a b c : Nat) (hc : c ≤ 1) : AC Tryd.prog G 126 [dv a, dv b, U64 (c : Int)] [] (fun v h => v = dv (a + b + c) ∧ h = []) := by
  refine ac_of_body tabOk has126 ?_
  unfold BodyOk
  conv => whnf
  refine aw_rounds tabOk 9 ?_
  conv => whnf
  refine ad_of tabOk (by kernel_rfl) [(0, false), (1, false), (2, false), (3, false), (4, false), (5, false), (6, false), (7, false), (8, false), (9, false)] (by kernel_rfl) ?_
  conv => whnf
  refine ad_of tabOk (by kernel_rfl) [(0, false), (1, false), (2, false), (3, false), (4, false), (5, false), (6, false), (7, false), (8, false), (9, false)] (by kernel_rfl) ?_
  conv => whnf
  refine ad_of tabOk (by kernel_rfl) [(0, false), (1, false), (2, false), (3, false), (4, false), (5, false), (6, false), (7, false), (8, false), (9, false)] (by kernel_rfl) ?_
  conv => whnf
  refine ad_of tabOk (by kernel_rfl) [(0, false), (1, false), (2, false), (3, false), (4, false), (5, false), (6, false), (7, false), (8, false), (9, false)] (by kernel_rfl) ?_
  conv => whnf
  refine ad_of tabOk (by kernel_rfl) [(0, false), (1, false), (2, false), (3, false), (4, false), (5, false), (6, false), (7, false), (8, false), (9, false)] (by kernel_rfl) ?_
  conv => whnf
  refine ad_of tabOk (by kernel_rfl) [(0, false), (1, false), (2, false), (3, false), (4, false), (5, false), (6, false), (7, false), (8, false), (9, false)] (by kernel_rfl) ?_
  conv => whnf
  refine ad_of tabOk (by kernel_rfl) [(0, false), (1, false), (2, false), (3, false), (4, false), (5, false), (6, false), (7, false), (8, false), (9, false)] (by kernel_rfl) ?_
  conv => whnf
  refine ad_of tabOk (by kernel_rfl) [(0, false), (1, false), (2, false), (3, false), (4, false), (5, false), (6, false), (7, false), (8, false), (9, false)] (by kernel_rfl) ?_
  conv => whnf
  refine ⟨rfl, fin_turnedK rfl ?_⟩
  conv => whnf
  refine ⟨?_, rfl⟩
  unfold dv
  rw [← plD_eq a b c hc 0, ← plD_eq a b c hc 1, ← plD_eq a b c hc 2, ← plD_eq a b c hc 3, ← plD_eq a b c hc 4, ← plD_eq a b c hc 5, ← plD_eq a b c hc 6, ← plD_eq a b c hc 7]
  rfl
end Go.Proofs.YtjpjnjidchdlbaaDoor

/-
  Wide numbers: Of, Neg, Add, Sub (no condition).
-/
namespace Go.Proofs.YtjpjnjidchdlbaaDoor
set_option linter.unusedSimpArgs false
set_option linter.unusedVariables false
open Go
set_option maxRecDepth 100000
set_option maxHeartbeats 4000000
theorem has101 : Has Tryd.prog 101 Tryd.f101 := ⟨Tryd.func101, by kernel_rfl, by kernel_rfl⟩
theorem has114 : Has Tryd.prog 114 Tryd.f114 := ⟨Tryd.func114, by kernel_rfl, by kernel_rfl⟩
theorem has123 : Has Tryd.prog 123 Tryd.f123 := ⟨Tryd.func123, by kernel_rfl, by kernel_rfl⟩
theorem has130 : Has Tryd.prog 130 Tryd.f130 := ⟨Tryd.func130, by kernel_rfl, by kernel_rfl⟩

theorem wd_mod (n i : Nat) (hi : i < 4) : wd (n % MW) i = wd n i := by
  unfold wd
  have h2 : MW = 4294967296 ^ (2 * i) * ((4294967296 * 4294967296) * 4294967296 ^ (6 - 2 * i)) := by
    rw [MW_eq, show 4294967296 * 4294967296 = 4294967296 ^ 2 from rfl, ← Nat.pow_add, ← Nat.pow_add, show 2 * i + (2 + (6 - 2 * i)) = 8 from by omega]
  rw [h2, Nat.mod_mul_right_div_self, Nat.mod_mul_right_mod]
theorem wv_mod (n : Nat) : wv (n % MW) = wv n := by
  unfold wv
  rw [wd_mod n 0 (by decide), wd_mod n 1 (by decide), wd_mod n 2 (by decide), wd_mod n 3 (by decide)]
/-- a whole number, wide -/
def ofN (i : Int) : Nat := match decide (i < 0) with
  | true => MW - (-i).toNat
  | false => i.toNat
theorem ofN_lt {i : Int} (h2 : i < 9223372036854775808) : ofN i < MW := by
  unfold ofN MW
  split
  · rename_i h
    have := of_decide_eq_true h
    omega
  · omega
theorem wd0 (n : Nat) : wd n 0 = n % 18446744073709551616 := by
  unfold wd
  rw [Nat.mul_zero, Nat.pow_zero, Nat.div_one]
theorem wd1 (n : Nat) : wd n 1 = n / 18446744073709551616 % 18446744073709551616 := rfl
theorem wd2 (n : Nat) : wd n 2 = n / 340282366920938463463374607431768211456 % 18446744073709551616 := rfl
theorem wd3 (n : Nat) : wd n 3 = n / 6277101735386680763835789423207666416102355444464034512896 % 18446744073709551616 := rfl
theorem Of_n (G) {i : Int} (h1 : -9223372036854775808 ≤ i) (h2 : i < 9223372036854775808) : AC Tryd.prog G 101 [.int .i64 i] [] (fun v h => v = wv (ofN i) ∧ h = []) := by
  refine ac_of_body tabOk has101 ?_
  unfold BodyOk
  conv => whnf
  refine aw_rounds tabOk 4 ?_
  conv => whnf
  refine ways (fun hn => ?_) (fun hn => ?_) <;> conv => whnf
  · refine way1 hn ?_
    conv => whnf
    refine way1 hn ?_
    conv => whnf
    refine ⟨rfl, fin_turnedK rfl ?_⟩
    conv => whnf
    refine ⟨?_, rfl⟩
    have hlt := of_decide_eq_true hn
    have e : ofN i = MW - (-i).toNat := by unfold ofN; rw [hn]
    have e0 : wrapS .u64 i = i + 18446744073709551616 := by
      rw [wrapS_eq]; simp [IntKind.wrap, IntKind.signed, IntKind.bits]; omega
    show W4 (wrapS .u64 i) 18446744073709551615 18446744073709551615 18446744073709551615 = wv (ofN i)
    unfold wv
    rw [e0, e, wd0, wd1, wd2, wd3, show ((MW - (-i).toNat) % 18446744073709551616 : Nat) = (i + 18446744073709551616).toNat from by unfold MW; omega, show (MW - (-i).toNat) / 18446744073709551616 % 18446744073709551616 = 18446744073709551615 from by unfold MW; omega,
      show (MW - (-i).toNat) / 340282366920938463463374607431768211456 % 18446744073709551616 = 18446744073709551615 from by unfold MW; omega, show (MW - (-i).toNat) / 6277101735386680763835789423207666416102355444464034512896 % 18446744073709551616 = 18446744073709551615 from by unfold MW; omega, show (((i + 18446744073709551616).toNat : Nat) : Int) = i + 18446744073709551616 from by omega]
    rfl
  refine ⟨rfl, fin_turnedK rfl ?_⟩
  conv => whnf
  refine ⟨?_, rfl⟩
  have hge := of_decide_eq_false hn
  have e : ofN i = i.toNat := by unfold ofN; rw [hn]
  show W4 (wrapS .u64 i) 0 0 0 = wv (ofN i)
  unfold wv
  rw [wrapU (by omega) (by omega), e, wd0, wd1, wd2, wd3, show i.toNat % 18446744073709551616 = i.toNat from by omega, show i.toNat / 18446744073709551616 % 18446744073709551616 = 0 from by omega,
    show i.toNat / 340282366920938463463374607431768211456 % 18446744073709551616 = 0 from by omega, show i.toNat / 6277101735386680763835789423207666416102355444464034512896 % 18446744073709551616 = 0 from by omega, show ((i.toNat : Nat) : Int) = i from by omega]
  rfl
theorem wide_e (G) {n m : Nat} (e : wv n = wv m) : AC Tryd.prog G 112 [dv n] [] (fun v h => v = wv m ∧ h = []) := e ▸ wide_n G n
def negN (a : Nat) : Nat := (MW - a) % MW
theorem negN_lt (a : Nat) : negN a < MW := Nat.mod_lt _ (by decide)
theorem Neg_n (G) {a : Nat} (ha : a < MW) : AC Tryd.prog G 114 [wv a] [] (fun v h => v = .tuple #[wv (negN a), .bool (lowN a && lowN (negN a))] ∧ h = []) := by
  refine ac_of_body tabOk has114 ?_
  unfold BodyOk
  conv => whnf
  refine ac_pure (digits_n G a) rfl ?_
  rintro v h' ⟨rfl, rfl⟩
  refine ⟨rfl, rfl, ?_⟩
  conv => whnf
  refine ac_pure (not_n G ha) rfl ?_
  rintro v h' ⟨rfl, rfl⟩
  refine ⟨rfl, rfl, ?_⟩
  conv => whnf
  refine ac_pure (plus_n G (MW - 1 - a) 0 1 (Nat.le_refl 1)) rfl ?_
  rintro v h' ⟨rfl, rfl⟩
  refine ⟨rfl, rfl, ?_⟩
  conv => whnf
  refine ac_pure (wide_e G (m := negN a) (by rw [show MW - 1 - a + 0 + 1 = MW - a from by omega]; exact (wv_mod _).symm)) rfl ?_
  rintro v h' ⟨rfl, rfl⟩
  refine ⟨rfl, rfl, ?_⟩
  conv => whnf
  refine ad_hole [] [.cells _ 115, .deferred none, .cells _ 115] tabOk (by kernel_rfl) [(0, false), (1, false), (2, false), (3, false), (4, false), (5, false), (6, false), (7, false), (8, false)] (by kernel_rfl) ⟨.inl rfl, .inr rfl, .inl rfl, trivial⟩ ?_
  conv => whnf
  refine quiet_of (low_n G a) rfl ?_
  rintro v h' ⟨rfl, rfl⟩
  refine ⟨rfl, rfl, ?_⟩
  conv => whnf
  refine ways (fun h1 => ?_) (fun h1 => ?_) <;> conv => whnf
  · skip
    refine quiet_of (low_n G (negN a)) rfl ?_
    rintro v h' ⟨rfl, rfl⟩
    refine ⟨rfl, rfl, ?_⟩
    conv => whnf
    refine ⟨⟨.inl rfl, .inr rfl, .inl rfl, trivial⟩, ?_⟩
    conv => whnf
    refine ⟨rfl, fin_turnedK rfl ?_⟩
    conv => whnf
    exact ⟨by rw [h1]; rfl, rfl⟩
  · refine ⟨⟨.inl rfl, .inr rfl, .inl rfl, trivial⟩, ?_⟩
    conv => whnf
    refine ⟨rfl, fin_turnedK rfl ?_⟩
    conv => whnf
    exact ⟨by rw [h1]; rfl, rfl⟩
end Go.Proofs.YtjpjnjidchdlbaaDoor

/-
  Wide numbers: Add, Sub (no condition).
-/
namespace Go.Proofs.YtjpjnjidchdlbaaDoor
set_option linter.unusedSimpArgs false
set_option linter.unusedVariables false
open Go
set_option maxRecDepth 100000
set_option maxHeartbeats 4000000
def addN (a b : Nat) : Nat := (a + b) % MW
def subN (a b : Nat) : Nat := (a + (MW - b)) % MW
theorem addN_lt (a b : Nat) : addN a b < MW := Nat.mod_lt _ (by decide)
theorem subN_lt (a b : Nat) : subN a b < MW := Nat.mod_lt _ (by decide)
def addF (a b : Nat) : Bool := match lowN a == lowN b with
  | true => !(lowN (addN a b) == lowN a)
  | false => false
def subF (a b : Nat) : Bool := match !(lowN a == lowN b) with
  | true => !(lowN (subN a b) == lowN a)
  | false => false
theorem Add_n (G) {a b : Nat} (hb : b < MW) : AC Tryd.prog G 123 [wv a, wv b] [] (fun v h => v = .tuple #[wv (addN a b), .bool (addF a b)] ∧ h = []) := by
  refine ac_of_body tabOk has123 ?_
  unfold BodyOk
  conv => whnf
  refine ad_of tabOk (by kernel_rfl) [(6, false), (0, false), (2, false), (1, false), (3, false), (4, false), (5, false), (7, false)] (by kernel_rfl) ?_
  conv => whnf
  refine quiet_of (digits_n G a) rfl ?_
  rintro v h' ⟨rfl, rfl⟩
  refine ⟨rfl, rfl, ?_⟩
  conv => whnf
  refine quiet_of (digits_n G b) rfl ?_
  rintro v h' ⟨rfl, rfl⟩
  refine ⟨rfl, rfl, ?_⟩
  conv => whnf
  refine quiet_of (plus_n G a b 0 (Nat.zero_le 1)) rfl ?_
  rintro v h' ⟨rfl, rfl⟩
  refine ⟨rfl, rfl, ?_⟩
  conv => whnf
  refine quiet_of (wide_e G (m := addN a b) (by exact (wv_mod _).symm)) rfl ?_
  rintro v h' ⟨rfl, rfl⟩
  refine ⟨rfl, rfl, ?_⟩
  conv => whnf
  refine ⟨⟨.inl rfl, .inl rfl, .inl rfl, trivial⟩, ?_⟩
  conv => whnf
  refine ad_hole [] [.cells _ 115, .cells _ 115, .deferred none, .cells _ 115] tabOk (by kernel_rfl) [(0, false), (1, false), (3, false), (2, false), (4, false), (5, false), (6, false), (7, false), (9, false), (8, false), (10, false), (11, false), (12, false), (13, false), (14, false)] (by kernel_rfl) ⟨.inl rfl, .inl rfl, .inr rfl, .inl rfl, trivial⟩ ?_
  conv => whnf
  refine quiet_of (low_n G a) rfl ?_
  rintro v h' ⟨rfl, rfl⟩
  refine ⟨rfl, rfl, ?_⟩
  conv => whnf
  refine quiet_of (low_n G b) rfl ?_
  rintro v h' ⟨rfl, rfl⟩
  refine ⟨rfl, rfl, ?_⟩
  conv => whnf
  refine ways (fun h1 => ?_) (fun h1 => ?_) <;> conv => whnf
  · skip
    refine quiet_of (low_n G (addN a b)) rfl ?_
    rintro v h' ⟨rfl, rfl⟩
    refine ⟨rfl, rfl, ?_⟩
    conv => whnf
    refine quiet_of (low_n G a) rfl ?_
    rintro v h' ⟨rfl, rfl⟩
    refine ⟨rfl, rfl, ?_⟩
    conv => whnf
    refine ⟨⟨.inl rfl, .inl rfl, .inr rfl, .inl rfl, trivial⟩, ?_⟩
    conv => whnf
    refine ⟨rfl, fin_turnedK rfl ?_⟩
    conv => whnf
    exact ⟨by unfold addF; rw [h1]; rfl, rfl⟩
  · refine ⟨⟨.inl rfl, .inl rfl, .inr rfl, .inl rfl, trivial⟩, ?_⟩
    conv => whnf
    refine ⟨rfl, fin_turnedK rfl ?_⟩
    conv => whnf
    exact ⟨by unfold addF; rw [h1]; rfl, rfl⟩
theorem Sub_n (G) {a b : Nat} (hb : b < MW) : AC Tryd.prog G 130 [wv a, wv b] [] (fun v h => v = .tuple #[wv (subN a b), .bool (subF a b)] ∧ h = []) := by
  refine ac_of_body tabOk has130 ?_
  unfold BodyOk
  conv => whnf
  refine ad_of tabOk (by kernel_rfl) [(7, false), (0, false), (2, false), (1, false), (3, false), (4, false), (5, false), (6, false), (8, false)] (by kernel_rfl) ?_
  conv => whnf
  refine quiet_of (digits_n G a) rfl ?_
  rintro v h' ⟨rfl, rfl⟩
  refine ⟨rfl, rfl, ?_⟩
  conv => whnf
  refine quiet_of (digits_n G b) rfl ?_
  rintro v h' ⟨rfl, rfl⟩
  refine ⟨rfl, rfl, ?_⟩
  conv => whnf
  refine quiet_of (not_n G hb) rfl ?_
  rintro v h' ⟨rfl, rfl⟩
  refine ⟨rfl, rfl, ?_⟩
  conv => whnf
  refine quiet_of (plus_n G a (MW - 1 - b) 1 (Nat.le_refl 1)) rfl ?_
  rintro v h' ⟨rfl, rfl⟩
  refine ⟨rfl, rfl, ?_⟩
  conv => whnf
  refine quiet_of (wide_e G (m := subN a b) (by rw [show a + (MW - 1 - b) + 1 = a + (MW - b) from by omega]; exact (wv_mod _).symm)) rfl ?_
  rintro v h' ⟨rfl, rfl⟩
  refine ⟨rfl, rfl, ?_⟩
  conv => whnf
  refine ⟨⟨.inl rfl, .inl rfl, .inl rfl, trivial⟩, ?_⟩
  conv => whnf
  refine ad_hole [] [.cells _ 115, .cells _ 115, .deferred none, .cells _ 115] tabOk (by kernel_rfl) [(0, false), (1, false), (3, false), (2, false), (4, false), (5, false), (6, false), (7, false), (9, false), (8, false), (10, false), (11, false), (12, false), (13, false), (14, false)] (by kernel_rfl) ⟨.inl rfl, .inl rfl, .inr rfl, .inl rfl, trivial⟩ ?_
  conv => whnf
  refine quiet_of (low_n G a) rfl ?_
  rintro v h' ⟨rfl, rfl⟩
  refine ⟨rfl, rfl, ?_⟩
  conv => whnf
  refine quiet_of (low_n G b) rfl ?_
  rintro v h' ⟨rfl, rfl⟩
  refine ⟨rfl, rfl, ?_⟩
  conv => whnf
  refine ways (fun h1 => ?_) (fun h1 => ?_) <;> conv => whnf
  · skip
    refine quiet_of (low_n G (subN a b)) rfl ?_
    rintro v h' ⟨rfl, rfl⟩
    refine ⟨rfl, rfl, ?_⟩
    conv => whnf
    refine quiet_of (low_n G a) rfl ?_
    rintro v h' ⟨rfl, rfl⟩
    refine ⟨rfl, rfl, ?_⟩
    conv => whnf
    refine ⟨⟨.inl rfl, .inl rfl, .inr rfl, .inl rfl, trivial⟩, ?_⟩
    conv => whnf
    refine ⟨rfl, fin_turnedK rfl ?_⟩
    conv => whnf
    exact ⟨by unfold subF; rw [h1]; rfl, rfl⟩
  · refine ⟨⟨.inl rfl, .inl rfl, .inr rfl, .inl rfl, trivial⟩, ?_⟩
    conv => whnf
    refine ⟨rfl, fin_turnedK rfl ?_⟩
    conv => whnf
    exact ⟨by unfold subF; rw [h1]; rfl, rfl⟩
end Go.Proofs.YtjpjnjidchdlbaaDoor

/-
  Wide numbers: sub, neg, add, one, least, Int, Cmp, Sign, size (no condition).
-/
namespace Go.Proofs.YtjpjnjidchdlbaaDoor
set_option linter.unusedSimpArgs false
set_option linter.unusedVariables false
open Go
set_option maxRecDepth 100000
set_option maxHeartbeats 4000000
theorem has116 : Has Tryd.prog 116 Tryd.f116 := ⟨Tryd.func116, by kernel_rfl, by kernel_rfl⟩
theorem has118 : Has Tryd.prog 118 Tryd.f118 := ⟨Tryd.func118, by kernel_rfl, by kernel_rfl⟩
theorem has120 : Has Tryd.prog 120 Tryd.f120 := ⟨Tryd.func120, by kernel_rfl, by kernel_rfl⟩
theorem has121 : Has Tryd.prog 121 Tryd.f121 := ⟨Tryd.func121, by kernel_rfl, by kernel_rfl⟩
theorem has128 : Has Tryd.prog 128 Tryd.f128 := ⟨Tryd.func128, by kernel_rfl, by kernel_rfl⟩
theorem has103 : Has Tryd.prog 103 Tryd.f103 := ⟨Tryd.func103, by kernel_rfl, by kernel_rfl⟩
theorem has119 : Has Tryd.prog 119 Tryd.f119 := ⟨Tryd.func119, by kernel_rfl, by kernel_rfl⟩
theorem has117 : Has Tryd.prog 117 Tryd.f117 := ⟨Tryd.func117, by kernel_rfl, by kernel_rfl⟩
theorem has111 : Has Tryd.prog 111 Tryd.f111 := ⟨Tryd.func111, by kernel_rfl, by kernel_rfl⟩
theorem sub_n (G) {a b : Nat} (hb : b < MW) : AC Tryd.prog G 116 [wv a, wv b] [] (fun v h => v = wv (subN a b) ∧ h = []) := by
  refine ac_of_body tabOk has116 ?_
  unfold BodyOk
  conv => whnf
  refine ac_pure (Sub_n G hb) rfl ?_
  rintro v h' ⟨rfl, rfl⟩
  refine ⟨rfl, rfl, ?_⟩
  conv => whnf
  refine ⟨rfl, fin_turnedK rfl ?_⟩
  conv => whnf
  exact ⟨rfl, rfl⟩
theorem neg_n (G) {a : Nat} (ha : a < MW) : AC Tryd.prog G 118 [wv a] [] (fun v h => v = wv (negN a) ∧ h = []) := by
  refine ac_of_body tabOk has118 ?_
  unfold BodyOk
  conv => whnf
  refine ac_pure (Neg_n G ha) rfl ?_
  rintro v h' ⟨rfl, rfl⟩
  refine ⟨rfl, rfl, ?_⟩
  conv => whnf
  refine ⟨rfl, fin_turnedK rfl ?_⟩
  conv => whnf
  exact ⟨rfl, rfl⟩
theorem add_n (G) {a b : Nat} (hb : b < MW) : AC Tryd.prog G 120 [wv a, wv b] [] (fun v h => v = wv (addN a b) ∧ h = []) := by
  refine ac_of_body tabOk has120 ?_
  unfold BodyOk
  conv => whnf
  refine ac_pure (Add_n G hb) rfl ?_
  rintro v h' ⟨rfl, rfl⟩
  refine ⟨rfl, rfl, ?_⟩
  conv => whnf
  refine ⟨rfl, fin_turnedK rfl ?_⟩
  conv => whnf
  exact ⟨rfl, rfl⟩
theorem one_n (G)  : AC Tryd.prog G 121 [] [] (fun v h => v = wv 1 ∧ h = []) := by
  refine ac_of_body tabOk has121 ?_
  unfold BodyOk
  conv => whnf
  refine ac_pure (Of_n G (i := 1) (by omega) (by omega)) rfl ?_
  rintro v h' ⟨rfl, rfl⟩
  refine ⟨rfl, rfl, ?_⟩
  conv => whnf
  refine ⟨rfl, fin_turnedK rfl ?_⟩
  conv => whnf
  exact ⟨rfl, rfl⟩
def leastN : Nat := 57896044618658097711785492504343953926634992332820282019728792003956564819968
theorem least_n (G)  : AC Tryd.prog G 128 [] [] (fun v h => v = wv leastN ∧ h = []) := by
  refine ac_of_body tabOk has128 ?_
  unfold BodyOk
  conv => whnf
  refine ⟨rfl, fin_turnedK rfl ?_⟩
  conv => whnf
  exact ⟨rfl, rfl⟩
theorem wrap_lo (n : Int) : -9223372036854775808 ≤ wrapS .i64 n := by
  rw [wrapS_eq]; simp [IntKind.wrap, IntKind.signed, IntKind.bits]; omega
theorem wrap_hi (n : Int) : wrapS .i64 n < 9223372036854775808 := by
  rw [wrapS_eq]; simp [IntKind.wrap, IntKind.signed, IntKind.bits]; omega
def eqWI (x a : Nat) : Bool := (((wd x 0 : Nat) : Int) == ((wd a 0 : Nat) : Int)) && ((((wd x 1 : Nat) : Int) == ((wd a 1 : Nat) : Int)) && ((((wd x 2 : Nat) : Int) == ((wd a 2 : Nat) : Int)) && ((((wd x 3 : Nat) : Int) == ((wd a 3 : Nat) : Int)) && true)))
def intR (a : Nat) : Int × Bool := match !(eqWI (ofN (wrapS .i64 ((wd a 0 : Nat) : Int))) a) with
  | true => (0, false)
  | false => (wrapS .i64 ((wd a 0 : Nat) : Int), true)
theorem Int_n (G) (a : Nat) : AC Tryd.prog G 103 [wv a] [] (fun v h => v = .tuple #[I64 (intR a).1, .bool (intR a).2] ∧ h = []) := by
  refine ac_of_body tabOk has103 ?_
  unfold BodyOk
  conv => whnf
  refine ad_of tabOk (by kernel_rfl) [(0, false), (2, false), (1, false), (3, false)] (by kernel_rfl) ?_
  conv => whnf
  refine quiet_of (Of_n G (i := wrapS .i64 ((wd a 0 : Nat) : Int)) (wrap_lo _) (wrap_hi _)) rfl ?_
  rintro v h' ⟨rfl, rfl⟩
  refine ⟨rfl, rfl, ?_⟩
  conv => whnf
  refine ways (fun h1 => ?_) (fun h1 => ?_) <;> conv => whnf
  · skip
    refine ⟨rfl, fin_turnedK rfl ?_⟩
    conv => whnf
    exact ⟨by unfold intR; rw [show (!(eqWI (ofN (wrapS .i64 ((wd a 0 : Nat) : Int))) a)) = _ from h1], rfl⟩
  · skip
    refine ⟨rfl, fin_turnedK rfl ?_⟩
    conv => whnf
    exact ⟨by unfold intR; rw [show (!(eqWI (ofN (wrapS .i64 ((wd a 0 : Nat) : Int))) a)) = _ from h1], rfl⟩
def cmpW (a b : Nat) : Int := match !(lowN a == lowN b) with
  | true => (match lowN a with
    | true => -1
    | false => 1)
  | false => (match decide (((wd a 3 : Nat) : Int) < ((wd b 3 : Nat) : Int)) with | true => -1 | false => (match decide (((wd b 3 : Nat) : Int) < ((wd a 3 : Nat) : Int)) with | true => 1 | false => (match decide (((wd a 2 : Nat) : Int) < ((wd b 2 : Nat) : Int)) with | true => -1 | false => (match decide (((wd b 2 : Nat) : Int) < ((wd a 2 : Nat) : Int)) with | true => 1 | false => (match decide (((wd a 1 : Nat) : Int) < ((wd b 1 : Nat) : Int)) with | true => -1 | false => (match decide (((wd b 1 : Nat) : Int) < ((wd a 1 : Nat) : Int)) with | true => 1 | false => (match decide (((wd a 0 : Nat) : Int) < ((wd b 0 : Nat) : Int)) with | true => -1 | false => (match decide (((wd b 0 : Nat) : Int) < ((wd a 0 : Nat) : Int)) with | true => 1 | false => 0))))))))
theorem Cmp_n (G) (a b : Nat) : AC Tryd.prog G 119 [wv a, wv b] [] (fun v h => v = I64 (cmpW a b) ∧ h = []) := by
  refine ac_of_body tabOk has119 ?_
  unfold BodyOk
  conv => whnf
  refine ad_of tabOk (by kernel_rfl) [(0, false), (2, false), (1, false), (3, false), (4, false)] (by kernel_rfl) ?_
  conv => whnf
  refine quiet_of (low_n G a) rfl ?_
  rintro v h' ⟨rfl, rfl⟩
  refine ⟨rfl, rfl, ?_⟩
  conv => whnf
  refine quiet_of (low_n G b) rfl ?_
  rintro v h' ⟨rfl, rfl⟩
  refine ⟨rfl, rfl, ?_⟩
  conv => whnf
  refine ways (fun h1 => ?_) (fun h1 => ?_) <;> conv => whnf
  · skip
    refine ac_pure (low_n G a) rfl ?_
    rintro v h' ⟨rfl, rfl⟩
    refine ⟨rfl, rfl, ?_⟩
    conv => whnf
    refine ways (fun h2 => ?_) (fun h2 => ?_) <;> conv => whnf
    · refine ⟨rfl, fin_turnedK rfl ?_⟩
      conv => whnf
      exact ⟨by unfold cmpW; rw [h1, h2], rfl⟩
      
    · refine ⟨rfl, fin_turnedK rfl ?_⟩
      conv => whnf
      exact ⟨by unfold cmpW; rw [h1, h2], rfl⟩
      
  refine aw_rounds tabOk 5 ?_
  conv => whnf
  refine ad_of tabOk (by kernel_rfl) [(0, false), (1, false), (2, false), (3, false), (4, false), (5, false), (6, false)] (by kernel_rfl) ?_
  conv => whnf
  refine ways (fun x3 => ?_) (fun x3 => ?_) <;> conv => whnf
  · refine ⟨rfl, fin_turnedK rfl ?_⟩
    conv => whnf
    exact ⟨by unfold cmpW; rw [h1, x3], rfl⟩
    
  refine ad_of tabOk (by kernel_rfl) [(0, false), (1, false), (2, false), (3, false), (4, false), (5, false), (6, false)] (by kernel_rfl) ?_
  conv => whnf
  refine ways (fun y3 => ?_) (fun y3 => ?_) <;> conv => whnf
  · refine ⟨rfl, fin_turnedK rfl ?_⟩
    conv => whnf
    exact ⟨by unfold cmpW; rw [h1, x3, y3], rfl⟩
    
  refine ad_of tabOk (by kernel_rfl) [(0, false), (1, false), (2, false), (3, false), (4, false), (5, false), (6, false)] (by kernel_rfl) ?_
  conv => whnf
  refine ways (fun x2 => ?_) (fun x2 => ?_) <;> conv => whnf
  · refine ⟨rfl, fin_turnedK rfl ?_⟩
    conv => whnf
    exact ⟨by unfold cmpW; rw [h1, x3, y3, x2], rfl⟩
    
  refine ad_of tabOk (by kernel_rfl) [(0, false), (1, false), (2, false), (3, false), (4, false), (5, false), (6, false)] (by kernel_rfl) ?_
  conv => whnf
  refine ways (fun y2 => ?_) (fun y2 => ?_) <;> conv => whnf
  · refine ⟨rfl, fin_turnedK rfl ?_⟩
    conv => whnf
    exact ⟨by unfold cmpW; rw [h1, x3, y3, x2, y2], rfl⟩
    
  refine ad_of tabOk (by kernel_rfl) [(0, false), (1, false), (2, false), (3, false), (4, false), (5, false), (6, false)] (by kernel_rfl) ?_
  conv => whnf
  refine ways (fun x1 => ?_) (fun x1 => ?_) <;> conv => whnf
  · refine ⟨rfl, fin_turnedK rfl ?_⟩
    conv => whnf
    exact ⟨by unfold cmpW; rw [h1, x3, y3, x2, y2, x1], rfl⟩
    
  refine ad_of tabOk (by kernel_rfl) [(0, false), (1, false), (2, false), (3, false), (4, false), (5, false), (6, false)] (by kernel_rfl) ?_
  conv => whnf
  refine ways (fun y1 => ?_) (fun y1 => ?_) <;> conv => whnf
  · refine ⟨rfl, fin_turnedK rfl ?_⟩
    conv => whnf
    exact ⟨by unfold cmpW; rw [h1, x3, y3, x2, y2, x1, y1], rfl⟩
    
  refine ad_of tabOk (by kernel_rfl) [(0, false), (1, false), (2, false), (3, false), (4, false), (5, false), (6, false)] (by kernel_rfl) ?_
  conv => whnf
  refine ways (fun x0 => ?_) (fun x0 => ?_) <;> conv => whnf
  · refine ⟨rfl, fin_turnedK rfl ?_⟩
    conv => whnf
    exact ⟨by unfold cmpW; rw [h1, x3, y3, x2, y2, x1, y1, x0], rfl⟩
    
  refine ad_of tabOk (by kernel_rfl) [(0, false), (1, false), (2, false), (3, false), (4, false), (5, false), (6, false)] (by kernel_rfl) ?_
  conv => whnf
  refine ways (fun y0 => ?_) (fun y0 => ?_) <;> conv => whnf
  · refine ⟨rfl, fin_turnedK rfl ?_⟩
    conv => whnf
    exact ⟨by unfold cmpW; rw [h1, x3, y3, x2, y2, x1, y1, x0, y0], rfl⟩
    
  refine ⟨rfl, fin_turnedK rfl ?_⟩
  conv => whnf
  exact ⟨by unfold cmpW; rw [h1, x3, y3, x2, y2, x1, y1, x0, y0], rfl⟩
theorem Sign_n (G) (a : Nat) : AC Tryd.prog G 117 [wv a] [] (fun v h => v = I64 (cmpW a 0) ∧ h = []) := by
  refine ac_of_body tabOk has117 ?_
  unfold BodyOk
  conv => whnf
  refine ac_pure (Cmp_n G a 0) rfl ?_
  rintro v h' ⟨rfl, rfl⟩
  refine ⟨rfl, rfl, ?_⟩
  conv => whnf
  refine ⟨rfl, fin_turnedK rfl ?_⟩
  conv => whnf
  exact ⟨rfl, rfl⟩
def absN (a : Nat) : Nat := match lowN a with
  | true => negN a
  | false => a
theorem size_n (G) {a : Nat} (ha : a < MW) : AC Tryd.prog G 111 [wv a] [] (fun v h => v = dv (absN a) ∧ h = []) := by
  refine ac_of_body tabOk has111 ?_
  unfold BodyOk
  conv => whnf
  refine ac_pure (low_n G a) rfl ?_
  rintro v h' ⟨rfl, rfl⟩
  refine ⟨rfl, rfl, ?_⟩
  conv => whnf
  refine ways (fun h1 => ?_) (fun h1 => ?_) <;> conv => whnf
  · skip
    refine ac_pure (Neg_n G ha) rfl ?_
    rintro v h' ⟨rfl, rfl⟩
    refine ⟨rfl, rfl, ?_⟩
    conv => whnf
    refine ac_pure (digits_n G (negN a)) rfl ?_
    rintro v h' ⟨rfl, rfl⟩
    refine ⟨rfl, rfl, ?_⟩
    conv => whnf
    refine ⟨rfl, fin_turnedK rfl ?_⟩
    conv => whnf
    exact ⟨by unfold absN; rw [h1]; rfl, rfl⟩
  refine ac_pure (digits_n G a) rfl ?_
  rintro v h' ⟨rfl, rfl⟩
  refine ⟨rfl, rfl, ?_⟩
  conv => whnf
  refine ⟨rfl, fin_turnedK rfl ?_⟩
  conv => whnf
  exact ⟨by unfold absN; rw [h1]; rfl, rfl⟩
end Go.Proofs.YtjpjnjidchdlbaaDoor

/-
  Wide numbers: times (no condition).
-/
namespace Go.Proofs.YtjpjnjidchdlbaaDoor
set_option linter.unusedSimpArgs false
set_option linter.unusedVariables false
open Go
set_option maxRecDepth 100000
set_option maxHeartbeats 4000000
theorem has110 : Has Tryd.prog 110 Tryd.f110 := ⟨Tryd.func110, by kernel_rfl, by kernel_rfl⟩
/-- one step of the inner round: what lies there, the digit, the other's, what was carried -/
def tmW (o x y c : Int) : Int := wrapS .u64 (wrapS .u64 (o + wrapS .u64 (x * y)) + c)
def tmD (o x y c : Int) : Int := (tmW o x y c).tmod 4294967296
def tmC (o x y c : Int) : Int := wrapS .u64 ((tmW o x y c).tdiv 4294967296)
/-- the inner round: what lies there from the place on, by the digits of the other -/
def tmR (x : Int) : List Int → List Int → Int → List Int
  | o :: os, y :: ys, c => tmD o x y c :: tmR x os ys (tmC o x y c)
  | os, [], c => c :: os.drop 1
  | [], _ :: _, _ => []
def tmO (x : Int) (i : Nat) (ys o : List Int) : List Int := match x == 0 with
  | true => o
  | false => o.take i ++ tmR x (o.drop i) ys 0
def tmL (ys : List Int) : Nat → List Int → List Int → List Int
  | _, [], o => o
  | i, x :: xs, o => tmL ys (i + 1) xs (tmO x i ys o)
def timesL (xs ys : List Int) : List Int := tmL ys 0 xs (List.replicate 16 0)
/-- what lies after i rounds -/
def tmI (xs ys : List Int) : Nat → List Int
  | 0 => List.replicate 16 0
  | i + 1 => tmO (xs.getD i 0) i ys (tmI xs ys i)
theorem list16 {l : List Int} (h : l.length = 16) : ∃ o0 o1 o2 o3 o4 o5 o6 o7 o8 o9 o10 o11 o12 o13 o14 o15 : Int, l = [o0, o1, o2, o3, o4, o5, o6, o7, o8, o9, o10, o11, o12, o13, o14, o15] := by
  match l, h with
  | [o0, o1, o2, o3, o4, o5, o6, o7, o8, o9, o10, o11, o12, o13, o14, o15], _ => exact ⟨_, _, _, _, _, _, _, _, _, _, _, _, _, _, _, _, rfl⟩
theorem times_n (G) {x0 x1 x2 x3 x4 x5 x6 x7 y0 y1 y2 y3 y4 y5 y6 y7 : Int} : AC Tryd.prog G 110 [.agg #[U64 x0, U64 x1, U64 x2, U64 x3, U64 x4, U64 x5, U64 x6, U64 x7], .agg #[U64 y0, U64 y1, U64 y2, U64 y3, U64 y4, U64 y5, U64 y6, U64 y7]] [] (fun v h => (∃ o0 o1 o2 o3 o4 o5 o6 o7 o8 o9 o10 o11 o12 o13 o14 o15 : Int, v = .agg #[U64 o0, U64 o1, U64 o2, U64 o3, U64 o4, U64 o5, U64 o6, U64 o7, U64 o8, U64 o9, U64 o10, U64 o11, U64 o12, U64 o13, U64 o14, U64 o15] ∧ tmI [x0, x1, x2, x3, x4, x5, x6, x7] [y0, y1, y2, y3, y4, y5, y6, y7] 8 = [o0, o1, o2, o3, o4, o5, o6, o7, o8, o9, o10, o11, o12, o13, o14, o15]) ∧ h = []) := by
  refine ac_of_body tabOk has110 ?_
  unfold BodyOk
  conv => whnf
  refine aw_inv tabOk [[false, false, true, true, true, true, true, false, false, false, false, false, false, false, false, false], [false, false, false, false, false, false, false, false, false, false, false, false, false, false, false, false], [false, false, false, false, false, false, false, false, false, false, false, false, false, false, false, false], [false, false]] (fun m s' => ∃ (i : Nat) (o0 o1 o2 o3 o4 o5 o6 o7 o8 o9 o10 o11 o12 o13 o14 o15 : Int), m = 8 - i ∧ i ≤ 8 ∧ tmI [x0, x1, x2, x3, x4, x5, x6, x7] [y0, y1, y2, y3, y4, y5, y6, y7] i = [o0, o1, o2, o3, o4, o5, o6, o7, o8, o9, o10, o11, o12, o13, o14, o15] ∧
    s' = ⟨[[.chan none, .chan none, ptr 0 0, ptr 1 0, ptr 2 0, ptr 3 0, I64 (i : Int), .chan none, .chan none, .chan none, .chan none, .chan none, .chan none, .chan none, .chan none, .chan none],
      [.chan none, .chan none, .chan none, .chan none, .chan none, .chan none, .chan none, .chan none, .chan none, .chan none, .chan none, .chan none, .chan none, .chan none, .chan none, .chan none],
      [.chan none, .chan none, .chan none, .chan none, .chan none, .chan none, .chan none, .chan none, .chan none, .chan none, .chan none, .chan none, .chan none, .chan none, .chan none, .chan none],
      [.chan none, .chan none]],
      [.cells #[U64 x0, U64 x1, U64 x2, U64 x3, U64 x4, U64 x5, U64 x6, U64 x7] 129, .cells #[U64 y0, U64 y1, U64 y2, U64 y3, U64 y4, U64 y5, U64 y6, U64 y7] 129, .cells #[U64 0, U64 0, U64 0, U64 0, U64 0, U64 0, U64 0, U64 0, U64 0, U64 0, U64 0, U64 0, U64 0, U64 0, U64 0, U64 0] 127, .cells #[U64 o0, U64 o1, U64 o2, U64 o3, U64 o4, U64 o5, U64 o6, U64 o7, U64 o8, U64 o9, U64 o10, U64 o11, U64 o12, U64 o13, U64 o14, U64 o15] 127], []⟩) 8 ?_ ⟨0, 0, 0, 0, 0, 0, 0, 0, 0, 0, 0, 0, 0, 0, 0, 0, 0, rfl, Nat.zero_le _, rfl, rfl⟩
  rintro m s' ⟨i, o0, o1, o2, o3, o4, o5, o6, o7, o8, o9, o10, o11, o12, o13, o14, o15, rfl, hi, ht, rfl⟩
  match i, hi with
  | 0, _ =>
    · conv => whnf
      refine ways (fun h1 => ?_) (fun h1 => ?_) <;> conv => whnf
      · refine ⟨7 - 0, by omega, 1, o0, o1, o2, o3, o4, o5, o6, o7, o8, o9, o10, o11, o12, o13, o14, o15, rfl, by omega, ?_, rfl⟩
        show tmO x0 0 [y0, y1, y2, y3, y4, y5, y6, y7] (tmI [x0, x1, x2, x3, x4, x5, x6, x7] [y0, y1, y2, y3, y4, y5, y6, y7] 0) = _
        unfold tmO
        rw [show (x0 == 0) = true from h1]
        exact ht
      · refine aw_rounds tabOk 9 ?_
        conv => whnf
        refine ad_of tabOk (by kernel_rfl) [(0, false), (1, false), (2, false), (3, false), (4, false), (5, false), (6, false), (7, false), (8, false), (9, false), (10, false), (11, false), (12, false), (13, false), (14, false), (15, false)] (by kernel_rfl) ?_
        conv => whnf
        refine ad_of tabOk (by kernel_rfl) [(0, false), (1, false), (2, false), (3, false), (4, false), (5, false), (6, false), (7, false), (8, false), (9, false), (10, false), (11, false), (12, false), (13, false), (14, false), (15, false)] (by kernel_rfl) ?_
        conv => whnf
        refine ad_of tabOk (by kernel_rfl) [(0, false), (1, false), (2, false), (3, false), (4, false), (5, false), (6, false), (7, false), (8, false), (9, false), (10, false), (11, false), (12, false), (13, false), (14, false), (15, false)] (by kernel_rfl) ?_
        conv => whnf
        refine ad_of tabOk (by kernel_rfl) [(0, false), (1, false), (2, false), (3, false), (4, false), (5, false), (6, false), (7, false), (8, false), (9, false), (10, false), (11, false), (12, false), (13, false), (14, false), (15, false)] (by kernel_rfl) ?_
        conv => whnf
        refine ad_of tabOk (by kernel_rfl) [(0, false), (1, false), (2, false), (3, false), (4, false), (5, false), (6, false), (7, false), (8, false), (9, false), (10, false), (11, false), (12, false), (13, false), (14, false), (15, false)] (by kernel_rfl) ?_
        conv => whnf
        refine ad_of tabOk (by kernel_rfl) [(0, false), (1, false), (2, false), (3, false), (4, false), (5, false), (6, false), (7, false), (8, false), (9, false), (10, false), (11, false), (12, false), (13, false), (14, false), (15, false)] (by kernel_rfl) ?_
        conv => whnf
        refine ad_of tabOk (by kernel_rfl) [(0, false), (1, false), (2, false), (3, false), (4, false), (5, false), (6, false), (7, false), (8, false), (9, false), (10, false), (11, false), (12, false), (13, false), (14, false), (15, false)] (by kernel_rfl) ?_
        conv => whnf
        refine ad_of tabOk (by kernel_rfl) [(0, false), (1, false), (2, false), (3, false), (4, false), (5, false), (6, false), (7, false), (8, false), (9, false), (10, false), (11, false), (12, false), (13, false), (14, false), (15, false)] (by kernel_rfl) ?_
        conv => whnf
        refine ⟨7 - 0, by omega, 1, _, _, _, _, _, _, _, _, _, _, _, _, _, _, _, _, rfl, by omega, ?_, rfl⟩
        show tmO x0 0 [y0, y1, y2, y3, y4, y5, y6, y7] (tmI [x0, x1, x2, x3, x4, x5, x6, x7] [y0, y1, y2, y3, y4, y5, y6, y7] 0) = _
        unfold tmO
        rw [show (x0 == 0) = false from h1, ht]
        rfl
  | 1, _ =>
    · conv => whnf
      refine ways (fun h1 => ?_) (fun h1 => ?_) <;> conv => whnf
      · refine ⟨7 - 1, by omega, 2, o0, o1, o2, o3, o4, o5, o6, o7, o8, o9, o10, o11, o12, o13, o14, o15, rfl, by omega, ?_, rfl⟩
        show tmO x1 1 [y0, y1, y2, y3, y4, y5, y6, y7] (tmI [x0, x1, x2, x3, x4, x5, x6, x7] [y0, y1, y2, y3, y4, y5, y6, y7] 1) = _
        unfold tmO
        rw [show (x1 == 0) = true from h1]
        exact ht
      · refine aw_rounds tabOk 9 ?_
        conv => whnf
        refine ad_of tabOk (by kernel_rfl) [(0, false), (1, false), (2, false), (3, false), (4, false), (5, false), (6, false), (7, false), (8, false), (9, false), (10, false), (11, false), (12, false), (13, false), (14, false), (15, false)] (by kernel_rfl) ?_
        conv => whnf
        refine ad_of tabOk (by kernel_rfl) [(0, false), (1, false), (2, false), (3, false), (4, false), (5, false), (6, false), (7, false), (8, false), (9, false), (10, false), (11, false), (12, false), (13, false), (14, false), (15, false)] (by kernel_rfl) ?_
        conv => whnf
        refine ad_of tabOk (by kernel_rfl) [(0, false), (1, false), (2, false), (3, false), (4, false), (5, false), (6, false), (7, false), (8, false), (9, false), (10, false), (11, false), (12, false), (13, false), (14, false), (15, false)] (by kernel_rfl) ?_
        conv => whnf
        refine ad_of tabOk (by kernel_rfl) [(0, false), (1, false), (2, false), (3, false), (4, false), (5, false), (6, false), (7, false), (8, false), (9, false), (10, false), (11, false), (12, false), (13, false), (14, false), (15, false)] (by kernel_rfl) ?_
        conv => whnf
        refine ad_of tabOk (by kernel_rfl) [(0, false), (1, false), (2, false), (3, false), (4, false), (5, false), (6, false), (7, false), (8, false), (9, false), (10, false), (11, false), (12, false), (13, false), (14, false), (15, false)] (by kernel_rfl) ?_
        conv => whnf
        refine ad_of tabOk (by kernel_rfl) [(0, false), (1, false), (2, false), (3, false), (4, false), (5, false), (6, false), (7, false), (8, false), (9, false), (10, false), (11, false), (12, false), (13, false), (14, false), (15, false)] (by kernel_rfl) ?_
        conv => whnf
        refine ad_of tabOk (by kernel_rfl) [(0, false), (1, false), (2, false), (3, false), (4, false), (5, false), (6, false), (7, false), (8, false), (9, false), (10, false), (11, false), (12, false), (13, false), (14, false), (15, false)] (by kernel_rfl) ?_
        conv => whnf
        refine ad_of tabOk (by kernel_rfl) [(0, false), (1, false), (2, false), (3, false), (4, false), (5, false), (6, false), (7, false), (8, false), (9, false), (10, false), (11, false), (12, false), (13, false), (14, false), (15, false)] (by kernel_rfl) ?_
        conv => whnf
        refine ⟨7 - 1, by omega, 2, _, _, _, _, _, _, _, _, _, _, _, _, _, _, _, _, rfl, by omega, ?_, rfl⟩
        show tmO x1 1 [y0, y1, y2, y3, y4, y5, y6, y7] (tmI [x0, x1, x2, x3, x4, x5, x6, x7] [y0, y1, y2, y3, y4, y5, y6, y7] 1) = _
        unfold tmO
        rw [show (x1 == 0) = false from h1, ht]
        rfl
  | 2, _ =>
    · conv => whnf
      refine ways (fun h1 => ?_) (fun h1 => ?_) <;> conv => whnf
      · refine ⟨7 - 2, by omega, 3, o0, o1, o2, o3, o4, o5, o6, o7, o8, o9, o10, o11, o12, o13, o14, o15, rfl, by omega, ?_, rfl⟩
        show tmO x2 2 [y0, y1, y2, y3, y4, y5, y6, y7] (tmI [x0, x1, x2, x3, x4, x5, x6, x7] [y0, y1, y2, y3, y4, y5, y6, y7] 2) = _
        unfold tmO
        rw [show (x2 == 0) = true from h1]
        exact ht
      · refine aw_rounds tabOk 9 ?_
        conv => whnf
        refine ad_of tabOk (by kernel_rfl) [(0, false), (1, false), (2, false), (3, false), (4, false), (5, false), (6, false), (7, false), (8, false), (9, false), (10, false), (11, false), (12, false), (13, false), (14, false), (15, false)] (by kernel_rfl) ?_
        conv => whnf
        refine ad_of tabOk (by kernel_rfl) [(0, false), (1, false), (2, false), (3, false), (4, false), (5, false), (6, false), (7, false), (8, false), (9, false), (10, false), (11, false), (12, false), (13, false), (14, false), (15, false)] (by kernel_rfl) ?_
        conv => whnf
        refine ad_of tabOk (by kernel_rfl) [(0, false), (1, false), (2, false), (3, false), (4, false), (5, false), (6, false), (7, false), (8, false), (9, false), (10, false), (11, false), (12, false), (13, false), (14, false), (15, false)] (by kernel_rfl) ?_
        conv => whnf
        refine ad_of tabOk (by kernel_rfl) [(0, false), (1, false), (2, false), (3, false), (4, false), (5, false), (6, false), (7, false), (8, false), (9, false), (10, false), (11, false), (12, false), (13, false), (14, false), (15, false)] (by kernel_rfl) ?_
        conv => whnf
        refine ad_of tabOk (by kernel_rfl) [(0, false), (1, false), (2, false), (3, false), (4, false), (5, false), (6, false), (7, false), (8, false), (9, false), (10, false), (11, false), (12, false), (13, false), (14, false), (15, false)] (by kernel_rfl) ?_
        conv => whnf
        refine ad_of tabOk (by kernel_rfl) [(0, false), (1, false), (2, false), (3, false), (4, false), (5, false), (6, false), (7, false), (8, false), (9, false), (10, false), (11, false), (12, false), (13, false), (14, false), (15, false)] (by kernel_rfl) ?_
        conv => whnf
        refine ad_of tabOk (by kernel_rfl) [(0, false), (1, false), (2, false), (3, false), (4, false), (5, false), (6, false), (7, false), (8, false), (9, false), (10, false), (11, false), (12, false), (13, false), (14, false), (15, false)] (by kernel_rfl) ?_
        conv => whnf
        refine ad_of tabOk (by kernel_rfl) [(0, false), (1, false), (2, false), (3, false), (4, false), (5, false), (6, false), (7, false), (8, false), (9, false), (10, false), (11, false), (12, false), (13, false), (14, false), (15, false)] (by kernel_rfl) ?_
        conv => whnf
        refine ⟨7 - 2, by omega, 3, _, _, _, _, _, _, _, _, _, _, _, _, _, _, _, _, rfl, by omega, ?_, rfl⟩
        show tmO x2 2 [y0, y1, y2, y3, y4, y5, y6, y7] (tmI [x0, x1, x2, x3, x4, x5, x6, x7] [y0, y1, y2, y3, y4, y5, y6, y7] 2) = _
        unfold tmO
        rw [show (x2 == 0) = false from h1, ht]
        rfl
  | 3, _ =>
    · conv => whnf
      refine ways (fun h1 => ?_) (fun h1 => ?_) <;> conv => whnf
      · refine ⟨7 - 3, by omega, 4, o0, o1, o2, o3, o4, o5, o6, o7, o8, o9, o10, o11, o12, o13, o14, o15, rfl, by omega, ?_, rfl⟩
        show tmO x3 3 [y0, y1, y2, y3, y4, y5, y6, y7] (tmI [x0, x1, x2, x3, x4, x5, x6, x7] [y0, y1, y2, y3, y4, y5, y6, y7] 3) = _
        unfold tmO
        rw [show (x3 == 0) = true from h1]
        exact ht
      · refine aw_rounds tabOk 9 ?_
        conv => whnf
        refine ad_of tabOk (by kernel_rfl) [(0, false), (1, false), (2, false), (3, false), (4, false), (5, false), (6, false), (7, false), (8, false), (9, false), (10, false), (11, false), (12, false), (13, false), (14, false), (15, false)] (by kernel_rfl) ?_
        conv => whnf
        refine ad_of tabOk (by kernel_rfl) [(0, false), (1, false), (2, false), (3, false), (4, false), (5, false), (6, false), (7, false), (8, false), (9, false), (10, false), (11, false), (12, false), (13, false), (14, false), (15, false)] (by kernel_rfl) ?_
        conv => whnf
        refine ad_of tabOk (by kernel_rfl) [(0, false), (1, false), (2, false), (3, false), (4, false), (5, false), (6, false), (7, false), (8, false), (9, false), (10, false), (11, false), (12, false), (13, false), (14, false), (15, false)] (by kernel_rfl) ?_
        conv => whnf
        refine ad_of tabOk (by kernel_rfl) [(0, false), (1, false), (2, false), (3, false), (4, false), (5, false), (6, false), (7, false), (8, false), (9, false), (10, false), (11, false), (12, false), (13, false), (14, false), (15, false)] (by kernel_rfl) ?_
        conv => whnf
        refine ad_of tabOk (by kernel_rfl) [(0, false), (1, false), (2, false), (3, false), (4, false), (5, false), (6, false), (7, false), (8, false), (9, false), (10, false), (11, false), (12, false), (13, false), (14, false), (15, false)] (by kernel_rfl) ?_
        conv => whnf
        refine ad_of tabOk (by kernel_rfl) [(0, false), (1, false), (2, false), (3, false), (4, false), (5, false), (6, false), (7, false), (8, false), (9, false), (10, false), (11, false), (12, false), (13, false), (14, false), (15, false)] (by kernel_rfl) ?_
        conv => whnf
        refine ad_of tabOk (by kernel_rfl) [(0, false), (1, false), (2, false), (3, false), (4, false), (5, false), (6, false), (7, false), (8, false), (9, false), (10, false), (11, false), (12, false), (13, false), (14, false), (15, false)] (by kernel_rfl) ?_
        conv => whnf
        refine ad_of tabOk (by kernel_rfl) [(0, false), (1, false), (2, false), (3, false), (4, false), (5, false), (6, false), (7, false), (8, false), (9, false), (10, false), (11, false), (12, false), (13, false), (14, false), (15, false)] (by kernel_rfl) ?_
        conv => whnf
        refine ⟨7 - 3, by omega, 4, _, _, _, _, _, _, _, _, _, _, _, _, _, _, _, _, rfl, by omega, ?_, rfl⟩
        show tmO x3 3 [y0, y1, y2, y3, y4, y5, y6, y7] (tmI [x0, x1, x2, x3, x4, x5, x6, x7] [y0, y1, y2, y3, y4, y5, y6, y7] 3) = _
        unfold tmO
        rw [show (x3 == 0) = false from h1, ht]
        rfl
  | 4, _ =>
    · conv => whnf
      refine ways (fun h1 => ?_) (fun h1 => ?_) <;> conv => whnf
      · refine ⟨7 - 4, by omega, 5, o0, o1, o2, o3, o4, o5, o6, o7, o8, o9, o10, o11, o12, o13, o14, o15, rfl, by omega, ?_, rfl⟩
        show tmO x4 4 [y0, y1, y2, y3, y4, y5, y6, y7] (tmI [x0, x1, x2, x3, x4, x5, x6, x7] [y0, y1, y2, y3, y4, y5, y6, y7] 4) = _
        unfold tmO
        rw [show (x4 == 0) = true from h1]
        exact ht
      · refine aw_rounds tabOk 9 ?_
        conv => whnf
        refine ad_of tabOk (by kernel_rfl) [(0, false), (1, false), (2, false), (3, false), (4, false), (5, false), (6, false), (7, false), (8, false), (9, false), (10, false), (11, false), (12, false), (13, false), (14, false), (15, false)] (by kernel_rfl) ?_
        conv => whnf
        refine ad_of tabOk (by kernel_rfl) [(0, false), (1, false), (2, false), (3, false), (4, false), (5, false), (6, false), (7, false), (8, false), (9, false), (10, false), (11, false), (12, false), (13, false), (14, false), (15, false)] (by kernel_rfl) ?_
        conv => whnf
        refine ad_of tabOk (by kernel_rfl) [(0, false), (1, false), (2, false), (3, false), (4, false), (5, false), (6, false), (7, false), (8, false), (9, false), (10, false), (11, false), (12, false), (13, false), (14, false), (15, false)] (by kernel_rfl) ?_
        conv => whnf
        refine ad_of tabOk (by kernel_rfl) [(0, false), (1, false), (2, false), (3, false), (4, false), (5, false), (6, false), (7, false), (8, false), (9, false), (10, false), (11, false), (12, false), (13, false), (14, false), (15, false)] (by kernel_rfl) ?_
        conv => whnf
        refine ad_of tabOk (by kernel_rfl) [(0, false), (1, false), (2, false), (3, false), (4, false), (5, false), (6, false), (7, false), (8, false), (9, false), (10, false), (11, false), (12, false), (13, false), (14, false), (15, false)] (by kernel_rfl) ?_
        conv => whnf
        refine ad_of tabOk (by kernel_rfl) [(0, false), (1, false), (2, false), (3, false), (4, false), (5, false), (6, false), (7, false), (8, false), (9, false), (10, false), (11, false), (12, false), (13, false), (14, false), (15, false)] (by kernel_rfl) ?_
        conv => whnf
        refine ad_of tabOk (by kernel_rfl) [(0, false), (1, false), (2, false), (3, false), (4, false), (5, false), (6, false), (7, false), (8, false), (9, false), (10, false), (11, false), (12, false), (13, false), (14, false), (15, false)] (by kernel_rfl) ?_
        conv => whnf
        refine ad_of tabOk (by kernel_rfl) [(0, false), (1, false), (2, false), (3, false), (4, false), (5, false), (6, false), (7, false), (8, false), (9, false), (10, false), (11, false), (12, false), (13, false), (14, false), (15, false)] (by kernel_rfl) ?_
        conv => whnf
        refine ⟨7 - 4, by omega, 5, _, _, _, _, _, _, _, _, _, _, _, _, _, _, _, _, rfl, by omega, ?_, rfl⟩
        show tmO x4 4 [y0, y1, y2, y3, y4, y5, y6, y7] (tmI [x0, x1, x2, x3, x4, x5, x6, x7] [y0, y1, y2, y3, y4, y5, y6, y7] 4) = _
        unfold tmO
        rw [show (x4 == 0) = false from h1, ht]
        rfl
  | 5, _ =>
    · conv => whnf
      refine ways (fun h1 => ?_) (fun h1 => ?_) <;> conv => whnf
      · refine ⟨7 - 5, by omega, 6, o0, o1, o2, o3, o4, o5, o6, o7, o8, o9, o10, o11, o12, o13, o14, o15, rfl, by omega, ?_, rfl⟩
        show tmO x5 5 [y0, y1, y2, y3, y4, y5, y6, y7] (tmI [x0, x1, x2, x3, x4, x5, x6, x7] [y0, y1, y2, y3, y4, y5, y6, y7] 5) = _
        unfold tmO
        rw [show (x5 == 0) = true from h1]
        exact ht
      · refine aw_rounds tabOk 9 ?_
        conv => whnf
        refine ad_of tabOk (by kernel_rfl) [(0, false), (1, false), (2, false), (3, false), (4, false), (5, false), (6, false), (7, false), (8, false), (9, false), (10, false), (11, false), (12, false), (13, false), (14, false), (15, false)] (by kernel_rfl) ?_
        conv => whnf
        refine ad_of tabOk (by kernel_rfl) [(0, false), (1, false), (2, false), (3, false), (4, false), (5, false), (6, false), (7, false), (8, false), (9, false), (10, false), (11, false), (12, false), (13, false), (14, false), (15, false)] (by kernel_rfl) ?_
        conv => whnf
        refine ad_of tabOk (by kernel_rfl) [(0, false), (1, false), (2, false), (3, false), (4, false), (5, false), (6, false), (7, false), (8, false), (9, false), (10, false), (11, false), (12, false), (13, false), (14, false), (15, false)] (by kernel_rfl) ?_
        conv => whnf
        refine ad_of tabOk (by kernel_rfl) [(0, false), (1, false), (2, false), (3, false), (4, false), (5, false), (6, false), (7, false), (8, false), (9, false), (10, false), (11, false), (12, false), (13, false), (14, false), (15, false)] (by kernel_rfl) ?_
        conv => whnf
        refine ad_of tabOk (by kernel_rfl) [(0, false), (1, false), (2, false), (3, false), (4, false), (5, false), (6, false), (7, false), (8, false), (9, false), (10, false), (11, false), (12, false), (13, false), (14, false), (15, false)] (by kernel_rfl) ?_
        conv => whnf
        refine ad_of tabOk (by kernel_rfl) [(0, false), (1, false), (2, false), (3, false), (4, false), (5, false), (6, false), (7, false), (8, false), (9, false), (10, false), (11, false), (12, false), (13, false), (14, false), (15, false)] (by kernel_rfl) ?_
        conv => whnf
        refine ad_of tabOk (by kernel_rfl) [(0, false), (1, false), (2, false), (3, false), (4, false), (5, false), (6, false), (7, false), (8, false), (9, false), (10, false), (11, false), (12, false), (13, false), (14, false), (15, false)] (by kernel_rfl) ?_
        conv => whnf
        refine ad_of tabOk (by kernel_rfl) [(0, false), (1, false), (2, false), (3, false), (4, false), (5, false), (6, false), (7, false), (8, false), (9, false), (10, false), (11, false), (12, false), (13, false), (14, false), (15, false)] (by kernel_rfl) ?_
        conv => whnf
        refine ⟨7 - 5, by omega, 6, _, _, _, _, _, _, _, _, _, _, _, _, _, _, _, _, rfl, by omega, ?_, rfl⟩
        show tmO x5 5 [y0, y1, y2, y3, y4, y5, y6, y7] (tmI [x0, x1, x2, x3, x4, x5, x6, x7] [y0, y1, y2, y3, y4, y5, y6, y7] 5) = _
        unfold tmO
        rw [show (x5 == 0) = false from h1, ht]
        rfl
  | 6, _ =>
    · conv => whnf
      refine ways (fun h1 => ?_) (fun h1 => ?_) <;> conv => whnf
      · refine ⟨7 - 6, by omega, 7, o0, o1, o2, o3, o4, o5, o6, o7, o8, o9, o10, o11, o12, o13, o14, o15, rfl, by omega, ?_, rfl⟩
        show tmO x6 6 [y0, y1, y2, y3, y4, y5, y6, y7] (tmI [x0, x1, x2, x3, x4, x5, x6, x7] [y0, y1, y2, y3, y4, y5, y6, y7] 6) = _
        unfold tmO
        rw [show (x6 == 0) = true from h1]
        exact ht
      · refine aw_rounds tabOk 9 ?_
        conv => whnf
        refine ad_of tabOk (by kernel_rfl) [(0, false), (1, false), (2, false), (3, false), (4, false), (5, false), (6, false), (7, false), (8, false), (9, false), (10, false), (11, false), (12, false), (13, false), (14, false), (15, false)] (by kernel_rfl) ?_
        conv => whnf
        refine ad_of tabOk (by kernel_rfl) [(0, false), (1, false), (2, false), (3, false), (4, false), (5, false), (6, false), (7, false), (8, false), (9, false), (10, false), (11, false), (12, false), (13, false), (14, false), (15, false)] (by kernel_rfl) ?_
        conv => whnf
        refine ad_of tabOk (by kernel_rfl) [(0, false), (1, false), (2, false), (3, false), (4, false), (5, false), (6, false), (7, false), (8, false), (9, false), (10, false), (11, false), (12, false), (13, false), (14, false), (15, false)] (by kernel_rfl) ?_
        conv => whnf
        refine ad_of tabOk (by kernel_rfl) [(0, false), (1, false), (2, false), (3, false), (4, false), (5, false), (6, false), (7, false), (8, false), (9, false), (10, false), (11, false), (12, false), (13, false), (14, false), (15, false)] (by kernel_rfl) ?_
        conv => whnf
        refine ad_of tabOk (by kernel_rfl) [(0, false), (1, false), (2, false), (3, false), (4, false), (5, false), (6, false), (7, false), (8, false), (9, false), (10, false), (11, false), (12, false), (13, false), (14, false), (15, false)] (by kernel_rfl) ?_
        conv => whnf
        refine ad_of tabOk (by kernel_rfl) [(0, false), (1, false), (2, false), (3, false), (4, false), (5, false), (6, false), (7, false), (8, false), (9, false), (10, false), (11, false), (12, false), (13, false), (14, false), (15, false)] (by kernel_rfl) ?_
        conv => whnf
        refine ad_of tabOk (by kernel_rfl) [(0, false), (1, false), (2, false), (3, false), (4, false), (5, false), (6, false), (7, false), (8, false), (9, false), (10, false), (11, false), (12, false), (13, false), (14, false), (15, false)] (by kernel_rfl) ?_
        conv => whnf
        refine ad_of tabOk (by kernel_rfl) [(0, false), (1, false), (2, false), (3, false), (4, false), (5, false), (6, false), (7, false), (8, false), (9, false), (10, false), (11, false), (12, false), (13, false), (14, false), (15, false)] (by kernel_rfl) ?_
        conv => whnf
        refine ⟨7 - 6, by omega, 7, _, _, _, _, _, _, _, _, _, _, _, _, _, _, _, _, rfl, by omega, ?_, rfl⟩
        show tmO x6 6 [y0, y1, y2, y3, y4, y5, y6, y7] (tmI [x0, x1, x2, x3, x4, x5, x6, x7] [y0, y1, y2, y3, y4, y5, y6, y7] 6) = _
        unfold tmO
        rw [show (x6 == 0) = false from h1, ht]
        rfl
  | 7, _ =>
    · conv => whnf
      refine ways (fun h1 => ?_) (fun h1 => ?_) <;> conv => whnf
      · refine ⟨7 - 7, by omega, 8, o0, o1, o2, o3, o4, o5, o6, o7, o8, o9, o10, o11, o12, o13, o14, o15, rfl, by omega, ?_, rfl⟩
        show tmO x7 7 [y0, y1, y2, y3, y4, y5, y6, y7] (tmI [x0, x1, x2, x3, x4, x5, x6, x7] [y0, y1, y2, y3, y4, y5, y6, y7] 7) = _
        unfold tmO
        rw [show (x7 == 0) = true from h1]
        exact ht
      · refine aw_rounds tabOk 9 ?_
        conv => whnf
        refine ad_of tabOk (by kernel_rfl) [(0, false), (1, false), (2, false), (3, false), (4, false), (5, false), (6, false), (7, false), (8, false), (9, false), (10, false), (11, false), (12, false), (13, false), (14, false), (15, false)] (by kernel_rfl) ?_
        conv => whnf
        refine ad_of tabOk (by kernel_rfl) [(0, false), (1, false), (2, false), (3, false), (4, false), (5, false), (6, false), (7, false), (8, false), (9, false), (10, false), (11, false), (12, false), (13, false), (14, false), (15, false)] (by kernel_rfl) ?_
        conv => whnf
        refine ad_of tabOk (by kernel_rfl) [(0, false), (1, false), (2, false), (3, false), (4, false), (5, false), (6, false), (7, false), (8, false), (9, false), (10, false), (11, false), (12, false), (13, false), (14, false), (15, false)] (by kernel_rfl) ?_
        conv => whnf
        refine ad_of tabOk (by kernel_rfl) [(0, false), (1, false), (2, false), (3, false), (4, false), (5, false), (6, false), (7, false), (8, false), (9, false), (10, false), (11, false), (12, false), (13, false), (14, false), (15, false)] (by kernel_rfl) ?_
        conv => whnf
        refine ad_of tabOk (by kernel_rfl) [(0, false), (1, false), (2, false), (3, false), (4, false), (5, false), (6, false), (7, false), (8, false), (9, false), (10, false), (11, false), (12, false), (13, false), (14, false), (15, false)] (by kernel_rfl) ?_
        conv => whnf
        refine ad_of tabOk (by kernel_rfl) [(0, false), (1, false), (2, false), (3, false), (4, false), (5, false), (6, false), (7, false), (8, false), (9, false), (10, false), (11, false), (12, false), (13, false), (14, false), (15, false)] (by kernel_rfl) ?_
        conv => whnf
        refine ad_of tabOk (by kernel_rfl) [(0, false), (1, false), (2, false), (3, false), (4, false), (5, false), (6, false), (7, false), (8, false), (9, false), (10, false), (11, false), (12, false), (13, false), (14, false), (15, false)] (by kernel_rfl) ?_
        conv => whnf
        refine ad_of tabOk (by kernel_rfl) [(0, false), (1, false), (2, false), (3, false), (4, false), (5, false), (6, false), (7, false), (8, false), (9, false), (10, false), (11, false), (12, false), (13, false), (14, false), (15, false)] (by kernel_rfl) ?_
        conv => whnf
        refine ⟨7 - 7, by omega, 8, _, _, _, _, _, _, _, _, _, _, _, _, _, _, _, _, rfl, by omega, ?_, rfl⟩
        show tmO x7 7 [y0, y1, y2, y3, y4, y5, y6, y7] (tmI [x0, x1, x2, x3, x4, x5, x6, x7] [y0, y1, y2, y3, y4, y5, y6, y7] 7) = _
        unfold tmO
        rw [show (x7 == 0) = false from h1, ht]
        rfl
  | 8, _ =>
    · conv => whnf
      refine ⟨rfl, fin_turnedK rfl ?_⟩
      conv => whnf
      exact ⟨⟨_, _, _, _, _, _, _, _, _, _, _, _, _, _, _, _, rfl, ht⟩, rfl⟩
end Go.Proofs.YtjpjnjidchdlbaaDoor

/-
  Wide numbers: Mul (no condition).
-/
namespace Go.Proofs.YtjpjnjidchdlbaaDoor
set_option linter.unusedSimpArgs false
set_option linter.unusedVariables false
open Go
set_option maxRecDepth 100000
set_option maxHeartbeats 4000000
theorem has100 : Has Tryd.prog 100 Tryd.f100 := ⟨Tryd.func100, by kernel_rfl, by kernel_rfl⟩
def okD (x : Int) : Prop := 0 ≤ x ∧ x < 4294967296
theorem tmD_ok (o x y c : Int) : okD (tmD o x y c) := by
  unfold tmD okD
  have h : 0 ≤ tmW o x y c ∧ tmW o x y c < 18446744073709551616 := by
    unfold tmW
    rw [wrapS_eq]; simp [IntKind.wrap, IntKind.signed, IntKind.bits]; omega
  rw [Int.tmod_eq_emod_of_nonneg h.1]
  omega
theorem tmC_ok (o x y c : Int) : okD (tmC o x y c) := by
  unfold tmC okD
  have h : 0 ≤ tmW o x y c ∧ tmW o x y c < 18446744073709551616 := by
    unfold tmW
    rw [wrapS_eq]; simp [IntKind.wrap, IntKind.signed, IntKind.bits]; omega
  rw [Int.tdiv_eq_ediv_of_nonneg h.1, wrapU (by omega) (by omega)]
  omega
theorem tmR_ok (x : Int) : ∀ (os ys : List Int) (c : Int), (∀ o ∈ os, okD o) → okD c → ∀ o ∈ tmR x os ys c, okD o
  | [], [], c, _, hc, o, ho => by
    simp only [tmR, List.drop_nil, List.mem_singleton] at ho
    exact ho ▸ hc
  | a :: os, [], c, h, hc, o, ho => by
    simp only [tmR, List.drop_succ_cons, List.drop_zero, List.mem_cons] at ho
    rcases ho with rfl | ho
    · exact hc
    · exact h o (List.mem_cons_of_mem _ ho)
  | a :: os, y :: ys, c, h, hc, o, ho => by
    simp only [tmR, List.mem_cons] at ho
    rcases ho with rfl | ho
    · exact tmD_ok _ _ _ _
    · exact tmR_ok x os ys _ (fun o ho => h o (List.mem_cons_of_mem _ ho)) (tmC_ok _ _ _ _) o ho
  | [], _ :: _, c, _, hc, o, ho => by simp [tmR] at ho
theorem tmO_ok (x : Int) (i : Nat) (ys o : List Int) (h : ∀ a ∈ o, okD a) : ∀ a ∈ tmO x i ys o, okD a := by
  intro a ha
  unfold tmO at ha
  split at ha
  · exact h a ha
  · rcases List.mem_append.1 ha with ha | ha
    · exact h a (List.mem_of_mem_take ha)
    · exact tmR_ok x _ ys 0 (fun b hb => h b (List.mem_of_mem_drop hb)) ⟨by omega, by omega⟩ a ha
theorem tmI_ok (xs ys : List Int) : ∀ i, ∀ a ∈ tmI xs ys i, okD a
  | 0, a, ha => by
    have := List.eq_of_mem_replicate ha
    exact this ▸ ⟨by omega, by omega⟩
  | i + 1, a, ha => tmO_ok _ _ _ _ (tmI_ok xs ys i) a ha
def packL : List Int → Nat
  | [] => 0
  | d :: l => d.toNat + 4294967296 * packL l
theorem dg_z {d : Int} (h : okD d) (n : Nat) : ((dg (d.toNat + 4294967296 * n) 0 : Nat) : Int) = d := by
  unfold dg
  obtain ⟨h1, h2⟩ := h
  rw [Nat.pow_zero, Nat.div_one]
  omega
theorem dg_s {d : Int} (h : okD d) (n i : Nat) : dg (d.toNat + 4294967296 * n) (i + 1) = dg n i := by
  unfold dg
  obtain ⟨h1, h2⟩ := h
  rw [Nat.pow_succ', ← Nat.div_div_eq_div_mul]
  congr 2
  omega
theorem packL_lt : ∀ (l : List Int), (∀ o ∈ l, okD o) → packL l < 4294967296 ^ l.length
  | [], _ => by decide
  | d :: l, h => by
    have h1 := packL_lt l (fun o ho => h o (List.mem_cons_of_mem _ ho))
    obtain ⟨h2, h3⟩ := h d List.mem_cons_self
    unfold packL
    rw [List.length_cons, Nat.pow_succ]
    have : d.toNat < 4294967296 := by omega
    generalize 4294967296 ^ l.length = R at *
    omega
def dgL (n : Nat) : List Int := [((dg (n) 0 : Nat) : Int), ((dg (n) 1 : Nat) : Int), ((dg (n) 2 : Nat) : Int), ((dg (n) 3 : Nat) : Int), ((dg (n) 4 : Nat) : Int), ((dg (n) 5 : Nat) : Int), ((dg (n) 6 : Nat) : Int), ((dg (n) 7 : Nat) : Int)]
/-- what is multiplied, before the signs -/
def mag16 (a b : Nat) : List Int := tmI (dgL (absN a)) (dgL (absN b)) 8
def magN (a b : Nat) : Nat := packL ((mag16 a b).take 8)
theorem magN_lt (a b : Nat) : magN a b < MW := by
  have h1 := packL_lt ((mag16 a b).take 8) (fun o ho => tmI_ok _ _ 8 o (List.mem_of_mem_take ho))
  have h2 : ((mag16 a b).take 8).length ≤ 8 := by rw [List.length_take]; omega
  have h3 : 4294967296 ^ ((mag16 a b).take 8).length ≤ 4294967296 ^ 8 := Nat.pow_le_pow_right (by decide) h2
  rw [MW_eq]
  unfold magN
  omega
theorem dv_pack {o0 o1 o2 o3 o4 o5 o6 o7 : Int} (h : ∀ o ∈ [o0, o1, o2, o3, o4, o5, o6, o7], okD o) : D8 o0 o1 o2 o3 o4 o5 o6 o7 = dv (packL [o0, o1, o2, o3, o4, o5, o6, o7]) := by
  have g : ∀ i (hi : i < 8), okD ([o0, o1, o2, o3, o4, o5, o6, o7][i]) := fun i hi => h _ (List.getElem_mem _)
  have g0 : okD o0 := g 0 (by decide)
  have g1 : okD o1 := g 1 (by decide)
  have g2 : okD o2 := g 2 (by decide)
  have g3 : okD o3 := g 3 (by decide)
  have g4 : okD o4 := g 4 (by decide)
  have g5 : okD o5 := g 5 (by decide)
  have g6 : okD o6 := g 6 (by decide)
  have g7 : okD o7 := g 7 (by decide)
  unfold dv
  unfold packL packL packL packL packL packL packL packL
  simp only [dg_s g0, dg_s g1, dg_s g2, dg_s g3, dg_s g4, dg_s g5, dg_s g6, dg_z g0, dg_z g1, dg_z g2, dg_z g3, dg_z g4, dg_z g5, dg_z g6, dg_z g7]
/-- whether something lies above -/
def ovI (os : List Int) : Nat → Bool
  | 0 => false
  | i + 1 => match ovI os i with
    | true => true
    | false => decide (os.getD (8 + i) 0 > 0)
def neZ (m : Nat) : Bool := !((((wd m 0 : Nat) : Int) == 0) && ((((wd m 1 : Nat) : Int) == 0) && ((((wd m 2 : Nat) : Int) == 0) && ((((wd m 3 : Nat) : Int) == 0) && true))))
def mulN (a b : Nat) : Nat := match lowN a == lowN b with
  | true => magN a b
  | false => negN (magN a b)
def mulF (a b : Nat) : Bool := match lowN a == lowN b with
  | true => (match ovI (mag16 a b) 8 with
    | true => true
    | false => lowN (magN a b))
  | false => (match ovI (mag16 a b) 8 with
    | true => true
    | false => (match neZ (magN a b) with
      | true => !(lowN (negN (magN a b)))
      | false => false))
theorem mulN_lt (a b : Nat) : mulN a b < MW := by
  unfold mulN
  split
  · exact magN_lt a b
  · exact negN_lt _
/-- what was copied after i rounds -/
def cpI (os : List Int) : Nat → List Int
  | 0 => List.replicate 8 0
  | i + 1 => (cpI os i).set i (os.getD i 0)
theorem Mul_n (G) {a b : Nat} (ha : a < MW) (hb : b < MW) : AC Tryd.prog G 100 [wv a, wv b] [] (fun v h => v = .tuple #[wv (mulN a b), .bool (mulF a b)] ∧ h = []) := by
  refine ac_of_body tabOk has100 ?_
  unfold BodyOk
  conv => whnf
  refine ad_of tabOk (by kernel_rfl) [(5, false), (0, false), (2, false), (1, false), (3, false), (4, false), (6, false)] (by kernel_rfl) ?_
  conv => whnf
  refine quiet_of (size_n G ha) rfl ?_
  rintro v h' ⟨rfl, rfl⟩
  refine ⟨rfl, rfl, ?_⟩
  conv => whnf
  refine quiet_of (size_n G hb) rfl ?_
  rintro v h' ⟨rfl, rfl⟩
  refine ⟨rfl, rfl, ?_⟩
  conv => whnf
  refine quiet_of (times_n G) rfl ?_
  rintro v h' ⟨⟨o0, o1, o2, o3, o4, o5, o6, o7, o8, o9, o10, o11, o12, o13, o14, o15, rfl, hm⟩, rfl⟩
  refine ⟨rfl, rfl, ?_⟩
  conv => whnf
  refine ⟨⟨.inl rfl, .inl rfl, .inl rfl, trivial⟩, ?_⟩
  conv => whnf
  have hm16 : mag16 a b = [o0, o1, o2, o3, o4, o5, o6, o7, o8, o9, o10, o11, o12, o13, o14, o15] := hm
  have hmag : magN a b = packL [o0, o1, o2, o3, o4, o5, o6, o7] := by unfold magN; rw [hm16]; rfl
  have hok : ∀ o ∈ [o0, o1, o2, o3, o4, o5, o6, o7], okD o := fun o ho => tmI_ok _ _ 8 o (by rw [hm]; exact List.mem_of_mem_take (i := 8) ho)
  have hdv := (dv_pack hok).trans (congrArg dv hmag.symm)
  refine aw_inv tabOk [[false, false, true, true, true, true, true, true, true, true, false, false, false, false, false, false], [false, false, false, false, false, false, false, false, false, false, false, false, false, false, false, false], [false, false, false, false, false, false, false, false, false, false, false, false, false, false, false, false], [false, false, false, false, false, false, false, false, false, false, false, false, false, false, false, false], [false]] (fun m s' => ∃ (i : Nat) (t : Bool), m = 8 - i ∧ i ≤ 8 ∧ t = ovI [o0, o1, o2, o3, o4, o5, o6, o7, o8, o9, o10, o11, o12, o13, o14, o15] i ∧
    s' = ⟨[[.chan none, .chan none, ptr 0 0, ptr 1 0, ptr 2 0, .bool false, ptr 3 0, ptr 4 0, .bool t, I64 (i : Int), .chan none, .chan none, .chan none, .chan none, .chan none, .chan none],
      [.chan none, .chan none, .chan none, .chan none, .chan none, .chan none, .chan none, .chan none, .chan none, .chan none, .chan none, .chan none, .chan none, .chan none, .chan none, .chan none],
      [.chan none, .chan none, .chan none, .chan none, .chan none, .chan none, .chan none, .chan none, .chan none, .chan none, .chan none, .chan none, .chan none, .chan none, .chan none, .chan none],
      [.chan none, .chan none, .chan none, .chan none, .chan none, .chan none, .chan none, .chan none, .chan none, .chan none, .chan none, .chan none, .chan none, .chan none, .chan none, .chan none],
      [.chan none]],
      [.cells #[U64 (wd a 0 : Nat), U64 (wd a 1 : Nat), U64 (wd a 2 : Nat), U64 (wd a 3 : Nat)] 115, .cells #[U64 (wd b 0 : Nat), U64 (wd b 1 : Nat), U64 (wd b 2 : Nat), U64 (wd b 3 : Nat)] 115, .cells #[U64 0, U64 0, U64 0, U64 0] 115, .cells #[U64 o0, U64 o1, U64 o2, U64 o3, U64 o4, U64 o5, U64 o6, U64 o7, U64 o8, U64 o9, U64 o10, U64 o11, U64 o12, U64 o13, U64 o14, U64 o15] 127, .cells #[U64 ((cpI [o0, o1, o2, o3, o4, o5, o6, o7, o8, o9, o10, o11, o12, o13, o14, o15] i).getD 0 0), U64 ((cpI [o0, o1, o2, o3, o4, o5, o6, o7, o8, o9, o10, o11, o12, o13, o14, o15] i).getD 1 0), U64 ((cpI [o0, o1, o2, o3, o4, o5, o6, o7, o8, o9, o10, o11, o12, o13, o14, o15] i).getD 2 0), U64 ((cpI [o0, o1, o2, o3, o4, o5, o6, o7, o8, o9, o10, o11, o12, o13, o14, o15] i).getD 3 0), U64 ((cpI [o0, o1, o2, o3, o4, o5, o6, o7, o8, o9, o10, o11, o12, o13, o14, o15] i).getD 4 0), U64 ((cpI [o0, o1, o2, o3, o4, o5, o6, o7, o8, o9, o10, o11, o12, o13, o14, o15] i).getD 5 0), U64 ((cpI [o0, o1, o2, o3, o4, o5, o6, o7, o8, o9, o10, o11, o12, o13, o14, o15] i).getD 6 0), U64 ((cpI [o0, o1, o2, o3, o4, o5, o6, o7, o8, o9, o10, o11, o12, o13, o14, o15] i).getD 7 0)] 129], []⟩) 8 ?_ ⟨0, false, rfl, Nat.zero_le _, rfl, rfl⟩
  rintro m s' ⟨i, t, rfl, hi, ht, rfl⟩
  match i, hi with
  | 0, _ =>
    conv => whnf
    refine ways (fun h1 => ?_) (fun h1 => ?_) <;> conv => whnf
    · exact ⟨7 - 0, by omega, 1, _, rfl, by omega, by unfold ovI; rw [← ht, h1], rfl⟩
    · exact ⟨7 - 0, by omega, 1, _, rfl, by omega, by unfold ovI; rw [← ht, h1]; rfl, rfl⟩
  | 1, _ =>
    conv => whnf
    refine ways (fun h1 => ?_) (fun h1 => ?_) <;> conv => whnf
    · exact ⟨7 - 1, by omega, 2, _, rfl, by omega, by unfold ovI; rw [← ht, h1], rfl⟩
    · exact ⟨7 - 1, by omega, 2, _, rfl, by omega, by unfold ovI; rw [← ht, h1]; rfl, rfl⟩
  | 2, _ =>
    conv => whnf
    refine ways (fun h1 => ?_) (fun h1 => ?_) <;> conv => whnf
    · exact ⟨7 - 2, by omega, 3, _, rfl, by omega, by unfold ovI; rw [← ht, h1], rfl⟩
    · exact ⟨7 - 2, by omega, 3, _, rfl, by omega, by unfold ovI; rw [← ht, h1]; rfl, rfl⟩
  | 3, _ =>
    conv => whnf
    refine ways (fun h1 => ?_) (fun h1 => ?_) <;> conv => whnf
    · exact ⟨7 - 3, by omega, 4, _, rfl, by omega, by unfold ovI; rw [← ht, h1], rfl⟩
    · exact ⟨7 - 3, by omega, 4, _, rfl, by omega, by unfold ovI; rw [← ht, h1]; rfl, rfl⟩
  | 4, _ =>
    conv => whnf
    refine ways (fun h1 => ?_) (fun h1 => ?_) <;> conv => whnf
    · exact ⟨7 - 4, by omega, 5, _, rfl, by omega, by unfold ovI; rw [← ht, h1], rfl⟩
    · exact ⟨7 - 4, by omega, 5, _, rfl, by omega, by unfold ovI; rw [← ht, h1]; rfl, rfl⟩
  | 5, _ =>
    conv => whnf
    refine ways (fun h1 => ?_) (fun h1 => ?_) <;> conv => whnf
    · exact ⟨7 - 5, by omega, 6, _, rfl, by omega, by unfold ovI; rw [← ht, h1], rfl⟩
    · exact ⟨7 - 5, by omega, 6, _, rfl, by omega, by unfold ovI; rw [← ht, h1]; rfl, rfl⟩
  | 6, _ =>
    conv => whnf
    refine ways (fun h1 => ?_) (fun h1 => ?_) <;> conv => whnf
    · exact ⟨7 - 6, by omega, 7, _, rfl, by omega, by unfold ovI; rw [← ht, h1], rfl⟩
    · exact ⟨7 - 6, by omega, 7, _, rfl, by omega, by unfold ovI; rw [← ht, h1]; rfl, rfl⟩
  | 7, _ =>
    conv => whnf
    refine ways (fun h1 => ?_) (fun h1 => ?_) <;> conv => whnf
    · exact ⟨7 - 7, by omega, 8, _, rfl, by omega, by unfold ovI; rw [← ht, h1], rfl⟩
    · exact ⟨7 - 7, by omega, 8, _, rfl, by omega, by unfold ovI; rw [← ht, h1]; rfl, rfl⟩
  | 8, _ =>
    conv => whnf
    refine ac_pure (hdv ▸ wide_n G (magN a b) : AC _ G 112 [D8 o0 o1 o2 o3 o4 o5 o6 o7] [] _) rfl ?_
    rintro v h' ⟨rfl, rfl⟩
    refine ⟨rfl, rfl, ?_⟩
    conv => whnf
    refine ad_of tabOk (by kernel_rfl) [(0, false), (2, false), (1, false), (3, false), (4, false)] (by kernel_rfl) ?_
    conv => whnf
    refine quiet_of (low_n G a) rfl ?_
    rintro v h' ⟨rfl, rfl⟩
    refine ⟨rfl, rfl, ?_⟩
    conv => whnf
    refine quiet_of (low_n G b) rfl ?_
    rintro v h' ⟨rfl, rfl⟩
    refine ⟨rfl, rfl, ?_⟩
    conv => whnf
    have hov : ovI (mag16 a b) 8 = ovI [o0, o1, o2, o3, o4, o5, o6, o7, o8, o9, o10, o11, o12, o13, o14, o15] 8 := by rw [hm16]
    refine ways (fun h1 => ?_) (fun h1 => ?_) <;> conv => whnf
    · skip
      refine ad_hole [] [.cells _ 115, .cells _ 115, .deferred none, .cells _ 127, .cells _ 129, .cells _ 115] tabOk (by kernel_rfl) [(0, false), (1, false), (2, false), (3, false), (4, false), (5, false), (6, false), (7, false)] (by kernel_rfl) ⟨.inl rfl, .inl rfl, .inr rfl, .inl rfl, .inl rfl, .inl rfl, trivial⟩ ?_
      conv => whnf
      refine ways (fun h2 => ?_) (fun h2 => ?_) <;> conv => whnf
      · skip
        refine ⟨⟨.inl rfl, .inl rfl, .inr rfl, .inl rfl, .inl rfl, .inl rfl, trivial⟩, ?_⟩
        conv => whnf
        refine ⟨rfl, fin_turnedK rfl ?_⟩
        conv => whnf
        exact ⟨by unfold mulN mulF; rw [h1, hov, ← ht, h2] <;> rfl, rfl⟩
      · skip
        refine quiet_of (low_n G (magN a b)) rfl ?_
        rintro v h' ⟨rfl, rfl⟩
        refine ⟨rfl, rfl, ?_⟩
        conv => whnf
        refine ⟨⟨.inl rfl, .inl rfl, .inr rfl, .inl rfl, .inl rfl, .inl rfl, trivial⟩, ?_⟩
        conv => whnf
        refine ⟨rfl, fin_turnedK rfl ?_⟩
        conv => whnf
        exact ⟨by unfold mulN mulF; rw [h1, hov, ← ht, h2] <;> rfl, rfl⟩
    · skip
      refine ac_pure (Neg_n G (magN_lt a b)) rfl ?_
      rintro v h' ⟨rfl, rfl⟩
      refine ⟨rfl, rfl, ?_⟩
      conv => whnf
      refine ad_hole [] [.cells _ 115, .cells _ 115, .deferred none, .cells _ 127, .cells _ 129, .cells _ 115, .cells _ 115] tabOk (by kernel_rfl) [(0, false), (1, false), (2, false), (3, false), (4, false), (5, false), (6, false), (7, false), (8, false), (9, false), (10, false), (11, false), (12, false), (13, false)] (by kernel_rfl) ⟨.inl rfl, .inl rfl, .inr rfl, .inl rfl, .inl rfl, .inl rfl, .inl rfl, trivial⟩ ?_
      conv => whnf
      refine ways (fun h2 => ?_) (fun h2 => ?_) <;> conv => whnf
      · skip
        refine ⟨⟨.inl rfl, .inl rfl, .inr rfl, .inl rfl, .inl rfl, .inl rfl, .inl rfl, trivial⟩, ?_⟩
        conv => whnf
        refine ⟨rfl, fin_turnedK rfl ?_⟩
        conv => whnf
        exact ⟨by unfold mulN mulF; rw [h1, hov, ← ht, h2] <;> rfl, rfl⟩
      · refine ways (fun h3 => ?_) (fun h3 => ?_) <;> conv => whnf
        · skip
          refine quiet_of (low_n G (negN (magN a b))) rfl ?_
          rintro v h' ⟨rfl, rfl⟩
          refine ⟨rfl, rfl, ?_⟩
          conv => whnf
          refine ⟨⟨.inl rfl, .inl rfl, .inr rfl, .inl rfl, .inl rfl, .inl rfl, .inl rfl, trivial⟩, ?_⟩
          conv => whnf
          refine ⟨rfl, fin_turnedK rfl ?_⟩
          conv => whnf
          exact ⟨by unfold mulN mulF; rw [h1, hov, ← ht, h2, show neZ (magN a b) = true from h3] <;> rfl, rfl⟩
        · skip
          refine ⟨⟨.inl rfl, .inl rfl, .inr rfl, .inl rfl, .inl rfl, .inl rfl, .inl rfl, trivial⟩, ?_⟩
          conv => whnf
          refine ⟨rfl, fin_turnedK rfl ?_⟩
          conv => whnf
          exact ⟨by unfold mulN mulF; rw [h1, hov, ← ht, h2, show neZ (magN a b) = false from h3] <;> rfl, rfl⟩
end Go.Proofs.YtjpjnjidchdlbaaDoor

/-
  Wide numbers: what the least bits tell; the doublings (no condition).
-/
namespace Go.Proofs.YtjpjnjidchdlbaaDoor
set_option linter.unusedSimpArgs false
set_option linter.unusedVariables false
open Go
set_option maxRecDepth 100000
set_option maxHeartbeats 4000000

theorem lowN_eq {n : Nat} (h : n < MW) : lowN n = decide (57896044618658097711785492504343953926634992332820282019728792003956564819968 ≤ n) := by
  unfold lowN
  rw [wd3]
  unfold MW at h
  by_cases h1 : 57896044618658097711785492504343953926634992332820282019728792003956564819968 ≤ n
  · rw [decide_eq_true h1, decide_eq_true (by omega)]
  · rw [decide_eq_false h1, decide_eq_false (by omega)]
theorem wd_sum {n : Nat} (h : n < MW) : n = wd n 0 + 18446744073709551616 * wd n 1 + 340282366920938463463374607431768211456 * wd n 2 + 6277101735386680763835789423207666416102355444464034512896 * wd n 3 := by
  rw [wd0, wd1, wd2, wd3]
  unfold MW at h
  omega
theorem wv_inj {n m : Nat} (hn : n < MW) (hm : m < MW) (h0 : wd n 0 = wd m 0) (h1 : wd n 1 = wd m 1) (h2 : wd n 2 = wd m 2) (h3 : wd n 3 = wd m 3) : n = m := by
  have e1 := wd_sum hn
  have e2 := wd_sum hm
  rw [h0, h1, h2, h3] at e1
  exact e1.trans e2.symm
/-- more than nothing -/
theorem pos_of {b : Nat} (hb : b < MW) (h : 0 < cmpW b 0) : 0 < b ∧ b < 57896044618658097711785492504343953926634992332820282019728792003956564819968 := by
  have hl : lowN 0 = false := by decide
  have z : ∀ i, wd 0 i = 0 := fun i => by unfold wd; rw [Nat.zero_div, Nat.zero_mod]
  unfold cmpW at h
  rw [hl] at h
  cases hb2 : lowN b with
  | true =>
    rw [hb2] at h
    have h' : (0 : Int) < -1 := h
    omega
  | false =>
    rw [lowN_eq hb] at hb2
    have hb3 := of_decide_eq_false hb2
    refine ⟨?_, by omega⟩
    rcases Nat.eq_zero_or_pos b with rfl | h1
    · exact absurd h (by decide)
    · exact h1
theorem pos_to {b : Nat} (h0 : 0 < b) (h1 : b < 57896044618658097711785492504343953926634992332820282019728792003956564819968) : cmpW b 0 = 1 := by
  have hb : b < MW := by unfold MW; omega
  have hl : lowN 0 = false := by decide
  have z : ∀ i, wd 0 i = 0 := fun i => by unfold wd; rw [Nat.zero_div, Nat.zero_mod]
  have hlb : lowN b = false := by rw [lowN_eq hb]; exact decide_eq_false (by omega)
  have hs := wd_sum hb
  unfold cmpW
  rw [hl, hlb, z, z, z, z]
  simp only [show ∀ n : Nat, decide (((n : Nat) : Int) < ((0 : Nat) : Int)) = false from fun n => decide_eq_false (by omega)]
  cases h3 : decide (((0 : Nat) : Int) < ((wd b 3 : Nat) : Int)) with
  | true => rfl
  | false =>
    cases h2 : decide (((0 : Nat) : Int) < ((wd b 2 : Nat) : Int)) with
    | true => rfl
    | false =>
      cases h1' : decide (((0 : Nat) : Int) < ((wd b 1 : Nat) : Int)) with
      | true => rfl
      | false =>
        cases h0' : decide (((0 : Nat) : Int) < ((wd b 0 : Nat) : Int)) with
        | true => rfl
        | false =>
          have g3 := of_decide_eq_false h3
          have g2 := of_decide_eq_false h2
          have g1 := of_decide_eq_false h1'
          have g0 := of_decide_eq_false h0'
          omega
/-- a number doubled without a flag: it stays small -/
theorem dbl_ok {d : Nat} (hd : d < 57896044618658097711785492504343953926634992332820282019728792003956564819968) (hf : addF d d = false) : addN d d = 2 * d ∧ 2 * d < 57896044618658097711785492504343953926634992332820282019728792003956564819968 := by
  have hdM : d < MW := by unfold MW; omega
  have e : addN d d = 2 * d := by unfold addN MW; omega
  refine ⟨e, ?_⟩
  have hl : lowN d = false := by rw [lowN_eq hdM]; exact decide_eq_false (by omega)
  unfold addF at hf
  rw [hl, e] at hf
  have h2 : lowN (2 * d) = false := by
    cases h : lowN (2 * d) with
    | false => rfl
    | true => rw [h] at hf; exact absurd hf (by decide)
  rw [lowN_eq (by unfold MW; omega)] at h2
  have := of_decide_eq_false h2
  omega
end Go.Proofs.YtjpjnjidchdlbaaDoor

/-
  A row of wide numbers that grows (no condition).
-/
namespace Go.Proofs.YtjpjnjidchdlbaaDoor
set_option linter.unusedSimpArgs false
set_option linter.unusedVariables false
open Go
set_option maxRecDepth 100000
set_option maxHeartbeats 4000000
theorem zeros_len (z : Array Value) (n : Nat) : (Builtin.zeroCells z n).toList.length = n * z.size := by
  simp [Builtin.zeroCells]
theorem drop1 {α : Type} {r : List α} {u : α} : ∀ (l : List α), (l ++ u :: r).drop (l.length + 1) = r
  | [] => rfl
  | _ :: l => drop1 l
theorem cells_part {c : Array Value} {o n : Nat} {xs : List Value} (h : ∀ (j : Nat) (v : Value), xs[j]? = some v → c[o + j]? = some v) (hn : xs.length = n) (h0 : 0 < n) {K : List Value → Prop} (hk : K xs) : dropK c.toList o fun r => takeK r n K := by
  subst hn
  have hlt : o + (xs.length - 1) < c.size := by
    obtain ⟨v, hv⟩ : ∃ v, xs[xs.length - 1]? = some v := ⟨_, List.getElem?_eq_getElem (by omega)⟩
    exact (Array.getElem?_eq_some_iff.1 (h _ v hv)).1
  have ht : (c.toList.drop o).take xs.length = xs := by
    apply List.ext_getElem?
    intro j
    by_cases hj : j < xs.length
    · obtain ⟨v, hv⟩ : ∃ v, xs[j]? = some v := ⟨_, List.getElem?_eq_getElem hj⟩
      rw [List.getElem?_take, if_pos hj, List.getElem?_drop, hv]
      have := h j v hv
      simpa using this
    · rw [List.getElem?_eq_none (by simp; omega), List.getElem?_eq_none (by omega)]
  rw [dropK_iff]
  refine ⟨by simp; omega, ?_⟩
  rw [takeK_iff]
  refine ⟨by simp; omega, ?_⟩
  rw [ht]
  exact hk
theorem sliceAddr_ne {a : Addr} {l m sz : Nat} (h : m ≠ l) : sliceAddr a l m sz = ⟨a.block, a.off + l * sz, a.spot⟩ := by
  unfold sliceAddr
  rw [if_neg h]
theorem ac_args {P : Program} {G : List (Nat × Obj)} {f : FuncId} {args args' : List Value} {h : List Obj} {k : Value → List Obj → Prop} (e : args = args') (H : AC P G f args' h k) : AC P G f args h k := e ▸ H
/-- the words of a number -/
def wc (n : Nat) : List Value := [U64 (wd n 0 : Nat), U64 (wd n 1 : Nat), U64 (wd n 2 : Nat), U64 (wd n 3 : Nat)]
def flatBW (l : List Nat) : List Value := l.flatMap wc
theorem flatBW_len : ∀ l : List Nat, (flatBW l).length = l.length * 4
  | [] => rfl
  | b :: l => by
    show ((wc b) ++ flatBW l).length = _
    rw [List.length_append, flatBW_len l]
    show 4 + l.length * 4 = (l.length + 1) * 4
    omega
theorem flatBW_at : ∀ (l : List Nat) (i q : Nat), q < 4 → (flatBW l)[i * 4 + q]? = (l[i]?).bind fun b => (wc b)[q]?
  | [], i, q, _ => by simp [flatBW]
  | b :: l, 0, q, hq => by
    show ((wc b) ++ flatBW l)[0 * 4 + q]? = _
    rw [List.getElem?_append_left (by show 0 * 4 + q < 4; omega), Nat.zero_mul, Nat.zero_add]
    rfl
  | b :: l, i + 1, q, hq => by
    show ((wc b) ++ flatBW l)[(i + 1) * 4 + q]? = _
    rw [List.getElem?_append_right (by show 4 ≤ _; omega), show (i + 1) * 4 + q - (wc b).length = i * 4 + q from by show (i + 1) * 4 + q - 4 = _; omega, flatBW_at l i q hq]
    simp
theorem flatBW_clean (l : List Nat) : ∀ x ∈ flatBW l, cleanV x = true := by
  intro x hx
  obtain ⟨b, _, hb⟩ := List.mem_flatMap.1 hx
  simp [wc] at hb
  rcases hb with rfl | rfl | rfl | rfl <;> rfl
theorem flatBW_app (l m : List Nat) : flatBW (l ++ m) = flatBW l ++ flatBW m := by simp [flatBW]
theorem zeros115 : ti115.zero.cells.size = 4 := rfl
/-- the bodies acc lie in block q of news, with room behind -/
structure AccBW (news : List Obj) (q cp : Nat) (acc : List Nat) : Prop where
  pos : 1 ≤ acc.length
  at_ : ∃ rest : List Value, news[q]? = some (.cells ⟨flatBW acc ++ rest⟩ 115) ∧ acc.length * 4 + rest.length = cp * 4 ∧ ∀ x ∈ rest, cleanV x = true
/-- w is nil, or such a row -/
def AccVW (m : Nat) (news : List Obj) (w : Value) (acc : List Nat) : Prop := (w = .slice none 0 0 ∧ acc = []) ∨ ∃ q cp, w = slc (q + m) 0 acc.length cp ∧ AccBW news q cp acc
theorem AccBW.le {news : List Obj} {q cp : Nat} {acc : List Nat} (H : AccBW news q cp acc) : acc.length ≤ cp := by
  obtain ⟨_, rest, _, h, _⟩ := H
  omega
section
variable {G : List (Nat × Obj)} {ro : Option Nat}
theorem ao_pushBW {o : Oper} {x y : Operand} (hop : o.op = .call ⟨.builtin .append, #[x, y], #[145, 145]⟩) {m : Nat} (base : List Obj) (hm : base.length = m) {news : List Obj} {w : Value} {acc : List Nat} {b : Nat} (hV : AccVW m news w acc)
    {s : St} (hs : s.h = base ++ (news ++ [.cells ⟨(wc b)⟩ 115])) (hx : evK s x fun v => v = w) (hy : evK s y fun v => v = slc (news.length + m) 0 1 1) (hb : acc.length ≤ 1000000000000)
    {K : St → Prop} (h : ∀ news' q' cp', AccBW news' q' cp' (acc ++ [b]) → putK ⟨s.t, base ++ news', s.d⟩ o.dst (slc (q' + m) 0 (acc ++ [b]).length cp') K) : AO Tryd.prog G ro o s K := by
  subst hm
  have hx1 : s.h[news.length + base.length]? = some (.cells ⟨(wc b)⟩ 115) := by
    rw [hs, List.getElem?_append_right (by omega), Nat.add_sub_cancel, List.getElem?_append_right (Nat.le_refl _), Nat.sub_self]
    rfl
  have hlen : s.h.length = base.length + (news.length + 1) := by rw [hs, List.length_append, List.length_append]; rfl
  have hal : (acc ++ [b]).length = acc.length + 1 := by simp
  have ry : RowIs s.h 4 (slc (news.length + base.length) 0 1 1) 1 (wc b) := .row hx1 (by
    show ∀ (j : Nat) (x : Value), (wc b)[j]? = some x → (⟨(wc b)⟩ : Array Value)[0 + j]? = some x
    intro j x hj
    rw [Nat.zero_add, List.getElem?_toArray]
    exact hj) rfl (by simp [cleanV, wc])
  rcases hV with ⟨rfl, rfl⟩ | ⟨q, cp, rfl, hpos, rest, hq, hr, hrc⟩
  · refine ao_grow (lx := 0) (cx := 0) (ly := 1) (olds := []) (news := (wc b)) (px := none) (vx := .slice none 0 0) (vy := slc (news.length + base.length) 0 1 1) (i := ti145) (j := ti115) (e := 115) tabOk hop hx hy rfl rfl rfl rfl rfl rfl (.nil 0) ry (by omega) (by show (0 + 1) * 32 ≤ _; omega) (by omega) ?_
    intro cap hcap
    have := h (news ++ [Obj.cells ⟨(wc b)⟩ 115] ++ [Obj.cells ⟨[] ++ (wc b) ++ (Builtin.zeroCells ti115.zero.cells (cap - (0 + 1))).toList⟩ 115]) (news.length + 1) cap ⟨by simp, (Builtin.zeroCells ti115.zero.cells (cap - (0 + 1))).toList, ?_, ?_, ?_⟩
    · have e4 : s.h.length = news.length + 1 + base.length := by omega
      unfold grow
      rw [e4, hs]
      rw [show base ++ (news ++ [Obj.cells ⟨(wc b)⟩ 115] ++ [Obj.cells ⟨[] ++ (wc b) ++ (Builtin.zeroCells ti115.zero.cells (cap - (0 + 1))).toList⟩ 115]) = base ++ (news ++ [Obj.cells ⟨(wc b)⟩ 115]) ++ [Obj.cells ⟨[] ++ (wc b) ++ (Builtin.zeroCells ti115.zero.cells (cap - (0 + 1))).toList⟩ 115] from by simp] at this
      exact this
    · rw [List.getElem?_append_right (by simp)]
      simp [flatBW]
    · rw [zeros_len, zeros115]
      simp
      omega
    · exact zeros_cleanI ti115.zero.cells rfl _
  have hml : (flatBW acc).length = acc.length * 4 := flatBW_len acc
  have hql : q < news.length := (List.getElem?_eq_some_iff.1 hq).1
  have hg : s.h[q + base.length]? = some (.cells ⟨flatBW acc ++ rest⟩ 115) := by
    rw [hs, List.getElem?_append_right (by omega), Nat.add_sub_cancel, List.getElem?_append_left hql]
    exact hq
  by_cases hroom : acc.length + 1 ≤ cp
  · obtain ⟨u, rest', hu, rfl⟩ : ∃ u rest' : List Value, u.length = 4 ∧ rest = u ++ rest' := ⟨rest.take 4, rest.drop 4, by simp; omega, (List.take_append_drop _ _).symm⟩
    refine ao_room (b := q + base.length) (off := 0) (lx := acc.length) (cx := cp) (ly := 1) (news := (wc b)) (vy := slc (news.length + base.length) 0 1 1) (i := ti145) (j := ti115) (e := 115) tabOk hop hx hy rfl rfl rfl rfl rfl hg rfl ry hroom ?_ ?_
    · show 0 + (acc.length + 1) * 4 ≤ (flatBW acc ++ (u ++ rest')).length
      rw [List.length_append, hml, List.length_append, hu]
      omega
    · have e1 : (⟨(⟨flatBW acc ++ (u ++ rest')⟩ : Array Value).toList.take (0 + acc.length * ti115.size) ++ (wc b) ++ (⟨flatBW acc ++ (u ++ rest')⟩ : Array Value).toList.drop (0 + acc.length * ti115.size + (wc b).length)⟩ : Array Value) = ⟨flatBW (acc ++ [b]) ++ rest'⟩ := by
        have e2 : 0 + acc.length * ti115.size = (flatBW acc).length := by show 0 + acc.length * 4 = _; rw [hml]; omega
        have e3 : (flatBW acc).length + (wc b).length = (flatBW acc ++ u).length := by rw [List.length_append, hu]; rfl
        rw [e2, e3]
        show (⟨(flatBW acc ++ (u ++ rest')).take (flatBW acc).length ++ (wc b) ++ (flatBW acc ++ (u ++ rest')).drop (flatBW acc ++ u).length⟩ : Array Value) = _
        rw [List.take_left, ← List.append_assoc (flatBW acc) u, List.drop_left, flatBW_app]
        simp [flatBW]
      rw [e1]
      have e3 : s.h.set (q + base.length) (Obj.cells ⟨flatBW (acc ++ [b]) ++ rest'⟩ 115) = base ++ ((news ++ [Obj.cells ⟨(wc b)⟩ 115]).set q (Obj.cells ⟨flatBW (acc ++ [b]) ++ rest'⟩ 115)) := by
        rw [hs, List.set_append_right _ _ (by omega), Nat.add_sub_cancel]
      have := h ((news ++ [Obj.cells ⟨(wc b)⟩ 115]).set q (Obj.cells ⟨flatBW (acc ++ [b]) ++ rest'⟩ 115)) q cp ⟨by simp, rest', ?_, ?_, ?_⟩
      · rw [← e3, hal] at this
        exact this
      · rw [List.getElem?_set_self (by simp; omega)]
      · rw [hal]
        rw [List.length_append, hu] at hr
        omega
      · intro y hy'
        exact hrc y (by simp [hy'])
  · refine ao_grow (lx := acc.length) (cx := cp) (ly := 1) (olds := flatBW acc) (news := (wc b)) (px := some ⟨q + base.length, 0, some 0⟩) (vx := slc (q + base.length) 0 acc.length cp) (vy := slc (news.length + base.length) 0 1 1) (i := ti145) (j := ti115) (e := 115) tabOk hop hx hy rfl rfl rfl rfl rfl rfl (.row hg ?_ (by show _ = acc.length * 4; rw [hml]) (flatBW_clean acc)) ry (by omega) (by show (acc.length + 1) * 32 ≤ _; omega) (by omega) ?_
    · show ∀ (j : Nat) (x : Value), (flatBW acc)[j]? = some x → (⟨flatBW acc ++ rest⟩ : Array Value)[0 + j]? = some x
      intro j x hj
      rw [Nat.zero_add, List.getElem?_toArray]
      exact getL hj
    · intro cap hcap
      have e1 : flatBW acc ++ (wc b) ++ (Builtin.zeroCells ti115.zero.cells (cap - (acc.length + 1))).toList = flatBW (acc ++ [b]) ++ (Builtin.zeroCells ti115.zero.cells (cap - (acc.length + 1))).toList := by rw [flatBW_app]; simp [flatBW]
      rw [e1]
      have := h (news ++ [Obj.cells ⟨(wc b)⟩ 115] ++ [Obj.cells ⟨flatBW (acc ++ [b]) ++ (Builtin.zeroCells ti115.zero.cells (cap - (acc.length + 1))).toList⟩ 115]) (news.length + 1) cap ⟨by simp, (Builtin.zeroCells ti115.zero.cells (cap - (acc.length + 1))).toList, ?_, ?_, ?_⟩
      · rw [hal] at this
        have e4 : s.h.length = news.length + 1 + base.length := by omega
        unfold grow
        rw [e4, hs]
        rw [show base ++ (news ++ [Obj.cells ⟨(wc b)⟩ 115] ++ [Obj.cells ⟨flatBW (acc ++ [b]) ++ (Builtin.zeroCells ti115.zero.cells (cap - (acc.length + 1))).toList⟩ 115]) = base ++ (news ++ [Obj.cells ⟨(wc b)⟩ 115]) ++ [Obj.cells ⟨flatBW (acc ++ [b]) ++ (Builtin.zeroCells ti115.zero.cells (cap - (acc.length + 1))).toList⟩ 115] from by simp] at this
        exact this
      · rw [List.getElem?_append_right (by simp)]
        simp
      · rw [zeros_len, zeros115, hal]
        omega
      · exact zeros_cleanI ti115.zero.cells rfl _
end
end Go.Proofs.YtjpjnjidchdlbaaDoor

/-
  A row of vectors that grows (no condition).
-/
namespace Go.Proofs.YtjpjnjidchdlbaaDoor
set_option linter.unusedSimpArgs false
set_option linter.unusedVariables false
open Go
set_option maxRecDepth 100000
set_option maxHeartbeats 4000000
/-- a vector's numbers -/
structure Vc where
  x : Int
  y : Int
  z : Int
def vc (v : Vc) : List Value := [I64 v.x, I64 v.y, I64 v.z]
def flatBT (l : List Vc) : List Value := l.flatMap vc
theorem flatBT_len : ∀ l : List Vc, (flatBT l).length = l.length * 3
  | [] => rfl
  | b :: l => by
    show ((vc b) ++ flatBT l).length = _
    rw [List.length_append, flatBT_len l]
    show 3 + l.length * 3 = (l.length + 1) * 3
    omega
theorem flatBT_at : ∀ (l : List Vc) (i q : Nat), q < 3 → (flatBT l)[i * 3 + q]? = (l[i]?).bind fun b => (vc b)[q]?
  | [], i, q, _ => by simp [flatBT]
  | b :: l, 0, q, hq => by
    show ((vc b) ++ flatBT l)[0 * 3 + q]? = _
    rw [List.getElem?_append_left (by show 0 * 3 + q < 3; omega), Nat.zero_mul, Nat.zero_add]
    rfl
  | b :: l, i + 1, q, hq => by
    show ((vc b) ++ flatBT l)[(i + 1) * 3 + q]? = _
    rw [List.getElem?_append_right (by show 3 ≤ _; omega), show (i + 1) * 3 + q - (vc b).length = i * 3 + q from by show (i + 1) * 3 + q - 3 = _; omega, flatBT_at l i q hq]
    simp
theorem flatBT_clean (l : List Vc) : ∀ x ∈ flatBT l, cleanV x = true := by
  intro x hx
  obtain ⟨b, _, hb⟩ := List.mem_flatMap.1 hx
  simp [vc] at hb
  rcases hb with rfl | rfl | rfl <;> rfl
theorem flatBT_app (l m : List Vc) : flatBT (l ++ m) = flatBT l ++ flatBT m := by simp [flatBT]
theorem zeros59 : ti59.zero.cells.size = 3 := rfl
/-- the bodies acc lie in block q of news, with room behind -/
structure AccBT (news : List Obj) (q cp : Nat) (acc : List Vc) : Prop where
  pos : 1 ≤ acc.length
  at_ : ∃ rest : List Value, news[q]? = some (.cells ⟨flatBT acc ++ rest⟩ 59) ∧ acc.length * 3 + rest.length = cp * 3 ∧ ∀ x ∈ rest, cleanV x = true
/-- w is nil, or such a row -/
def AccVT (m : Nat) (news : List Obj) (w : Value) (acc : List Vc) : Prop := (w = .slice none 0 0 ∧ acc = []) ∨ ∃ q cp, w = slc (q + m) 0 acc.length cp ∧ AccBT news q cp acc
theorem AccBT.le {news : List Obj} {q cp : Nat} {acc : List Vc} (H : AccBT news q cp acc) : acc.length ≤ cp := by
  obtain ⟨_, rest, _, h, _⟩ := H
  omega
section
variable {G : List (Nat × Obj)} {ro : Option Nat}
theorem ao_pushBT {o : Oper} {x y : Operand} (hop : o.op = .call ⟨.builtin .append, #[x, y], #[78, 78]⟩) {m : Nat} (base : List Obj) (hm : base.length = m) {news : List Obj} {w : Value} {acc : List Vc} {b : Vc} (hV : AccVT m news w acc)
    {s : St} (hs : s.h = base ++ (news ++ [.cells ⟨(vc b)⟩ 59])) (hx : evK s x fun v => v = w) (hy : evK s y fun v => v = slc (news.length + m) 0 1 1) (hb : acc.length ≤ 1000000000000)
    {K : St → Prop} (h : ∀ news' q' cp', AccBT news' q' cp' (acc ++ [b]) → putK ⟨s.t, base ++ news', s.d⟩ o.dst (slc (q' + m) 0 (acc ++ [b]).length cp') K) : AO Tryd.prog G ro o s K := by
  subst hm
  have hx1 : s.h[news.length + base.length]? = some (.cells ⟨(vc b)⟩ 59) := by
    rw [hs, List.getElem?_append_right (by omega), Nat.add_sub_cancel, List.getElem?_append_right (Nat.le_refl _), Nat.sub_self]
    rfl
  have hlen : s.h.length = base.length + (news.length + 1) := by rw [hs, List.length_append, List.length_append]; rfl
  have hal : (acc ++ [b]).length = acc.length + 1 := by simp
  have ry : RowIs s.h 3 (slc (news.length + base.length) 0 1 1) 1 (vc b) := .row hx1 (by
    show ∀ (j : Nat) (x : Value), (vc b)[j]? = some x → (⟨(vc b)⟩ : Array Value)[0 + j]? = some x
    intro j x hj
    rw [Nat.zero_add, List.getElem?_toArray]
    exact hj) rfl (by simp [cleanV, vc])
  rcases hV with ⟨rfl, rfl⟩ | ⟨q, cp, rfl, hpos, rest, hq, hr, hrc⟩
  · refine ao_grow (lx := 0) (cx := 0) (ly := 1) (olds := []) (news := (vc b)) (px := none) (vx := .slice none 0 0) (vy := slc (news.length + base.length) 0 1 1) (i := ti78) (j := ti59) (e := 59) tabOk hop hx hy rfl rfl rfl rfl rfl rfl (.nil 0) ry (by omega) (by show (0 + 1) * 24 ≤ _; omega) (by omega) ?_
    intro cap hcap
    have := h (news ++ [Obj.cells ⟨(vc b)⟩ 59] ++ [Obj.cells ⟨[] ++ (vc b) ++ (Builtin.zeroCells ti59.zero.cells (cap - (0 + 1))).toList⟩ 59]) (news.length + 1) cap ⟨by simp, (Builtin.zeroCells ti59.zero.cells (cap - (0 + 1))).toList, ?_, ?_, ?_⟩
    · have e4 : s.h.length = news.length + 1 + base.length := by omega
      unfold grow
      rw [e4, hs]
      rw [show base ++ (news ++ [Obj.cells ⟨(vc b)⟩ 59] ++ [Obj.cells ⟨[] ++ (vc b) ++ (Builtin.zeroCells ti59.zero.cells (cap - (0 + 1))).toList⟩ 59]) = base ++ (news ++ [Obj.cells ⟨(vc b)⟩ 59]) ++ [Obj.cells ⟨[] ++ (vc b) ++ (Builtin.zeroCells ti59.zero.cells (cap - (0 + 1))).toList⟩ 59] from by simp] at this
      exact this
    · rw [List.getElem?_append_right (by simp)]
      simp [flatBT]
    · rw [zeros_len, zeros59]
      simp
      omega
    · exact zeros_cleanI ti59.zero.cells rfl _
  have hml : (flatBT acc).length = acc.length * 3 := flatBT_len acc
  have hql : q < news.length := (List.getElem?_eq_some_iff.1 hq).1
  have hg : s.h[q + base.length]? = some (.cells ⟨flatBT acc ++ rest⟩ 59) := by
    rw [hs, List.getElem?_append_right (by omega), Nat.add_sub_cancel, List.getElem?_append_left hql]
    exact hq
  by_cases hroom : acc.length + 1 ≤ cp
  · obtain ⟨u, rest', hu, rfl⟩ : ∃ u rest' : List Value, u.length = 3 ∧ rest = u ++ rest' := ⟨rest.take 3, rest.drop 3, by simp; omega, (List.take_append_drop _ _).symm⟩
    refine ao_room (b := q + base.length) (off := 0) (lx := acc.length) (cx := cp) (ly := 1) (news := (vc b)) (vy := slc (news.length + base.length) 0 1 1) (i := ti78) (j := ti59) (e := 59) tabOk hop hx hy rfl rfl rfl rfl rfl hg rfl ry hroom ?_ ?_
    · show 0 + (acc.length + 1) * 3 ≤ (flatBT acc ++ (u ++ rest')).length
      rw [List.length_append, hml, List.length_append, hu]
      omega
    · have e1 : (⟨(⟨flatBT acc ++ (u ++ rest')⟩ : Array Value).toList.take (0 + acc.length * ti59.size) ++ (vc b) ++ (⟨flatBT acc ++ (u ++ rest')⟩ : Array Value).toList.drop (0 + acc.length * ti59.size + (vc b).length)⟩ : Array Value) = ⟨flatBT (acc ++ [b]) ++ rest'⟩ := by
        have e2 : 0 + acc.length * ti59.size = (flatBT acc).length := by show 0 + acc.length * 3 = _; rw [hml]; omega
        have e3 : (flatBT acc).length + (vc b).length = (flatBT acc ++ u).length := by rw [List.length_append, hu]; rfl
        rw [e2, e3]
        show (⟨(flatBT acc ++ (u ++ rest')).take (flatBT acc).length ++ (vc b) ++ (flatBT acc ++ (u ++ rest')).drop (flatBT acc ++ u).length⟩ : Array Value) = _
        rw [List.take_left, ← List.append_assoc (flatBT acc) u, List.drop_left, flatBT_app]
        simp [flatBT]
      rw [e1]
      have e3 : s.h.set (q + base.length) (Obj.cells ⟨flatBT (acc ++ [b]) ++ rest'⟩ 59) = base ++ ((news ++ [Obj.cells ⟨(vc b)⟩ 59]).set q (Obj.cells ⟨flatBT (acc ++ [b]) ++ rest'⟩ 59)) := by
        rw [hs, List.set_append_right _ _ (by omega), Nat.add_sub_cancel]
      have := h ((news ++ [Obj.cells ⟨(vc b)⟩ 59]).set q (Obj.cells ⟨flatBT (acc ++ [b]) ++ rest'⟩ 59)) q cp ⟨by simp, rest', ?_, ?_, ?_⟩
      · rw [← e3, hal] at this
        exact this
      · rw [List.getElem?_set_self (by simp; omega)]
      · rw [hal]
        rw [List.length_append, hu] at hr
        omega
      · intro y hy'
        exact hrc y (by simp [hy'])
  · refine ao_grow (lx := acc.length) (cx := cp) (ly := 1) (olds := flatBT acc) (news := (vc b)) (px := some ⟨q + base.length, 0, some 0⟩) (vx := slc (q + base.length) 0 acc.length cp) (vy := slc (news.length + base.length) 0 1 1) (i := ti78) (j := ti59) (e := 59) tabOk hop hx hy rfl rfl rfl rfl rfl rfl (.row hg ?_ (by show _ = acc.length * 3; rw [hml]) (flatBT_clean acc)) ry (by omega) (by show (acc.length + 1) * 24 ≤ _; omega) (by omega) ?_
    · show ∀ (j : Nat) (x : Value), (flatBT acc)[j]? = some x → (⟨flatBT acc ++ rest⟩ : Array Value)[0 + j]? = some x
      intro j x hj
      rw [Nat.zero_add, List.getElem?_toArray]
      exact getL hj
    · intro cap hcap
      have e1 : flatBT acc ++ (vc b) ++ (Builtin.zeroCells ti59.zero.cells (cap - (acc.length + 1))).toList = flatBT (acc ++ [b]) ++ (Builtin.zeroCells ti59.zero.cells (cap - (acc.length + 1))).toList := by rw [flatBT_app]; simp [flatBT]
      rw [e1]
      have := h (news ++ [Obj.cells ⟨(vc b)⟩ 59] ++ [Obj.cells ⟨flatBT (acc ++ [b]) ++ (Builtin.zeroCells ti59.zero.cells (cap - (acc.length + 1))).toList⟩ 59]) (news.length + 1) cap ⟨by simp, (Builtin.zeroCells ti59.zero.cells (cap - (acc.length + 1))).toList, ?_, ?_, ?_⟩
      · rw [hal] at this
        have e4 : s.h.length = news.length + 1 + base.length := by omega
        unfold grow
        rw [e4, hs]
        rw [show base ++ (news ++ [Obj.cells ⟨(vc b)⟩ 59] ++ [Obj.cells ⟨flatBT (acc ++ [b]) ++ (Builtin.zeroCells ti59.zero.cells (cap - (acc.length + 1))).toList⟩ 59]) = base ++ (news ++ [Obj.cells ⟨(vc b)⟩ 59]) ++ [Obj.cells ⟨flatBT (acc ++ [b]) ++ (Builtin.zeroCells ti59.zero.cells (cap - (acc.length + 1))).toList⟩ 59] from by simp] at this
        exact this
      · rw [List.getElem?_append_right (by simp)]
        simp
      · rw [zeros_len, zeros59, hal]
        omega
      · exact zeros_cleanI ti59.zero.cells rfl _
end
end Go.Proofs.YtjpjnjidchdlbaaDoor

/-
  Wide numbers: plain (no condition).
-/
namespace Go.Proofs.YtjpjnjidchdlbaaDoor
set_option linter.unusedSimpArgs false
set_option linter.unusedVariables false
open Go
set_option maxRecDepth 100000
set_option maxHeartbeats 4000000
theorem has132 : Has Tryd.prog 132 Tryd.f132 := ⟨Tryd.func132, by kernel_rfl, by kernel_rfl⟩
def dblN (b j : Nat) : Nat := b * 2 ^ j
/-- whether the doubling stops here -/
def stopW (a b j : Nat) : Bool := match addF (dblN b j) (dblN b j) with
  | true => true
  | false => decide (cmpW (addN (dblN b j) (dblN b j)) a > 0)
def kOf (a b : Nat) : Nat → Nat → Nat
  | 0, j => j
  | f + 1, j => match stopW a b j with
    | true => j
    | false => kOf a b f (j + 1)
def dblR (b k : Nat) : List Nat := (List.range (k + 1)).map (dblN b)
theorem dblR_len (b k : Nat) : (dblR b k).length = k + 1 := by simp [dblR]
theorem dblR_s (b k : Nat) : dblR b k ++ [dblN b (k + 1)] = dblR b (k + 1) := by
  unfold dblR
  rw [List.range_succ (n := k + 1), List.map_append]
  rfl
theorem dblR_at (b k : Nat) {j : Nat} (h : j ≤ k) : (dblR b k)[j]? = some (dblN b j) := by
  unfold dblR
  rw [List.getElem?_map, List.getElem?_range (by omega)]
  rfl
theorem AccBW.app {news : List Obj} {q cp : Nat} {acc : List Nat} (H : AccBW news q cp acc) (xs : List Obj) : AccBW (news ++ xs) q cp acc := by
  obtain ⟨h1, rest, h2, h3⟩ := H
  exact ⟨h1, rest, by rw [List.getElem?_append_left (List.getElem?_eq_some_iff.1 h2).1]; exact h2, h3⟩
theorem AccBW.at {news : List Obj} {q cp : Nat} {acc : List Nat} (H : AccBW news q cp acc) {i n : Nat} (hi : acc[i]? = some n) : ∃ c, news[q]? = some (.cells c 115) ∧ ∀ (j : Nat) (v : Value), (wc n)[j]? = some v → c[0 + i * 4 + j]? = some v := by
  obtain ⟨_, rest, h1, h2, h3⟩ := H
  refine ⟨_, h1, fun j v hj => ?_⟩
  have hj4 : j < 4 := (List.getElem?_eq_some_iff.1 hj).1
  have hl : i < acc.length := (List.getElem?_eq_some_iff.1 hi).1
  rw [Nat.zero_add, List.getElem?_toArray, List.getElem?_append_left (by rw [flatBW_len]; omega), flatBW_at acc i j hj4, hi]
  exact hj
/-- one step of the division -/
def divS (b j : Nat) (s : Nat × Nat) : Nat × Nat := match decide (cmpW (dblN b j) s.2 ≤ 0) with
  | true => (addN (addN s.1 s.1) 1, subN s.2 (dblN b j))
  | false => (addN s.1 s.1, s.2)
def divG (b : Nat) : Nat → Nat × Nat → Nat × Nat
  | 0, s => s
  | j + 1, s => divG b j (divS b j s)
def plainN (a b : Nat) : Nat × Nat := divG b (kOf a b 300 0 + 1) (0, a)
theorem Lies.refl (h : List Obj) : Lies h h := by
  have := Lies.same h []
  rwa [List.append_nil] at this
theorem lastL {α : Type} {l : List α} {x : α} : (l ++ [x])[l.length]? = some x := by simp
theorem write_last {α : Type} {l : List α} {x y : α} {k : List α → Prop} (h : k (l ++ [y])) : writeK (l ++ [x]) l.length [y] k := by
  rw [writeK_iff]
  refine ⟨by simp, ?_⟩
  simpa using h
theorem dbl_s (b j : Nat) : dblN b (j + 1) = 2 * dblN b j := by unfold dblN; rw [Nat.pow_succ, ← Nat.mul_assoc, Nat.mul_comm]
theorem dbl_bd {b j : Nat} (hb : 0 < b) (h : dblN b j < 57896044618658097711785492504343953926634992332820282019728792003956564819968) : j < 255 := by
  unfold dblN at h
  have h1 : 2 ^ j ≤ b * 2 ^ j := Nat.le_mul_of_pos_left _ hb
  have h2 : 2 ^ j < 2 ^ 255 := Nat.lt_of_le_of_lt h1 (by rw [show (2 : Nat) ^ 255 = 57896044618658097711785492504343953926634992332820282019728792003956564819968 from by decide]; exact h)
  exact (Nat.pow_lt_pow_iff_right (by decide)).1 h2
theorem plain_n (G) {a b : Nat} (ha : a < MW) (h0 : 0 < b) (h1 : b < 57896044618658097711785492504343953926634992332820282019728792003956564819968) : AC Tryd.prog G 132 [wv a, wv b] [] (fun v h => v = .tuple #[wv (plainN a b).1, wv (plainN a b).2] ∧ h = []) := by
  refine ac_of_body tabOk has132 ?_
  unfold BodyOk
  conv => whnf
  have hdb : dblN b 0 = b := by unfold dblN; omega
  refine aw_inv tabOk [[false, false, true, true, true, true, true, false, false, false, false, false, false, false, false, false], [false, false, false, false, false, false, false, false, false, false, false, false, false, false, false, false], [false, false, false, false, false, false, false, false, false, false, false, false, false, false, false, false], [false, false, false, false, false, false, false, false, false, false, false, false, false, false, false, false], [false, false, false, false]] (fun m s' => ∃ (k q cp : Nat) (news : List Obj), m = 300 - k ∧ AccBW news q cp (dblR b k) ∧ dblN b k < 57896044618658097711785492504343953926634992332820282019728792003956564819968 ∧ kOf a b (300 - k) k = kOf a b 300 0 ∧
    s' = ⟨[[.chan none, .chan none, ptr 0 0, ptr 1 0, ptr 2 0, ptr 3 0, slc (q + 4) 0 (k + 1) cp, .chan none, .chan none, .chan none, .chan none, .chan none, .chan none, .chan none, .chan none, .chan none],
      [.chan none, .chan none, .chan none, .chan none, .chan none, .chan none, .chan none, .chan none, .chan none, .chan none, .chan none, .chan none, .chan none, .chan none, .chan none, .chan none],
      [.chan none, .chan none, .chan none, .chan none, .chan none, .chan none, .chan none, .chan none, .chan none, .chan none, .chan none, .chan none, .chan none, .chan none, .chan none, .chan none],
      [.chan none, .chan none, .chan none, .chan none, .chan none, .chan none, .chan none, .chan none, .chan none, .chan none, .chan none, .chan none, .chan none, .chan none, .chan none, .chan none],
      [.chan none, .chan none, .chan none, .chan none]],
      Obj.cells #[U64 (wd a 0 : Nat), U64 (wd a 1 : Nat), U64 (wd a 2 : Nat), U64 (wd a 3 : Nat)] 115 :: Obj.cells #[U64 (wd b 0 : Nat), U64 (wd b 1 : Nat), U64 (wd b 2 : Nat), U64 (wd b 3 : Nat)] 115 :: .cells #[U64 0, U64 0, U64 0, U64 0] 115 :: .cells #[U64 0, U64 0, U64 0, U64 0] 115 :: news, []⟩) 300 ?_ ⟨0, 0, 1, [.cells ⟨wc b⟩ 115], rfl, ⟨by rw [dblR_len]; omega, [], by rw [show dblR b 0 = [dblN b 0] from rfl, hdb]; rfl, rfl, by simp⟩, by rw [hdb]; exact h1, rfl, rfl⟩
  rintro m s' ⟨k, q, cp, news, rfl, hA, hd, hk, rfl⟩
  have hk5 : k < 255 := dbl_bd h0 hd
  have hdM : dblN b k < MW := by unfold MW; omega
  obtain ⟨c, hc, hcv⟩ := hA.at (dblR_at b k (Nat.le_refl k))
  conv => whnf
  refine ad_of tabOk (by kernel_rfl) [(16, false), (0, false), (1, false), (2, false), (3, false), (4, false), (5, false), (6, false), (7, false), (8, false), (9, false), (10, false), (11, false), (12, false), (13, false), (14, false), (15, false), (17, false), (18, false)] (by kernel_rfl) ?_
  conv => whnf
  refine cnt_of ?_
  conv => whnf
  refine app_of ?_
  conv => whnf
  rw [show wrapS .i64 (((k + 1 : Nat) : Int) - 1) = ((k : Nat) : Int) from by rw [wrapI (by omega) (by omega)]; omega]
  refine way1 (by rw [decide_eq_true_iff]; omega) ?_
  conv => whnf
  refine nthK_of hc ?_
  conv => whnf
  refine cells_part hcv rfl (Nat.zero_lt_succ 3) ?_
  conv => whnf
  rw [show wrapS .i64 (((k + 1 : Nat) : Int) - 1) = ((k : Nat) : Int) from by rw [wrapI (by omega) (by omega)]; omega]
  refine way1 (by rw [decide_eq_true_iff]; omega) ?_
  conv => whnf
  refine nthK_of hc ?_
  conv => whnf
  refine cells_part hcv rfl (Nat.zero_lt_succ 3) ?_
  conv => whnf
  refine quiet_of (Add_n G hdM) rfl ?_
  rintro v h' ⟨rfl, rfl⟩
  refine ⟨rfl, rfl, ?_⟩
  conv => whnf
  refine nthK_of lastL ?_
  conv => whnf
  refine write_last ?_
  conv => whnf
  refine ⟨Lies.same _ [_], ?_⟩
  conv => whnf
  refine ways (fun hs => ?_) (fun hs => ?_) <;> conv => whnf
  · skip
    have hst : stopW a b k = true := by unfold stopW; rw [hs]
    have hkk : kOf a b 300 0 = k := by
      rw [← hk, show 300 - k = (300 - (k + 1)) + 1 from by omega]
      unfold kOf
      rw [hst]
    refine cnt_of ?_
    conv => whnf
    refine app_of ?_
    conv => whnf
    refine aw_inv tabOk [[false, false, true, true, true, true, true, false, false, true, true, false, false, false, false, false], [false, false, false, false, false, false, false, false, false, false, false, false, false, false, false, false], [false, false, false, false, false, false, false, false, false, false, false, false, false, false, false, false], [false, false, false, false, false, false, false, false, false, false, false, false, false, false, false, false], [false, false, false, false]] (fun m s' => ∃ (i u v : Nat), m = i ∧ i ≤ k + 1 ∧ u < MW ∧ v < MW ∧ divG b i (u, v) = divG b (k + 1) (0, a) ∧
      s' = ⟨[[.chan none, .chan none, ptr 0 0, ptr 1 0, ptr 2 0, ptr 3 0, slc (q + 4) 0 (k + 1) cp, .chan none, .chan none, ptr ((news ++ [Obj.cells #[U64 (wd (addN (dblN b k) (dblN b k)) 0 : Nat), U64 (wd (addN (dblN b k) (dblN b k)) 1 : Nat), U64 (wd (addN (dblN b k) (dblN b k)) 2 : Nat), U64 (wd (addN (dblN b k) (dblN b k)) 3 : Nat)] 115]).length + 4) 0, I64 ((i : Int) - 1), .chan none, .chan none, .chan none, .chan none, .chan none],
        [.chan none, .chan none, .chan none, .chan none, .chan none, .chan none, .chan none, .chan none, .chan none, .chan none, .chan none, .chan none, .chan none, .chan none, .chan none, .chan none],
        [.chan none, .chan none, .chan none, .chan none, .chan none, .chan none, .chan none, .chan none, .chan none, .chan none, .chan none, .chan none, .chan none, .chan none, .chan none, .chan none],
        [.chan none, .chan none, .chan none, .chan none, .chan none, .chan none, .chan none, .chan none, .chan none, .chan none, .chan none, .chan none, .chan none, .chan none, .chan none, .chan none],
        [.chan none, .chan none, .chan none, .chan none]],
        Obj.cells #[U64 (wd v 0 : Nat), U64 (wd v 1 : Nat), U64 (wd v 2 : Nat), U64 (wd v 3 : Nat)] 115 :: Obj.cells #[U64 (wd b 0 : Nat), U64 (wd b 1 : Nat), U64 (wd b 2 : Nat), U64 (wd b 3 : Nat)] 115 :: .cells #[U64 0, U64 0, U64 0, U64 0] 115 :: .cells #[U64 0, U64 0, U64 0, U64 0] 115 :: ((news ++ [Obj.cells #[U64 (wd (addN (dblN b k) (dblN b k)) 0 : Nat), U64 (wd (addN (dblN b k) (dblN b k)) 1 : Nat), U64 (wd (addN (dblN b k) (dblN b k)) 2 : Nat), U64 (wd (addN (dblN b k) (dblN b k)) 3 : Nat)] 115]) ++ [Obj.cells #[U64 (wd u 0 : Nat), U64 (wd u 1 : Nat), U64 (wd u 2 : Nat), U64 (wd u 3 : Nat)] 115]), []⟩) (k + 1) ?_ ⟨k + 1, 0, a, rfl, Nat.le_refl _, by decide, ha, rfl, by
      rw [show wrapS .i64 (((k + 1 : Nat) : Int) - 1) = ((k + 1 : Nat) : Int) - 1 from by rw [wrapI (by omega) (by omega)]]
      rfl⟩
    rintro i s' ⟨_, u, v, rfl, hi, hs1, hs2, hdv, rfl⟩
    conv => whnf
    refine ways (fun hi0 => ?_) (fun hi0 => ?_) <;> conv => whnf
    · obtain ⟨j, rfl⟩ : ∃ j, i = j + 1 := ⟨i - 1, by have := of_decide_eq_true hi0; omega⟩
      have hjk : j ≤ k := by omega
      obtain ⟨c2, hc2, hcv2⟩ := hA.at (dblR_at b k hjk)
      have hcc : ((news ++ [Obj.cells #[U64 (wd (addN (dblN b k) (dblN b k)) 0 : Nat), U64 (wd (addN (dblN b k) (dblN b k)) 1 : Nat), U64 (wd (addN (dblN b k) (dblN b k)) 2 : Nat), U64 (wd (addN (dblN b k) (dblN b k)) 3 : Nat)] 115]) ++ [Obj.cells #[U64 (wd (addN u u) 0 : Nat), U64 (wd (addN u u) 1 : Nat), U64 (wd (addN u u) 2 : Nat), U64 (wd (addN u u) 3 : Nat)] 115])[q]? = some (.cells c2 115) := getL (getL hc2)
      have hdj : dblN b j < MW := by
        have h3 : dblN b j ≤ dblN b k := Nat.mul_le_mul_left b (Nat.pow_le_pow_right (by decide) hjk)
        omega
      refine nthK_of lastL ?_
      conv => whnf
      refine nthK_of lastL ?_
      conv => whnf
      refine ac_pure (add_n G hs1) rfl ?_
      rintro v h' ⟨rfl, rfl⟩
      refine ⟨rfl, rfl, ?_⟩
      conv => whnf
      refine nthK_of lastL ?_
      conv => whnf
      refine write_last ?_
      conv => whnf
      refine ad_of tabOk (by kernel_rfl) [(0, false), (1, false), (2, false), (3, false), (4, false), (5, false), (6, false)] (by kernel_rfl) ?_
      conv => whnf
      rw [show ((j + 1 : Nat) : Int) - 1 = (j : Int) from by omega]
      refine way1 (by rw [decide_eq_true_iff]; omega) ?_
      conv => whnf
      refine nthK_of hcc ?_
      conv => whnf
      refine cells_part hcv2 rfl (Nat.zero_lt_succ 3) ?_
      conv => whnf
      refine quiet_of (Cmp_n G (dblN b j) v) rfl ?_
      rintro v h' ⟨rfl, rfl⟩
      refine ⟨rfl, rfl, ?_⟩
      conv => whnf
      refine ways (fun hc3 => ?_) (fun hc3 => ?_) <;> conv => whnf
      · skip
        refine ad_of tabOk (by kernel_rfl) [(0, false), (1, false), (2, false), (3, false), (4, false), (5, false), (6, true)] (by kernel_rfl) ?_
        conv => whnf
        refine way1 (by rw [decide_eq_true_iff]; omega) ?_
        conv => whnf
        refine nthK_of hcc ?_
        conv => whnf
        refine cells_part hcv2 rfl (Nat.zero_lt_succ 3) ?_
        conv => whnf
        refine quiet_of (sub_n G hdj) rfl ?_
        rintro v h' ⟨rfl, rfl⟩
        refine ⟨rfl, rfl, ?_⟩
        conv => whnf
        refine ad_of tabOk (by kernel_rfl) [(0, false), (1, false), (2, false), (3, true)] (by kernel_rfl) ?_
        conv => whnf
        refine nthK_of lastL ?_
        conv => whnf
        refine quiet_of (one_n G) rfl ?_
        rintro v h' ⟨rfl, rfl⟩
        refine ⟨rfl, rfl, ?_⟩
        conv => whnf
        refine quiet_of (add_n G (a := addN u u) (b := 1) (by decide)) rfl ?_
        rintro v h' ⟨rfl, rfl⟩
        refine ⟨rfl, rfl, ?_⟩
        conv => whnf
        refine nthK_of lastL ?_
        conv => whnf
        refine write_last ?_
        conv => whnf
        rw [show wrapS .i64 ((j : Int) - 1) = (j : Int) - 1 from by rw [wrapI (by omega) (by omega)]]
        exact ⟨j, by omega, j, _, _, rfl, by omega, addN_lt _ _, subN_lt _ _, by
          rw [← hdv]
          show _ = divG b j (divS b j (u, v))
          unfold divS
          rw [show decide (cmpW (dblN b j) v ≤ 0) = true from hc3], rfl⟩
      · rw [show wrapS .i64 ((j : Int) - 1) = (j : Int) - 1 from by rw [wrapI (by omega) (by omega)]]
        exact ⟨j, by omega, j, _, _, rfl, by omega, addN_lt _ _, hs2, by
          rw [← hdv]
          show _ = divG b j (divS b j (u, v))
          unfold divS
          rw [show decide (cmpW (dblN b j) v ≤ 0) = false from hc3], rfl⟩
    · obtain rfl : i = 0 := by have := of_decide_eq_false hi0; omega
      have hfin : (u, v) = plainN a b := by unfold plainN; rw [hkk]; exact hdv
      refine ad_hole [] (Obj.cells _ 115 :: Obj.cells _ 115 :: .deferred none :: .deferred none :: ((news ++ [Obj.cells #[U64 (wd (addN (dblN b k) (dblN b k)) 0 : Nat), U64 (wd (addN (dblN b k) (dblN b k)) 1 : Nat), U64 (wd (addN (dblN b k) (dblN b k)) 2 : Nat), U64 (wd (addN (dblN b k) (dblN b k)) 3 : Nat)] 115]) ++ [Obj.cells #[U64 (wd u 0 : Nat), U64 (wd u 1 : Nat), U64 (wd u 2 : Nat), U64 (wd u 3 : Nat)] 115])) tabOk (by kernel_rfl) [(0, false), (1, false), (2, false), (3, false)] (by kernel_rfl) ⟨.inl rfl, .inl rfl, .inr rfl, .inr rfl, Lies.refl _⟩ ?_
      conv => whnf
      refine nthK_of lastL ?_
      conv => whnf
      refine ⟨⟨.inl rfl, .inl rfl, .inr rfl, .inr rfl, Lies.refl _⟩, ?_⟩
      conv => whnf
      refine ⟨⟨.inl rfl, .inl rfl, .inr rfl, .inr rfl, Lies.refl _⟩, ?_⟩
      conv => whnf
      refine ⟨rfl, fin_turnedK rfl ?_⟩
      conv => whnf
      exact ⟨by rw [← hfin]; rfl, rfl⟩
  · skip
    refine nthK_of lastL ?_
    conv => whnf
    refine ac_pure (Cmp_n G (addN (dblN b k) (dblN b k)) a) rfl ?_
    rintro v h' ⟨rfl, rfl⟩
    refine ⟨rfl, rfl, ?_⟩
    conv => whnf
    refine ways (fun ht => ?_) (fun ht => ?_) <;> conv => whnf
    · skip
      have hst : stopW a b k = true := by unfold stopW; rw [hs]; exact ht
      have hkk : kOf a b 300 0 = k := by
        rw [← hk, show 300 - k = (300 - (k + 1)) + 1 from by omega]
        unfold kOf
        rw [hst]
      refine cnt_of ?_
      conv => whnf
      refine app_of ?_
      conv => whnf
      refine aw_inv tabOk [[false, false, true, true, true, true, true, false, false, true, true, false, false, false, false, false], [false, false, false, false, false, false, false, false, false, false, false, false, false, false, false, false], [false, false, false, false, false, false, false, false, false, false, false, false, false, false, false, false], [false, false, false, false, false, false, false, false, false, false, false, false, false, false, false, false], [false, false, false, false]] (fun m s' => ∃ (i u v : Nat), m = i ∧ i ≤ k + 1 ∧ u < MW ∧ v < MW ∧ divG b i (u, v) = divG b (k + 1) (0, a) ∧
        s' = ⟨[[.chan none, .chan none, ptr 0 0, ptr 1 0, ptr 2 0, ptr 3 0, slc (q + 4) 0 (k + 1) cp, .chan none, .chan none, ptr ((news ++ [Obj.cells #[U64 (wd (addN (dblN b k) (dblN b k)) 0 : Nat), U64 (wd (addN (dblN b k) (dblN b k)) 1 : Nat), U64 (wd (addN (dblN b k) (dblN b k)) 2 : Nat), U64 (wd (addN (dblN b k) (dblN b k)) 3 : Nat)] 115]).length + 4) 0, I64 ((i : Int) - 1), .chan none, .chan none, .chan none, .chan none, .chan none],
          [.chan none, .chan none, .chan none, .chan none, .chan none, .chan none, .chan none, .chan none, .chan none, .chan none, .chan none, .chan none, .chan none, .chan none, .chan none, .chan none],
          [.chan none, .chan none, .chan none, .chan none, .chan none, .chan none, .chan none, .chan none, .chan none, .chan none, .chan none, .chan none, .chan none, .chan none, .chan none, .chan none],
          [.chan none, .chan none, .chan none, .chan none, .chan none, .chan none, .chan none, .chan none, .chan none, .chan none, .chan none, .chan none, .chan none, .chan none, .chan none, .chan none],
          [.chan none, .chan none, .chan none, .chan none]],
          Obj.cells #[U64 (wd v 0 : Nat), U64 (wd v 1 : Nat), U64 (wd v 2 : Nat), U64 (wd v 3 : Nat)] 115 :: Obj.cells #[U64 (wd b 0 : Nat), U64 (wd b 1 : Nat), U64 (wd b 2 : Nat), U64 (wd b 3 : Nat)] 115 :: .cells #[U64 0, U64 0, U64 0, U64 0] 115 :: .cells #[U64 0, U64 0, U64 0, U64 0] 115 :: ((news ++ [Obj.cells #[U64 (wd (addN (dblN b k) (dblN b k)) 0 : Nat), U64 (wd (addN (dblN b k) (dblN b k)) 1 : Nat), U64 (wd (addN (dblN b k) (dblN b k)) 2 : Nat), U64 (wd (addN (dblN b k) (dblN b k)) 3 : Nat)] 115]) ++ [Obj.cells #[U64 (wd u 0 : Nat), U64 (wd u 1 : Nat), U64 (wd u 2 : Nat), U64 (wd u 3 : Nat)] 115]), []⟩) (k + 1) ?_ ⟨k + 1, 0, a, rfl, Nat.le_refl _, by decide, ha, rfl, by
        rw [show wrapS .i64 (((k + 1 : Nat) : Int) - 1) = ((k + 1 : Nat) : Int) - 1 from by rw [wrapI (by omega) (by omega)]]
        rfl⟩
      rintro i s' ⟨_, u, v, rfl, hi, hs1, hs2, hdv, rfl⟩
      conv => whnf
      refine ways (fun hi0 => ?_) (fun hi0 => ?_) <;> conv => whnf
      · obtain ⟨j, rfl⟩ : ∃ j, i = j + 1 := ⟨i - 1, by have := of_decide_eq_true hi0; omega⟩
        have hjk : j ≤ k := by omega
        obtain ⟨c2, hc2, hcv2⟩ := hA.at (dblR_at b k hjk)
        have hcc : ((news ++ [Obj.cells #[U64 (wd (addN (dblN b k) (dblN b k)) 0 : Nat), U64 (wd (addN (dblN b k) (dblN b k)) 1 : Nat), U64 (wd (addN (dblN b k) (dblN b k)) 2 : Nat), U64 (wd (addN (dblN b k) (dblN b k)) 3 : Nat)] 115]) ++ [Obj.cells #[U64 (wd (addN u u) 0 : Nat), U64 (wd (addN u u) 1 : Nat), U64 (wd (addN u u) 2 : Nat), U64 (wd (addN u u) 3 : Nat)] 115])[q]? = some (.cells c2 115) := getL (getL hc2)
        have hdj : dblN b j < MW := by
          have h3 : dblN b j ≤ dblN b k := Nat.mul_le_mul_left b (Nat.pow_le_pow_right (by decide) hjk)
          omega
        refine nthK_of lastL ?_
        conv => whnf
        refine nthK_of lastL ?_
        conv => whnf
        refine ac_pure (add_n G hs1) rfl ?_
        rintro v h' ⟨rfl, rfl⟩
        refine ⟨rfl, rfl, ?_⟩
        conv => whnf
        refine nthK_of lastL ?_
        conv => whnf
        refine write_last ?_
        conv => whnf
        refine ad_of tabOk (by kernel_rfl) [(0, false), (1, false), (2, false), (3, false), (4, false), (5, false), (6, false)] (by kernel_rfl) ?_
        conv => whnf
        rw [show ((j + 1 : Nat) : Int) - 1 = (j : Int) from by omega]
        refine way1 (by rw [decide_eq_true_iff]; omega) ?_
        conv => whnf
        refine nthK_of hcc ?_
        conv => whnf
        refine cells_part hcv2 rfl (Nat.zero_lt_succ 3) ?_
        conv => whnf
        refine quiet_of (Cmp_n G (dblN b j) v) rfl ?_
        rintro v h' ⟨rfl, rfl⟩
        refine ⟨rfl, rfl, ?_⟩
        conv => whnf
        refine ways (fun hc3 => ?_) (fun hc3 => ?_) <;> conv => whnf
        · skip
          refine ad_of tabOk (by kernel_rfl) [(0, false), (1, false), (2, false), (3, false), (4, false), (5, false), (6, true)] (by kernel_rfl) ?_
          conv => whnf
          refine way1 (by rw [decide_eq_true_iff]; omega) ?_
          conv => whnf
          refine nthK_of hcc ?_
          conv => whnf
          refine cells_part hcv2 rfl (Nat.zero_lt_succ 3) ?_
          conv => whnf
          refine quiet_of (sub_n G hdj) rfl ?_
          rintro v h' ⟨rfl, rfl⟩
          refine ⟨rfl, rfl, ?_⟩
          conv => whnf
          refine ad_of tabOk (by kernel_rfl) [(0, false), (1, false), (2, false), (3, true)] (by kernel_rfl) ?_
          conv => whnf
          refine nthK_of lastL ?_
          conv => whnf
          refine quiet_of (one_n G) rfl ?_
          rintro v h' ⟨rfl, rfl⟩
          refine ⟨rfl, rfl, ?_⟩
          conv => whnf
          refine quiet_of (add_n G (a := addN u u) (b := 1) (by decide)) rfl ?_
          rintro v h' ⟨rfl, rfl⟩
          refine ⟨rfl, rfl, ?_⟩
          conv => whnf
          refine nthK_of lastL ?_
          conv => whnf
          refine write_last ?_
          conv => whnf
          rw [show wrapS .i64 ((j : Int) - 1) = (j : Int) - 1 from by rw [wrapI (by omega) (by omega)]]
          exact ⟨j, by omega, j, _, _, rfl, by omega, addN_lt _ _, subN_lt _ _, by
            rw [← hdv]
            show _ = divG b j (divS b j (u, v))
            unfold divS
            rw [show decide (cmpW (dblN b j) v ≤ 0) = true from hc3], rfl⟩
        · rw [show wrapS .i64 ((j : Int) - 1) = (j : Int) - 1 from by rw [wrapI (by omega) (by omega)]]
          exact ⟨j, by omega, j, _, _, rfl, by omega, addN_lt _ _, hs2, by
            rw [← hdv]
            show _ = divG b j (divS b j (u, v))
            unfold divS
            rw [show decide (cmpW (dblN b j) v ≤ 0) = false from hc3], rfl⟩
      · obtain rfl : i = 0 := by have := of_decide_eq_false hi0; omega
        have hfin : (u, v) = plainN a b := by unfold plainN; rw [hkk]; exact hdv
        refine ad_hole [] (Obj.cells _ 115 :: Obj.cells _ 115 :: .deferred none :: .deferred none :: ((news ++ [Obj.cells #[U64 (wd (addN (dblN b k) (dblN b k)) 0 : Nat), U64 (wd (addN (dblN b k) (dblN b k)) 1 : Nat), U64 (wd (addN (dblN b k) (dblN b k)) 2 : Nat), U64 (wd (addN (dblN b k) (dblN b k)) 3 : Nat)] 115]) ++ [Obj.cells #[U64 (wd u 0 : Nat), U64 (wd u 1 : Nat), U64 (wd u 2 : Nat), U64 (wd u 3 : Nat)] 115])) tabOk (by kernel_rfl) [(0, false), (1, false), (2, false), (3, false)] (by kernel_rfl) ⟨.inl rfl, .inl rfl, .inr rfl, .inr rfl, Lies.refl _⟩ ?_
        conv => whnf
        refine nthK_of lastL ?_
        conv => whnf
        refine ⟨⟨.inl rfl, .inl rfl, .inr rfl, .inr rfl, Lies.refl _⟩, ?_⟩
        conv => whnf
        refine ⟨⟨.inl rfl, .inl rfl, .inr rfl, .inr rfl, Lies.refl _⟩, ?_⟩
        conv => whnf
        refine ⟨rfl, fin_turnedK rfl ?_⟩
        conv => whnf
        exact ⟨by rw [← hfin]; rfl, rfl⟩
    · skip
      refine nthK_of lastL ?_
      conv => whnf
      refine cnt_of ?_
      conv => whnf
      refine app_of ?_
      conv => whnf
      have hsf : stopW a b k = false := by unfold stopW; rw [hs]; exact ht
      obtain ⟨e1, e2⟩ := dbl_ok hd hs
      rw [← dbl_s] at e1 e2
      refine ao_pushBW (m := 4) rfl [_, _, _, _] rfl (b := addN (dblN b k) (dblN b k)) (.inr ⟨q, cp, rfl, hA.app [_]⟩) rfl (by (conv => whnf); exact congrArg (fun n => slc (q + 4) 0 n cp) (dblR_len b k).symm) (by (conv => whnf) <;> rfl) (by rw [dblR_len]; omega) ?_
      intro news' q' cp' hA'
      rw [e1, dblR_s] at hA'
      conv => whnf
      refine ⟨300 - (k + 1), by omega, k + 1, q', cp', news', rfl, hA', e2, ?_, ?_⟩
      · rw [← hk, show 300 - k = (300 - (k + 1)) + 1 from by omega]
        conv => rhs; unfold kOf
        rw [hsf]
      · rw [e1, dblR_s, dblR_len]
        rfl
end Go.Proofs.YtjpjnjidchdlbaaDoor
