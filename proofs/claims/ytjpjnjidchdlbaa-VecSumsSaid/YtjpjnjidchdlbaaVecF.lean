/-
  Under small: no wrap wraps (plain laws, and the contracts in whole numbers).
-/
import Derived.Test.YtjpjnjidchdlbaaVecE
namespace Go.Proofs.Ytjpjnjidchdlbaa
set_option linter.unusedSimpArgs false
set_option linter.unusedVariables false
open Go
theorem wrapS_id {n : Int} (h1 : -9223372036854775808 ≤ n) (h2 : n ≤ 9223372036854775807) : wrapS .i64 n = n := by
  cases n with
  | ofNat m =>
    have hm : m ≤ 9223372036854775807 := by have : (Int.ofNat m) = (m : Int) := rfl; omega
    simp only [wrapS, modN, foldN, halfN]
    rw [Nat.mod_eq_of_lt (by omega)]
    have : Nat.ble 9223372036854775808 m = false := by
      cases hb : Nat.ble 9223372036854775808 m with
      | false => rfl
      | true => have := Nat.le_of_ble_eq_true hb; omega
    rw [this]
  | negSucc m =>
    have hm : m ≤ 9223372036854775807 := by omega
    simp only [wrapS, modN, foldN, halfN]
    rw [Nat.mod_eq_of_lt (by omega)]
    have : Nat.ble 9223372036854775808 (18446744073709551616 - 1 - m) = true := Nat.ble_eq_true_of_le (by omega)
    rw [this]
    simp only []
    congr 1
    omega
theorem rwin_spec {x : Int} (h : rwin 16384 x = true) : -16384 ≤ x ∧ x ≤ 16384 := by
  have e : wrapS .i64 (0 - 16384) = -16384 := by decide
  simp only [rwin, e, Bool.and_eq_true, Bool.not_eq_true', decide_eq_false_iff_not] at h
  omega
theorem okc_of {x : Int} (h1 : -536870912 ≤ x) (h2 : x ≤ 536870912) : okc x = true := by
  simp only [okc, Bool.and_eq_true, Bool.not_eq_true', decide_eq_false_iff_not]
  omega
/-- a number's size, reckoned from its parts -/
class Bd (x : Int) (n : outParam Nat) : Prop where
  le : x.natAbs ≤ n
instance Bd.add {a b : Int} {m n : Nat} [h : Bd a m] [g : Bd b n] : Bd (a + b) (m + n) := ⟨by have := h.le; have := g.le; omega⟩
instance Bd.sub {a b : Int} {m n : Nat} [h : Bd a m] [g : Bd b n] : Bd (a - b) (m + n) := ⟨by have := h.le; have := g.le; omega⟩
instance Bd.neg {a : Int} {m : Nat} [h : Bd a m] : Bd (-a) m := ⟨by have := h.le; omega⟩
instance Bd.mul {a b : Int} {m n : Nat} [h : Bd a m] [g : Bd b n] : Bd (a * b) (m * n) := ⟨by rw [Int.natAbs_mul]; exact Nat.mul_le_mul h.le g.le⟩
instance Bd.zero : Bd 0 0 := ⟨Nat.le_refl 0⟩
instance Bd.two : Bd 2 2 := ⟨Nat.le_refl 2⟩
theorem Bd.of {x : Int} {n : Nat} (h1 : -(n : Int) ≤ x) (h2 : x ≤ n) : Bd x n := ⟨by omega⟩
theorem wrapS_c {e : Int} {n : Nat} [h : Bd e n] (hn : n ≤ 9223372036854775807) : wrapS .i64 e = e := by
  have h1 := h.le
  exact wrapS_id (by omega) (by omega)
theorem rwin_bd {x : Int} (h : rwin 16384 x = true) : Bd x 16384 := Bd.of (rwin_spec h).1 (rwin_spec h).2
theorem ok6_of {a b c x y z : Int} (ha : okc a = true) (hb : okc b = true) (hc : okc c = true) (hx : okc x = true) (hy : okc y = true) (hz : okc z = true) : ok6 a b c x y z = true := by
  simp only [ok6, ha, hb, hc, hx, hy, hz, Bool.and_self]
theorem rwin_okc {x : Int} (h : rwin 16384 x = true) : okc x = true := okc_of (by have := rwin_spec h; omega) (by have := rwin_spec h; omega)
theorem okc_bd {x : Int} (h : okc x = true) : Bd x 536870912 := by
  simp only [okc, Bool.and_eq_true, Bool.not_eq_true', decide_eq_false_iff_not] at h
  exact Bd.of (by omega) (by omega)
theorem ok6_bd {a b c x y z : Int} (h : ok6 a b c x y z = true) : Bd a 536870912 ∧ Bd b 536870912 ∧ Bd c 536870912 ∧ Bd x 536870912 ∧ Bd y 536870912 ∧ Bd z 536870912 := by
  simp only [ok6, Bool.and_eq_true] at h
  obtain ⟨h1, h2, h3, h4, h5, h6⟩ := h
  exact ⟨okc_bd h1, okc_bd h2, okc_bd h3, okc_bd h4, okc_bd h5, okc_bd h6⟩
/-! The contracts where the points may be: whole numbers, no wrap. -/
theorem Cross_ok (G) (a b c x y z : Int) (h : ok6 a b c x y z = true) : AC Try.prog G 13 [V3 a b c, V3 x y z] [] (fun v h => v = .tuple #[V3 (b * z - c * y) (c * x - a * z) (a * y - b * x), I64 0] ∧ h = []) := by
  refine ac_mono (Cross_c G a b c x y z) ?_
  rintro v h' ⟨rfl, rfl⟩
  obtain ⟨_, _, _, _, _, _⟩ := ok6_bd h
  simp (disch := decide) only [h, sel, err, cr, wrapS_c, and_self]
theorem Dot_ok (G) (a b c x y z : Int) (h : ok6 a b c x y z = true) : AC Try.prog G 14 [V3 a b c, V3 x y z] [] (fun v h => v = .tuple #[I64 (a * x + b * y + c * z), I64 0] ∧ h = []) := by
  refine ac_mono (Dot_c G a b c x y z) ?_
  rintro v h' ⟨rfl, rfl⟩
  obtain ⟨_, _, _, _, _, _⟩ := ok6_bd h
  simp (disch := decide) only [h, sel, err, dot3, wrapS_c, Int.zero_add, and_self]
theorem Add_ok (G) (a b c x y z : Int) (h : ok6 a b c x y z = true) (g : fine3 (a + x) (b + y) (c + z) = true) : AC Try.prog G 15 [V3 a b c, V3 x y z] [] (fun v h => v = .tuple #[V3 (a + x) (b + y) (c + z), I64 0] ∧ h = []) := by
  refine ac_mono (Add_c G a b c x y z) ?_
  rintro v h' ⟨rfl, rfl⟩
  obtain ⟨_, _, _, _, _, _⟩ := ok6_bd h
  simp (disch := decide) only [h, g, eachR, sel, err, wrapS_c, Bool.and_self, and_self]
theorem Sub_ok (G) (a b c x y z : Int) (h : ok6 a b c x y z = true) (g : fine3 (a - x) (b - y) (c - z) = true) : AC Try.prog G 16 [V3 a b c, V3 x y z] [] (fun v h => v = .tuple #[V3 (a - x) (b - y) (c - z), I64 0] ∧ h = []) := by
  refine ac_mono (Sub_c G a b c x y z) ?_
  rintro v h' ⟨rfl, rfl⟩
  obtain ⟨_, _, _, _, _, _⟩ := ok6_bd h
  simp (disch := decide) only [h, g, eachR, sel, err, wrapS_c, Bool.and_self, and_self]
theorem ok6_self {p q r : Int} (g : fine3 p q r = true) : ok6 p q r p q r = true := by
  simp only [fine3, ok6, Bool.and_eq_true] at g ⊢
  exact ⟨g.1, g.2.1, g.2.2, g.1, g.2.1, g.2.2⟩
theorem Far2_ok (G) (a b c x y z : Int) (h : ok6 a b c x y z = true) (g : fine3 (a - x) (b - y) (c - z) = true) : AC Try.prog G 20 [V3 a b c, V3 x y z] [] (fun v h => v = .tuple #[I64 ((a - x) * (a - x) + (b - y) * (b - y) + (c - z) * (c - z)), I64 0] ∧ h = []) := by
  refine ac_mono (Far2_c G a b c x y z) ?_
  rintro v h' ⟨rfl, rfl⟩
  obtain ⟨_, _, _, _, _, _⟩ := ok6_bd h
  have g6 := ok6_self g
  obtain ⟨_, _, _, _, _, _⟩ := ok6_bd g6
  simp (disch := decide) only [h, g, g6, far2R, pick2, sel, err, dot3, wrapS_c, Bool.and_self, Int.zero_add, bne_self_eq_false, and_self]
theorem Times_ok (G) (a b c n : Int) (h : ok6 a b c n n n = true) (g : fine3 (a * n) (b * n) (c * n) = true) : AC Try.prog G 18 [V3 a b c, I64 n] [] (fun v h => v = .tuple #[V3 (a * n) (b * n) (c * n), I64 0] ∧ h = []) := by
  refine ac_mono (Times_c G a b c n) ?_
  rintro v h' ⟨rfl, rfl⟩
  obtain ⟨_, _, _, _, _, _⟩ := ok6_bd h
  cases hz : isZ a b c with
  | true =>
    simp only [isZ, Bool.and_eq_true, beq_iff_eq] at hz
    obtain ⟨rfl, rfl, rfl, _⟩ := hz
    simp only [pick2, Int.zero_mul, and_self]
  | false => simp (disch := decide) only [h, g, tmOk, pick2, sel, err, wrapS_c, Bool.and_self, and_self]
theorem Neg_ok (G) (a b c : Int) (h : fine3 a b c = true) : AC Try.prog G 17 [V3 a b c] [] (fun v h => v = V3 (-a) (-b) (-c) ∧ h = []) := by
  refine ac_mono (Neg_c G a b c) ?_
  rintro v h' ⟨rfl, rfl⟩
  obtain ⟨_, _, _, _⟩ := ok6_bd (ok6_self h)
  simp (disch := decide) only [wrapS_c, Int.zero_sub, and_self]
end Go.Proofs.Ytjpjnjidchdlbaa
