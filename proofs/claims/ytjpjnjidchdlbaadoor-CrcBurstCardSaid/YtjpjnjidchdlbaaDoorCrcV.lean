/-
  CrcBurst: bits of numbers, places.
-/
import Derived.Test.YtjpjnjidchdlbaaDoorCrcU
import Derived.Test.YtjpjnjidchdlbaaDoorCrcH
namespace Go.Proofs.YtjpjnjidchdlbaaDoor
set_option linter.unusedSimpArgs false
set_option linter.unusedVariables false
open Go
set_option maxRecDepth 100000
set_option maxHeartbeats 4000000
theorem u64m {n : Nat} (h : n < 100) : wrapS .u64 (n : Int) = (n : Int) := by
  rw [wrapS_eq]; simp [IntKind.wrap, IntKind.signed, IntKind.bits]; omega
theorem and_32 (x y : Int) : wrapS .u32 (((BitVec.ofInt (IntKind.bits .u32) x &&& BitVec.ofInt (IntKind.bits .u32) y).toNat : Nat) : Int) = ((BitVec.ofInt 32 x &&& BitVec.ofInt 32 y).toNat : Int) := by
  show wrapS .u32 (((BitVec.ofInt 32 x &&& BitVec.ofInt 32 y).toNat : Nat) : Int) = _
  exact conv_32 _ (BitVec.isLt _)
theorem bit_32 (s : BitVec 32) {n : Nat} (h : n < 32) :
    (wrapS .u32 (((BitVec.ofInt (IntKind.bits .u32) ((s.toNat : Int).fdiv (2 ^ min (Int.toNat (wrapS .u64 (n : Int))) (IntKind.bits .u32))) &&& BitVec.ofInt (IntKind.bits .u32) 1).toNat : Nat) : Int) == 1) = s.toNat.testBit n := by
  rw [u64m (by omega), Int.toNat_natCast, show min n (IntKind.bits .u32) = n from Nat.min_eq_left (by show n ≤ 32; omega), and_32, shr_32, ofInt_32]
  have e1 : (s >>> n &&& BitVec.ofInt 32 1).toNat = (s.toNat >>> n) % 2 := by
    rw [BitVec.toNat_and, BitVec.toNat_ushiftRight]
    exact Nat.and_one_is_mod _
  rw [e1, Nat.testBit_eq_decide_div_mod_eq, Nat.shiftRight_eq_div_pow, Bool.eq_iff_iff]
  simp only [beq_iff_eq, decide_eq_true_eq]
  omega
theorem bits_none (s : BitVec 32) : (∀ i, i < 32 → s.toNat.testBit i = false) ↔ s = 0#32 := by
  constructor
  · intro h
    apply BitVec.eq_of_toNat_eq
    apply Nat.eq_of_testBit_eq
    intro i
    by_cases hi : i < 32
    · rw [h i hi]; simp
    · rw [Nat.testBit_lt_two_pow (Nat.lt_of_lt_of_le s.isLt (Nat.pow_le_pow_right (by decide) (by omega)))]; simp
  · intro h i _
    rw [h]
    simp
theorem mask_at {r : Nat} (h : r < 8) : (128 : Int).fdiv (2 ^ min (Int.toNat (wrapS .u64 (r : Int))) (IntKind.bits .u8)) = ((maskB r).toNat : Int) := by
  rw [u64m (by omega), Int.toNat_natCast, show min r (IntKind.bits .u8) = r from Nat.min_eq_left (by show r ≤ 8; omega)]
  have key : ∀ r : _root_.Fin 8, (128 : Int).fdiv (2 ^ r.val) = ((maskB r.val).toNat : Int) := by decide
  exact key ⟨r, h⟩
theorem place_ok {n : Nat} (h0 : 0 < n) (hn : n ≤ 10000) (a : Int) : ∃ k : Nat, k < n ∧ (wrapS .i64 (a.tmod (n : Int) + (n : Int))).tmod (n : Int) = (k : Int) := by
  have h1 : -(n : Int) < a.tmod (n : Int) := Int.lt_tmod_of_pos a (by omega)
  have h2 : a.tmod (n : Int) < (n : Int) := Int.tmod_lt_of_pos a (by omega)
  rw [wrap64 (by omega) (by omega), Int.tmod_eq_emod_of_nonneg (by omega)]
  have h3 := Int.emod_nonneg (a.tmod (n : Int) + (n : Int)) (show (n : Int) ≠ 0 by omega)
  have h4 := Int.emod_lt_of_pos (a.tmod (n : Int) + (n : Int)) (show (0 : Int) < (n : Int) by omega)
  exact ⟨((a.tmod (n : Int) + (n : Int)) % (n : Int)).toNat, by omega, by omega⟩
theorem idx_div {k i : Nat} (h : k + i ≤ 10000) : wrapS .i64 ((wrapS .i64 ((k : Int) + (i : Int))).tdiv 8) = (((k + i) / 8 : Nat) : Int) := by
  have e : (wrapS .i64 ((k : Int) + (i : Int))).tdiv 8 = (((k + i) / 8 : Nat) : Int) := by
    rw [wrap64 (by omega) (by omega), Int.tdiv_eq_ediv_of_nonneg (by omega)]
    omega
  rw [e, wrap64 (by omega) (by omega)]
theorem idx_mod {k i : Nat} (h : k + i ≤ 10000) : (wrapS .i64 ((k : Int) + (i : Int))).tmod 8 = (((k + i) % 8 : Nat) : Int) := by
  rw [wrap64 (by omega) (by omega), Int.tmod_eq_emod_of_nonneg (by omega)]
  omega
theorem set_at {d : List UInt8} {m : Nat} {x y : UInt8} (hx : d[m]? = some x) (q : Nat) : (d.set m y)[q]? = if q = m then some y else d[q]? := by
  rw [List.getElem?_set]
  by_cases h : m = q
  · subst h
    rw [if_pos rfl, if_pos rfl, if_pos (List.getElem?_eq_some_iff.1 hx).1]
  · rw [if_neg h, if_neg (fun e => h e.symm)]
theorem win_set {c c' : Array Value} {d d' : List UInt8} {m : Nat} {z : UInt8} (hw : Win c 0 d) (hd : ∀ q, d'[q]? = if q = m then some z else d[q]?) (h : ∀ j : Nat, c'[j]? = if j = m then some (cU8 z) else c[j]?) : Win c' 0 d' := by
  intro j b hj
  rw [hd j] at hj
  rw [Nat.zero_add, h j]
  by_cases e : j = m
  · rw [if_pos e] at hj ⊢
    cases hj
    rfl
  · rw [if_neg e] at hj ⊢
    have := hw j b hj
    rwa [Nat.zero_add] at this
theorem zero_beq (s : BitVec 32) : ((s.toNat : Int) == 0) = decide (s = 0#32) := w32_beq s 0#32
end Go.Proofs.YtjpjnjidchdlbaaDoor
