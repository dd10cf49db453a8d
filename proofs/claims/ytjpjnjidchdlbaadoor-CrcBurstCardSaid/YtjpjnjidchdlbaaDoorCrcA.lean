/-
  The words of the seal of bytes: machine numbers as bit vectors (plain laws), and the walk of Bit.
-/
import Derived.Test.YtjpjnjidchdlbaaDoorTab
import Derived.Test.YtjpjnjidchdlbaaDoorEngV
namespace Go.Proofs.YtjpjnjidchdlbaaDoor
set_option linter.unusedSimpArgs false
set_option linter.unusedVariables false
open Go
set_option maxRecDepth 100000
set_option maxHeartbeats 4000000
abbrev W32 (s : BitVec 32) : Value := .int .u32 (s.toNat : Int)
theorem wrap_u32 (n : Int) : wrapS .u32 n = n % 4294967296 := by
  rw [wrapS_eq]; simp [IntKind.wrap, IntKind.signed, IntKind.bits]
theorem wrap_u8 (n : Int) : wrapS .u8 n = n % 256 := by
  rw [wrapS_eq]; simp [IntKind.wrap, IntKind.signed, IntKind.bits]
theorem lt32 (s : BitVec 32) : (s.toNat : Int) < 4294967296 := by have := s.isLt; omega
theorem lt8 (b : UInt8) : (b.toNat : Int) < 256 := by have := b.toNat_lt; omega
theorem shl_32 (s : BitVec 32) (k : Nat) : wrapS .u32 ((s.toNat : Int) * 2 ^ k) = ((s <<< k).toNat : Int) := by
  rw [wrap_u32, BitVec.toNat_shiftLeft, Nat.shiftLeft_eq]
  simp
theorem shr_32 (s : BitVec 32) (k : Nat) : Int.fdiv (s.toNat : Int) (2 ^ k) = ((s >>> k).toNat : Int) := by
  rw [BitVec.toNat_ushiftRight, Nat.shiftRight_eq_div_pow]
  have h : (2 : Int) ^ k = ((2 ^ k : Nat) : Int) := by simp
  rw [h, Int.fdiv_eq_ediv_of_nonneg _ (Int.natCast_nonneg _), ← Int.natCast_ediv]
theorem shr_8 (b : UInt8) (k : Nat) : Int.fdiv (b.toNat : Int) (2 ^ k) = ((b.toBitVec >>> k).toNat : Int) := by
  rw [BitVec.toNat_ushiftRight, Nat.shiftRight_eq_div_pow]
  have h : (2 : Int) ^ k = ((2 ^ k : Nat) : Int) := by simp
  rw [h, Int.fdiv_eq_ediv_of_nonneg _ (Int.natCast_nonneg _), ← Int.natCast_ediv]
  rfl
theorem xor_32 (x y : Int) : wrapS .u32 (((BitVec.ofInt (IntKind.bits .u32) x ^^^ BitVec.ofInt (IntKind.bits .u32) y).toNat : Nat) : Int) = ((BitVec.ofInt 32 x ^^^ BitVec.ofInt 32 y).toNat : Int) := by
  show wrapS .u32 (((BitVec.ofInt 32 x ^^^ BitVec.ofInt 32 y).toNat : Nat) : Int) = _
  rw [wrap_u32]
  exact Int.emod_eq_of_lt (by omega) (lt32 _)
theorem and_8 (x y : Int) : wrapS .u8 (((BitVec.ofInt (IntKind.bits .u8) x &&& BitVec.ofInt (IntKind.bits .u8) y).toNat : Nat) : Int) = ((BitVec.ofInt 8 x &&& BitVec.ofInt 8 y).toNat : Int) := by
  show wrapS .u8 (((BitVec.ofInt 8 x &&& BitVec.ofInt 8 y).toNat : Nat) : Int) = _
  rw [wrap_u8]
  exact Int.emod_eq_of_lt (by omega) (by have := (BitVec.ofInt 8 x &&& BitVec.ofInt 8 y).isLt; omega)
theorem ofInt_32 (s : BitVec 32) : BitVec.ofInt 32 (s.toNat : Int) = s := by simp
theorem ofInt_8 (b : UInt8) : BitVec.ofInt 8 (b.toNat : Int) = b.toBitVec := by
  rw [BitVec.ofInt_natCast]; apply BitVec.eq_of_toNat_eq; simp
theorem conv_32 (n : Nat) (h : n < 4294967296) : wrapS .u32 (n : Int) = (n : Int) := by
  rw [wrap_u32]; exact Int.emod_eq_of_lt (by omega) (by omega)
/-! ## The table -/
def tabL : List (BitVec 32) := [0#32, 79764919#32, 159529838#32, 222504665#32, 319059676#32, 398814059#32, 445009330#32, 507990021#32, 638119352#32, 583659535#32, 797628118#32, 726387553#32, 890018660#32, 835552979#32, 1015980042#32, 944750013#32]
def tabA : Array Value := (tabL.map W32).toArray
def tabB (n : Nat) : BitVec 32 := tabL.getD n 0#32
theorem tab_at {n : Nat} (h : n < 16) : tabA.toList[0 + Int.toNat (n : Int) * 1]? = some (W32 (tabB n)) := by
  have hl : n < tabL.length := h
  simp only [tabA, tabB, Int.toNat_natCast, Nat.zero_add, Nat.mul_one]
  rw [List.getElem?_map, List.getD_eq_getElem?_getD, List.getElem?_eq_getElem hl]
  rfl
attribute [irreducible] tabA
abbrev GC (tt : TypeId) : List (Nat × Obj) := [(0, .cells tabA tt (1, 0))]
def bitF (s : BitVec 32) (b : Bool) : BitVec 32 := (s <<< 1) ^^^ tabB ((s >>> 31) ^^^ (if b then 1#32 else 0#32)).toNat
theorem shl1_32 (s : BitVec 32) : wrapS .u32 ((s.toNat : Int) * 2 ^ min (Int.toNat 1) IntKind.u32.bits) = ((s <<< 1).toNat : Int) := shl_32 s 1
theorem idx1 (s : BitVec 32) (n : Int) : wrapS .u32 (((BitVec.ofInt IntKind.u32.bits ((s.toNat : Int).fdiv (2 ^ min (Int.toNat 31) IntKind.u32.bits)) ^^^ BitVec.ofInt IntKind.u32.bits n).toNat : Nat) : Int) = (((s >>> 31) ^^^ BitVec.ofInt 32 n).toNat : Int) := by
  rw [show (s.toNat : Int).fdiv (2 ^ min (Int.toNat 31) IntKind.u32.bits) = ((s >>> 31).toNat : Int) from shr_32 s 31, xor_32, ofInt_32]
theorem xor_lt {a b : BitVec 32} (ha : a.toNat < 16) (hb : b.toNat < 16) : (a ^^^ b).toNat < 16 := by
  rw [BitVec.toNat_xor]; exact Nat.xor_lt_two_pow (n := 4) ha hb
theorem top_lt (s : BitVec 32) : (s >>> 31).toNat < 16 := by
  rw [BitVec.toNat_ushiftRight, Nat.shiftRight_eq_div_pow]; have := s.isLt; omega
theorem top4_lt (s : BitVec 32) : (s >>> 28).toNat < 16 := by
  rw [BitVec.toNat_ushiftRight, Nat.shiftRight_eq_div_pow]; have := s.isLt; omega
theorem in16 {n : Nat} (h : n < 16) : decide (0 ≤ (n : Int) ∧ (n : Int) < ((16 : Nat) : Int)) = true := by
  simp; omega
theorem xor_w (a b : BitVec 32) : wrapS .u32 (((BitVec.ofInt IntKind.u32.bits (a.toNat : Int) ^^^ BitVec.ofInt IntKind.u32.bits (b.toNat : Int)).toNat : Nat) : Int) = ((a ^^^ b).toNat : Int) := by
  rw [xor_32, ofInt_32, ofInt_32]
theorem has15 : Has Tryd.prog 15 Tryd.f15 := ⟨Tryd.func15, by kernel_rfl, by kernel_rfl⟩
theorem Bit_c (tt : TypeId) (s : BitVec 32) (b : Bool) : AC Tryd.prog (GC tt) 15 [W32 s, .bool b] [] (fun v h => v = W32 (bitF s b) ∧ h = []) := by
  refine ac_of_body tabOk has15 ?_
  unfold BodyOk
  conv => whnf
  refine ways (fun h => ?_) (fun h => ?_) <;> conv => whnf
  all_goals subst h
  · rw [idx1, shl1_32]
    refine way1 (in16 (xor_lt (top_lt s) (by decide))) ?_
    conv => whnf
    refine nthK_of (l := tabA.toList) (tab_at (xor_lt (top_lt s) (by decide))) ?_
    conv => whnf
    refine ⟨rfl, fin_turnedK rfl ?_⟩
    conv => whnf
    exact ⟨by rw [xor_w]; rfl, rfl⟩
  · rw [idx1, shl1_32]
    refine way1 (in16 (xor_lt (top_lt s) (by decide))) ?_
    conv => whnf
    refine nthK_of (l := tabA.toList) (tab_at (xor_lt (top_lt s) (by decide))) ?_
    conv => whnf
    refine ⟨rfl, fin_turnedK rfl ?_⟩
    conv => whnf
    exact ⟨by rw [xor_w]; rfl, rfl⟩
end Go.Proofs.YtjpjnjidchdlbaaDoor
