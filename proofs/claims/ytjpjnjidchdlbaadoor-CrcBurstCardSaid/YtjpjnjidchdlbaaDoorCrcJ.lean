/-
  The plain laws of the seal of bytes: it is linear; eight bits are a byte; parts join.
-/
import Derived.Test.YtjpjnjidchdlbaaDoorCrcH
namespace Go.Proofs.YtjpjnjidchdlbaaDoor
set_option linter.unusedSimpArgs false
set_option linter.unusedVariables false
open Go
set_option maxRecDepth 100000
set_option maxHeartbeats 4000000
theorem tab_xor0 : ∀ x : _root_.Fin 16, ∀ y : _root_.Fin 16, tabB (x.val ^^^ y.val) = tabB x.val ^^^ tabB y.val := of_decide_eq_true (by kernel_rfl)
theorem tab_xor {x y : Nat} (hx : x < 16) (hy : y < 16) : tabB (x ^^^ y) = tabB x ^^^ tabB y := tab_xor0 ⟨x, hx⟩ ⟨y, hy⟩
theorem xor4 (a b c d : BitVec 32) : (a ^^^ b) ^^^ (c ^^^ d) = (a ^^^ c) ^^^ (b ^^^ d) := by
  rw [BitVec.xor_assoc, ← BitVec.xor_assoc b c d, BitVec.xor_comm b c, BitVec.xor_assoc c b d, ← BitVec.xor_assoc]
theorem nib_xor {s t : BitVec 32} {m n : BitVec 32} (hm : m.toNat < 16) (hn : n.toNat < 16) : nibF (s ^^^ t) (m ^^^ n) = nibF s m ^^^ nibF t n := by
  unfold nibF
  rw [BitVec.ushiftRight_xor_distrib, BitVec.shiftLeft_xor_distrib, xor4 (s >>> 28), BitVec.toNat_xor, tab_xor (xor_lt (top4_lt s) hm) (xor_lt (top4_lt t) hn), xor4]
theorem bit_xor (s t : BitVec 32) (b c : Bool) : bitF (s ^^^ t) (b ^^ c) = bitF s b ^^^ bitF t c := by
  have e : (if (b ^^ c) then 1#32 else 0#32) = (if b then 1#32 else 0#32) ^^^ (if c then 1#32 else 0#32) := by cases b <;> cases c <;> rfl
  have hl : ∀ b : Bool, (if b then 1#32 else 0#32 : BitVec 32).toNat < 16 := by intro b; cases b <;> decide
  unfold bitF
  rw [BitVec.ushiftRight_xor_distrib, BitVec.shiftLeft_xor_distrib, e, xor4 (s >>> 31), BitVec.toNat_xor, tab_xor (xor_lt (top_lt s) (hl b)) (xor_lt (top_lt t) (hl c)), xor4]
theorem ofNat_xor16 {m n : Nat} (hm : m < 16) (hn : n < 16) : BitVec.ofNat 32 (m ^^^ n) = BitVec.ofNat 32 m ^^^ BitVec.ofNat 32 n := by
  apply BitVec.eq_of_toNat_eq
  have := Nat.xor_lt_two_pow (n := 4) hm hn
  rw [BitVec.toNat_xor, BitVec.toNat_ofNat, BitVec.toNat_ofNat, BitVec.toNat_ofNat, Nat.mod_eq_of_lt (by omega), Nat.mod_eq_of_lt (by omega), Nat.mod_eq_of_lt (by omega)]
theorem u8_xor (b c : UInt8) : (b ^^^ c).toNat = b.toNat ^^^ c.toNat := by simp
theorem byte_xor (s t : BitVec 32) (b c : UInt8) : byteF (s ^^^ t) (b ^^^ c) = byteF s b ^^^ byteF t c := by
  unfold byteF
  have h1 : (b ^^^ c).toNat / 16 = (b.toNat / 16) ^^^ (c.toNat / 16) := by
    rw [u8_xor]
    have := Nat.shiftRight_xor_distrib (a := b.toNat) (b := c.toNat) (i := 4)
    simpa [Nat.shiftRight_eq_div_pow] using this
  have h2 : (b ^^^ c).toNat % 16 = (b.toNat % 16) ^^^ (c.toNat % 16) := by
    rw [u8_xor]
    exact Nat.xor_mod_two_pow (n := 4)
  have small : ∀ n, n < 16 → (BitVec.ofNat 32 n).toNat < 16 := by intro n hn; rw [BitVec.toNat_ofNat]; omega
  rw [h1, h2, ofNat_xor16 (hi_lt b) (hi_lt c), ofNat_xor16 (lo_lt b) (lo_lt c), nib_xor (small _ (hi_lt b)) (small _ (hi_lt c)), nib_xor (small _ (lo_lt b)) (small _ (lo_lt c))]
/-- bytes against bytes -/
def xorL (a b : List UInt8) : List UInt8 := List.zipWith (· ^^^ ·) a b
theorem go_xor : ∀ (a b : List UInt8) (s t : BitVec 32), a.length = b.length → goF (s ^^^ t) (xorL a b) = goF s a ^^^ goF t b
  | [], [], s, t, _ => rfl
  | x :: a, y :: b, s, t, h => by
    show goF (byteF (s ^^^ t) (x ^^^ y)) (xorL a b) = goF (byteF s x) a ^^^ goF (byteF t y) b
    rw [byte_xor]
    exact go_xor a b _ _ (by simpa using h)
  | [], _ :: _, s, t, h => by simp at h
  | _ :: _, [], s, t, h => by simp at h
theorem go_app (s : BitVec 32) (a b : List UInt8) : goF s (a ++ b) = goF (goF s a) b := List.foldl_append
theorem go_cut (s : BitVec 32) (a : List UInt8) (n : Nat) : goF (goF s (a.take n)) (a.drop n) = goF s a := by
  rw [← go_app, List.take_append_drop]
/-! ## Eight bits are a byte -/
def bits4 (s : BitVec 32) (a b c d : Bool) : BitVec 32 := bitF (bitF (bitF (bitF s a) b) c) d
theorem bits4_xor (s t : BitVec 32) (a b c d a' b' c' d' : Bool) : bits4 (s ^^^ t) (a ^^ a') (b ^^ b') (c ^^ c') (d ^^ d') = bits4 s a b c d ^^^ bits4 t a' b' c' d' := by
  unfold bits4
  rw [bit_xor, bit_xor, bit_xor, bit_xor]
theorem top_bits0 : ∀ k : _root_.Fin 16, ∀ h : _root_.Fin 16, bits4 (BitVec.ofNat 32 k.val <<< 28) (h.val.testBit 3) (h.val.testBit 2) (h.val.testBit 1) (h.val.testBit 0) = nibF (BitVec.ofNat 32 k.val <<< 28) (BitVec.ofNat 32 h.val) := of_decide_eq_true (by kernel_rfl)
theorem bit_low {t : BitVec 32} (h : t.toNat < 2147483648) : bitF t false = t <<< 1 := by
  have e : t >>> 31 = 0#32 := by
    apply BitVec.eq_of_toNat_eq
    rw [BitVec.toNat_ushiftRight, Nat.shiftRight_eq_div_pow]
    simp; omega
  unfold bitF
  rw [e]
  exact BitVec.xor_zero
theorem shl1_lt {t : BitVec 32} {n : Nat} (h : t.toNat < n) (hn : n ≤ 2147483648) : (t <<< 1).toNat < 2 * n := by
  rw [BitVec.toNat_shiftLeft, Nat.shiftLeft_eq]
  omega
theorem bits_low {t : BitVec 32} (h : t.toNat < 268435456) : bits4 t false false false false = t <<< 4 := by
  unfold bits4
  have h1 := shl1_lt h (by omega)
  have h2 := shl1_lt h1 (by omega)
  have h3 := shl1_lt h2 (by omega)
  rw [bit_low (t := t) (by omega), bit_low (t := t <<< 1) (by omega), bit_low (t := t <<< 1 <<< 1) (by omega), bit_low (t := t <<< 1 <<< 1 <<< 1) (by omega)]
  apply BitVec.eq_of_toNat_eq
  simp only [BitVec.toNat_shiftLeft, Nat.shiftLeft_eq]
  omega
theorem nib_low {t : BitVec 32} (h : t.toNat < 268435456) : nibF t 0#32 = t <<< 4 := by
  have e : t >>> 28 = 0#32 := by
    apply BitVec.eq_of_toNat_eq
    rw [BitVec.toNat_ushiftRight, Nat.shiftRight_eq_div_pow]
    simp; omega
  unfold nibF
  rw [e]
  exact BitVec.xor_zero
theorem bits_nib (s : BitVec 32) {h : Nat} (hh : h < 16) : bits4 s (h.testBit 3) (h.testBit 2) (h.testBit 1) (h.testBit 0) = nibF s (BitVec.ofNat 32 h) := by
  have hs : s = (BitVec.ofNat 32 (s.toNat / 268435456) <<< 28) ^^^ BitVec.ofNat 32 (s.toNat % 268435456) := by
    apply BitVec.eq_of_toNat_eq
    have hlt := s.isLt
    rw [BitVec.toNat_xor, BitVec.toNat_shiftLeft, BitVec.toNat_ofNat, BitVec.toNat_ofNat, Nat.mod_eq_of_lt (b := 2 ^ 32) (by omega), Nat.mod_eq_of_lt (b := 2 ^ 32) (a := s.toNat % 268435456) (by omega), Nat.shiftLeft_eq, Nat.mod_eq_of_lt (by omega)]
    have hx : (s.toNat / 268435456 * 2 ^ 28) ^^^ (s.toNat % 268435456) = s.toNat / 268435456 * 2 ^ 28 + s.toNat % 268435456 := by
      have h1 := Nat.two_pow_add_eq_or_of_lt (i := 28) (b := s.toNat % 268435456) (by omega) (s.toNat / 268435456)
      have h2 : (2 ^ 28 * (s.toNat / 268435456)) &&& (s.toNat % 268435456) = 0 := by
        apply Nat.eq_of_testBit_eq
        intro i
        rw [Nat.testBit_and, Nat.testBit_two_pow_mul, Nat.zero_testBit]
        by_cases hi : 28 ≤ i
        · rw [Nat.testBit_lt_two_pow (x := s.toNat % 268435456) (i := i) (Nat.lt_of_lt_of_le (by omega : s.toNat % 268435456 < 2 ^ 28) (Nat.pow_le_pow_right (by omega) hi)), Bool.and_false]
        · simp [hi]
      rw [Nat.mul_comm, h1]
      apply Nat.eq_of_testBit_eq
      intro i
      have h3 := congrArg (fun x => x.testBit i) h2
      simp only [Nat.testBit_and, Nat.zero_testBit] at h3
      rw [Nat.testBit_xor, Nat.testBit_or]
      revert h3
      cases (2 ^ 28 * (s.toNat / 268435456)).testBit i <;> cases (s.toNat % 268435456).testBit i <;> simp
    rw [hx]
    omega
  have hk : s.toNat / 268435456 < 16 := by have := s.isLt; omega
  have hlow : (BitVec.ofNat 32 (s.toNat % 268435456)).toNat < 268435456 := by rw [BitVec.toNat_ofNat]; omega
  have e1 := bits4_xor (BitVec.ofNat 32 (s.toNat / 268435456) <<< 28) (BitVec.ofNat 32 (s.toNat % 268435456)) (h.testBit 3) (h.testBit 2) (h.testBit 1) (h.testBit 0) false false false false
  simp only [Bool.xor_false] at e1
  rw [← hs, top_bits0 ⟨_, hk⟩ ⟨h, hh⟩, bits_low hlow, ← nib_low hlow] at e1
  rw [e1, ← nib_xor (by rw [BitVec.toNat_ofNat]; omega) (by decide), ← hs, BitVec.xor_zero]
theorem bits_byte (s : BitVec 32) (b : UInt8) :
    bits4 (bits4 s (b.toNat.testBit 7) (b.toNat.testBit 6) (b.toNat.testBit 5) (b.toNat.testBit 4)) (b.toNat.testBit 3) (b.toNat.testBit 2) (b.toNat.testBit 1) (b.toNat.testBit 0) = byteF s b := by
  have hi : ∀ i, (b.toNat / 16).testBit i = b.toNat.testBit (i + 4) := by
    intro i
    exact Nat.testBit_div_two_pow b.toNat i (n := 4)
  have lo : ∀ i, i < 4 → (b.toNat % 16).testBit i = b.toNat.testBit i := by
    intro i h
    have := Nat.testBit_mod_two_pow b.toNat 4 i
    rw [show (2 : Nat) ^ 4 = 16 from rfl] at this
    simpa [h] using this
  unfold byteF
  rw [← bits_nib _ (hi_lt b), ← bits_nib _ (lo_lt b), hi, hi, hi, hi, lo 3 (by omega), lo 2 (by omega), lo 1 (by omega), lo 0 (by omega)]
end Go.Proofs.YtjpjnjidchdlbaaDoor
