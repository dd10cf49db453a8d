/-
  The plain law of CrcBurst: of a closed row in which at most 32 bits on end are turned, Open tells it.
-/
import Derived.Test.YtjpjnjidchdlbaaDoorCrcK
namespace Go.Proofs.YtjpjnjidchdlbaaDoor
set_option linter.unusedSimpArgs false
set_option linter.unusedVariables false
open Go
set_option maxRecDepth 100000
set_option maxHeartbeats 4000000
/-! ## Bit by bit -/
def bitsF (s : BitVec 32) (l : List Bool) : BitVec 32 := l.foldl bitF s
theorem bitsF_cons (s : BitVec 32) (b : Bool) (l : List Bool) : bitsF s (b :: l) = bitsF (bitF s b) l := rfl
theorem bitsF_app (s : BitVec 32) (l m : List Bool) : bitsF s (l ++ m) = bitsF (bitsF s l) m := List.foldl_append
def bits8 (b : UInt8) : List Bool := [b.toNat.testBit 7, b.toNat.testBit 6, b.toNat.testBit 5, b.toNat.testBit 4, b.toNat.testBit 3, b.toNat.testBit 2, b.toNat.testBit 1, b.toNat.testBit 0]
def bitsOf (l : List UInt8) : List Bool := l.flatMap bits8
theorem go_bits : ∀ (l : List UInt8) (s : BitVec 32), goF s l = bitsF s (bitsOf l)
  | [], s => rfl
  | b :: l, s => by
    show goF (byteF s b) l = bitsF s (bits8 b ++ bitsOf l)
    rw [bitsF_app, go_bits l, ← bits_byte]
    rfl
theorem bits_xor : ∀ (l m : List Bool) (s t : BitVec 32), l.length = m.length → bitsF (s ^^^ t) (List.zipWith xor l m) = bitsF s l ^^^ bitsF t m
  | [], [], s, t, _ => rfl
  | x :: l, y :: m, s, t, h => by
    show bitsF (bitF (s ^^^ t) (x ^^ y)) (List.zipWith xor l m) = bitsF (bitF s x) l ^^^ bitsF (bitF t y) m
    rw [bit_xor]
    exact bits_xor l m _ _ (by simpa using h)
  | [], _ :: _, s, t, h => by simp at h
  | _ :: _, [], s, t, h => by simp at h
theorem poly_odd : (79764919#32).toNat % 2 = 1 := by decide
theorem top_bit (s : BitVec 32) (b : Bool) : ((s >>> 31) ^^^ (if b then 1#32 else 0#32)).toNat = 0 ∨ ((s >>> 31) ^^^ (if b then 1#32 else 0#32)).toNat = 1 := by
  have h := s.isLt
  have e : (s >>> 31).toNat = s.toNat / 2147483648 := by rw [BitVec.toNat_ushiftRight, Nat.shiftRight_eq_div_pow]
  have h2 : s >>> 31 = 0#32 ∨ s >>> 31 = 1#32 := by
    by_cases h1 : s.toNat < 2147483648
    · left; apply BitVec.eq_of_toNat_eq; rw [e]; show _ = 0; omega
    · right; apply BitVec.eq_of_toNat_eq; rw [e]; show _ = 1; omega
  rcases h2 with h2 | h2 <;> rw [h2] <;> cases b <;> decide
theorem shl1_even (s : BitVec 32) : (s <<< 1).toNat % 2 = 0 := by
  rw [BitVec.toNat_shiftLeft, Nat.shiftLeft_eq]; omega
/-- a step whose outcome is even has shifted alone -/
theorem bit_even {s : BitVec 32} {b : Bool} (h : (bitF s b).toNat % 2 = 0) : bitF s b = s <<< 1 ∧ ((s >>> 31) ^^^ (if b then 1#32 else 0#32)).toNat = 0 := by
  unfold bitF at *
  rcases top_bit s b with e | e
  · rw [e]
    exact ⟨BitVec.xor_zero, rfl⟩
  · exfalso
    rw [e] at h
    have e1 : tabB 1 = 79764919#32 := rfl
    rw [e1, BitVec.toNat_xor] at h
    have h2 := Nat.xor_mod_two_pow (a := (s <<< 1).toNat) (b := (79764919#32).toNat) (n := 1)
    rw [show (2 : Nat) ^ 1 = 2 from rfl, h, shl1_even, poly_odd] at h2
    cases h2
theorem bits_low_zero : ∀ (l : List Bool) (s : BitVec 32), l.length ≤ 32 → bitsF s l = 0#32 → s.toNat % 2 ^ (32 - l.length) = 0
  | [], s, _, h => by
    have : s = 0#32 := h
    rw [this]
    exact Nat.zero_mod _
  | b :: l, s, hl, h => by
    have hl2 : l.length + 1 ≤ 32 := by simpa using hl
    have h1 := bits_low_zero l (bitF s b) (by omega) h
    obtain ⟨e, he⟩ : ∃ e, 32 - l.length = e + 1 := ⟨31 - l.length, by omega⟩
    rw [he] at h1
    have h2 : (bitF s b).toNat % 2 = 0 := by
      have hd : 2 ∣ 2 ^ (e + 1) := ⟨2 ^ e, by rw [Nat.pow_succ, Nat.mul_comm]⟩
      exact Nat.mod_eq_zero_of_dvd (Nat.dvd_trans hd (Nat.dvd_of_mod_eq_zero h1))
    obtain ⟨h3, _⟩ := bit_even h2
    rw [h3, BitVec.toNat_shiftLeft, Nat.shiftLeft_eq] at h1
    have e2 : 32 - (b :: l).length = e := by simp; omega
    rw [e2]
    have he31 : e ≤ 31 := by omega
    have hp : 2 ^ 32 = 2 ^ (e + 1) * 2 ^ (31 - e) := by rw [← Nat.pow_add]; congr 1; omega
    rw [hp, Nat.mod_mul_right_mod, show (2 : Nat) ^ 1 = 2 from rfl, Nat.pow_succ, Nat.mul_mod_mul_right] at h1
    omega
theorem burst_zero : ∀ (l : List Bool), l.length ≤ 32 → bitsF 0#32 l = 0#32 → ∀ b ∈ l, b = false
  | [], _, _ => fun b hb => by cases hb
  | true :: l, hl, h => by
    exfalso
    have hl2 : l.length + 1 ≤ 32 := by simpa using hl
    have e : bitF 0#32 true = 79764919#32 := rfl
    have h1 := bits_low_zero l (79764919#32) (by omega) (by rw [← e]; exact h)
    obtain ⟨e, he⟩ : ∃ e, 32 - l.length = e + 1 := ⟨31 - l.length, by omega⟩
    rw [he] at h1
    have hd : 2 ∣ 2 ^ (e + 1) := ⟨2 ^ e, by rw [Nat.pow_succ, Nat.mul_comm]⟩
    have := Nat.mod_eq_zero_of_dvd (Nat.dvd_trans hd (Nat.dvd_of_mod_eq_zero h1))
    rw [poly_odd] at this
    cases this
  | false :: l, hl, h => by
    have e : bitF 0#32 false = 0#32 := rfl
    have h1 : bitsF 0#32 l = 0#32 := by
      rw [bitsF_cons, e] at h
      exact h
    intro b hb
    rcases List.mem_cons.1 hb with rfl | hb
    · rfl
    · exact burst_zero l (by have : l.length + 1 ≤ 32 := by simpa using hl
                             omega) h1 b hb
theorem zeros_bits (n : Nat) : bitsF 0#32 (List.replicate n false) = 0#32 := by
  induction n with
  | zero => rfl
  | succ n ih =>
    have e : bitF 0#32 false = 0#32 := rfl
    rw [List.replicate_succ, bitsF_cons, e]
    exact ih
theorem zeros_back (n : Nat) : ∀ s, bitsF s (List.replicate n false) = 0#32 → s = 0#32 := by
  induction n with
  | zero => intro s h; exact h
  | succ n ih =>
    intro s h
    rw [List.replicate_succ, bitsF_cons] at h
    have h1 := ih _ h
    have h2 : (bitF s false).toNat % 2 = 0 := by rw [h1]; rfl
    obtain ⟨h3, h4⟩ := bit_even h2
    rw [h3] at h1
    have e1 := congrArg BitVec.toNat h1
    rw [BitVec.toNat_shiftLeft, Nat.shiftLeft_eq] at e1
    have e2 : (s >>> 31).toNat = 0 := by simpa using h4
    rw [BitVec.toNat_ushiftRight, Nat.shiftRight_eq_div_pow] at e2
    apply BitVec.eq_of_toNat_eq
    have e3 : (0#32 : BitVec 32).toNat = 0 := rfl
    rw [e3] at e1 ⊢
    have := s.isLt
    omega
/-- a burst of 32 bits behind k bits -/
def burst (k m : Nat) (w : Nat → Bool) : List Bool := List.replicate k false ++ ((List.range 32).map w ++ List.replicate m false)
theorem burst_iff (k m : Nat) (w : Nat → Bool) : bitsF 0#32 (burst k m w) = 0#32 ↔ ∀ i, i < 32 → w i = false := by
  unfold burst
  rw [bitsF_app, zeros_bits, bitsF_app]
  constructor
  · intro h i hi
    exact burst_zero _ (by simp) (zeros_back m _ h) (w i) (List.mem_map.2 ⟨i, by simpa using hi, rfl⟩)
  · intro h
    have e : (List.range 32).map w = List.replicate 32 false := by
      rw [List.eq_replicate_iff]
      refine ⟨by simp, fun b hb => ?_⟩
      obtain ⟨i, hi, rfl⟩ := List.mem_map.1 hb
      exact h i (by simpa using hi)
    rw [e, zeros_bits, zeros_bits]
end Go.Proofs.YtjpjnjidchdlbaaDoor
