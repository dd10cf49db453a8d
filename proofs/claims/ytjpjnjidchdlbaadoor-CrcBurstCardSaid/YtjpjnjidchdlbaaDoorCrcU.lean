/-
  The plain law of CrcBurst, second part: Open's test by the whole row's seal; bits turned.
-/
import Derived.Test.YtjpjnjidchdlbaaDoorCrcT
namespace Go.Proofs.YtjpjnjidchdlbaaDoor
set_option linter.unusedSimpArgs false
set_option linter.unusedVariables false
open Go
set_option maxRecDepth 100000
set_option maxHeartbeats 4000000
/-! ## A register fed with its own bytes -/
theorem nib_top (s : BitVec 32) : nibF s (s >>> 28) = s <<< 4 := by
  unfold nibF
  rw [BitVec.xor_self]
  exact BitVec.xor_zero
theorem byte_top (s : BitVec 32) : byteF s (sb s 24) = s <<< 8 := by
  have hs := s.isLt
  have e0 : (sb s 24).toNat = s.toNat / 16777216 := by
    unfold sb
    simp
    omega
  have e1 : BitVec.ofNat 32 ((sb s 24).toNat / 16) = s >>> 28 := by
    apply BitVec.eq_of_toNat_eq
    rw [BitVec.toNat_ofNat, BitVec.toNat_ushiftRight, Nat.shiftRight_eq_div_pow, e0]
    omega
  have e2 : BitVec.ofNat 32 ((sb s 24).toNat % 16) = (s <<< 4) >>> 28 := by
    apply BitVec.eq_of_toNat_eq
    rw [BitVec.toNat_ofNat, BitVec.toNat_ushiftRight, Nat.shiftRight_eq_div_pow, BitVec.toNat_shiftLeft, Nat.shiftLeft_eq, e0]
    omega
  unfold byteF
  rw [e1, nib_top, e2, nib_top]
  apply BitVec.eq_of_toNat_eq
  simp only [BitVec.toNat_shiftLeft, Nat.shiftLeft_eq]
  omega
theorem sb_shl (s : BitVec 32) (k : Nat) (hk : k = 0 ∨ k = 8 ∨ k = 16) : sb (s <<< 8) (k + 8) = sb s k := by
  apply UInt8.toNat_inj.1
  have hs := s.isLt
  unfold sb
  rw [BitVec.toNat_shiftLeft, Nat.shiftLeft_eq]
  rcases hk with rfl | rfl | rfl <;> simp <;> omega
theorem go_self (s : BitVec 32) : goF s (be s) = 0#32 := by
  unfold be
  have h1 := byte_top s
  have h2 := byte_top (s <<< 8)
  rw [sb_shl s 16 (by omega)] at h2
  have h3 := byte_top (s <<< 8 <<< 8)
  rw [sb_shl (s <<< 8) 16 (by omega), sb_shl s 8 (by omega)] at h3
  have h4 := byte_top (s <<< 8 <<< 8 <<< 8)
  rw [sb_shl (s <<< 8 <<< 8) 16 (by omega), sb_shl (s <<< 8) 8 (by omega), sb_shl s 0 (by omega)] at h4
  show byteF (byteF (byteF (byteF s (sb s 24)) (sb s 16)) (sb s 8)) (sb s 0) = 0#32
  rw [h1, h2, h3, h4]
  apply BitVec.eq_of_toNat_eq
  simp only [BitVec.toNat_shiftLeft, Nat.shiftLeft_eq]
  have : (0#32 : BitVec 32).toNat = 0 := rfl
  rw [this]
  omega
theorem xorL_self : ∀ (a r : List UInt8), a.length = r.length → xorL a (xorL a r) = r
  | [], [], _ => rfl
  | x :: a, y :: r, h => by
    show (x ^^^ (x ^^^ y)) :: xorL a (xorL a r) = y :: r
    rw [xorL_self a r (by simpa using h), ← UInt8.xor_assoc, UInt8.xor_self, UInt8.zero_xor]
  | [], _ :: _, h => by simp at h
  | _ :: _, [], h => by simp at h
theorem xorL_len (a b : List UInt8) (h : a.length = b.length) : (xorL a b).length = a.length := by simp [xorL, h]
theorem go_feed (s : BitVec 32) (r : List UInt8) (hr : r.length = 4) : goF s r = goF 0#32 (xorL (be s) r) := by
  have hb : (be s).length = r.length := by rw [hr]; rfl
  have h := go_xor (be s) (xorL (be s) r) s 0#32 (by rw [xorL_len _ _ hb])
  rw [BitVec.xor_zero, xorL_self _ _ hb, go_self, BitVec.zero_xor] at h
  exact h
theorem bits8_zero {b : UInt8} (h : ∀ x ∈ bits8 b, x = false) : b = 0 := by
  apply UInt8.toNat_inj.1
  apply Nat.eq_of_testBit_eq
  intro i
  have hz : (0 : UInt8).toNat.testBit i = false := by simp
  rw [hz]
  by_cases hi : i < 8
  · have hm : b.toNat.testBit i ∈ bits8 b := by
      unfold bits8
      match i, hi with
      | 0, _ => simp
      | 1, _ => simp
      | 2, _ => simp
      | 3, _ => simp
      | 4, _ => simp
      | 5, _ => simp
      | 6, _ => simp
      | 7, _ => simp
    exact h _ hm
  · exact Nat.testBit_lt_two_pow (Nat.lt_of_lt_of_le b.toNat_lt (Nat.pow_le_pow_right (by omega) (show 8 ≤ i by omega)))
theorem xorL_zero : ∀ (u v : List UInt8), u.length = v.length → (∀ b ∈ xorL u v, b = 0) → u = v
  | [], [], _, _ => rfl
  | x :: u, y :: v, h, hz => by
    have h1 : x ^^^ y = 0 := hz _ List.mem_cons_self
    have h2 : x = y := by
      have := congrArg (· ^^^ y) h1
      simpa [UInt8.xor_assoc] using this
    rw [h2, xorL_zero u v (by simpa using h) (fun b hb => hz b (List.mem_cons_of_mem _ hb))]
  | [], _ :: _, h, _ => by simp at h
  | _ :: _, [], h, _ => by simp at h
theorem bitsOf_len (l : List UInt8) : (bitsOf l).length = 8 * l.length := by
  induction l with
  | nil => rfl
  | cons b l ih =>
    show (bits8 b ++ bitsOf l).length = _
    rw [List.length_append, ih]
    have : (bits8 b).length = 8 := rfl
    rw [this, List.length_cons]
    omega
theorem inj4 {u v : List UInt8} (hu : u.length = 4) (hv : v.length = 4) (h : goF 0#32 u = goF 0#32 v) : u = v := by
  have h1 := go_xor u v 0#32 0#32 (by omega)
  rw [BitVec.xor_self, h, BitVec.xor_self, go_bits] at h1
  have hl : (xorL u v).length = 4 := by rw [xorL_len _ _ (by omega), hu]
  have h2 := burst_zero _ (by rw [bitsOf_len, hl]; decide) h1
  refine xorL_zero u v (by omega) fun b hb => bits8_zero fun x hx => h2 x ?_
  exact List.mem_flatMap.2 ⟨b, hb, hx⟩
theorem sb_not (s : BitVec 32) (k : Nat) (hk : k = 0 ∨ k = 8 ∨ k = 16 ∨ k = 24) : sb s k ^^^ sb (~~~ s) k = 255 := by
  apply UInt8.toNat_inj.1
  rw [u8_xor]
  have e : ∀ t : BitVec 32, (sb t k).toNat = (t >>> k).toNat % 2 ^ 8 := by
    intro t
    unfold sb
    rw [BitVec.toNat_ushiftRight, Nat.shiftRight_eq_div_pow]
    simp
  rw [e, e, ← Nat.xor_mod_two_pow, ← BitVec.toNat_xor, ← BitVec.ushiftRight_xor_distrib]
  have hx : s ^^^ ~~~ s = 4294967295#32 := by
    apply BitVec.eq_of_getLsbD_eq
    intro i hi
    rw [BitVec.getLsbD_xor, BitVec.getLsbD_not]
    have : (4294967295#32 : BitVec 32) = BitVec.allOnes 32 := rfl
    rw [this, BitVec.getLsbD_allOnes]
    simp [hi]
  rw [hx]
  rcases hk with rfl | rfl | rfl | rfl <;> rfl
def magic : BitVec 32 := goF 0#32 [255, 255, 255, 255]
theorem be_not (s : BitVec 32) : xorL (be s) (be (~~~ s)) = [255, 255, 255, 255] := by
  show [sb s 24 ^^^ sb (~~~ s) 24, sb s 16 ^^^ sb (~~~ s) 16, sb s 8 ^^^ sb (~~~ s) 8, sb s 0 ^^^ sb (~~~ s) 0] = _
  rw [sb_not s 24 (by omega), sb_not s 16 (by omega), sb_not s 8 (by omega), sb_not s 0 (by omega)]
/-- Open's test, by the seal of the whole row -/
theorem ok_iff {d : List UInt8} (hd : 4 ≤ d.length) : okF d = true ↔ goF 4294967295#32 d = magic := by
  obtain ⟨n, hn⟩ : ∃ n, d.length = n + 4 := ⟨d.length - 4, by omega⟩
  have hp : payF d = d.take n := by unfold payF; rw [hn]; rfl
  have hr : (d.drop n).length = 4 := by rw [List.length_drop]; omega
  have hg : goF 4294967295#32 d = goF 0#32 (xorL (be (goF 4294967295#32 (d.take n))) (d.drop n)) := by
    rw [← go_feed _ _ hr, go_cut]
  have h4 : decide (4 ≤ d.length) = true := by simpa using hd
  unfold okF
  rw [h4, Bool.true_and, hp, show d.length - 4 = n by omega, beq_iff_eq, hg]
  unfold sealF
  have hb : ∀ s, (be s).length = 4 := fun s => rfl
  constructor
  · intro h
    rw [← h, be_not]
    rfl
  · intro h
    have h2 := inj4 (by rw [xorL_len _ _ (by rw [hb, hr]), hb]) rfl h
    rw [← be_not (goF 4294967295#32 (d.take n))] at h2
    have h3 := congrArg (xorL (be (goF 4294967295#32 (d.take n)))) h2
    rw [xorL_self _ _ (by rw [hb, hr])] at h3
    rw [h3]
    exact (xorL_self (be (goF 4294967295#32 (d.take n))) (be (~~~ goF 4294967295#32 (d.take n))) rfl).symm
/-! ## Bits turned -/
theorem bits_at : ∀ (l : List UInt8) (q r : Nat), r < 8 → (bitsOf l)[8 * q + r]? = (l[q]?).map fun b => b.toNat.testBit (7 - r)
  | [], q, r, _ => by simp [bitsOf]
  | b :: l, 0, r, hr => by
    show (bits8 b ++ bitsOf l)[8 * 0 + r]? = _
    rw [List.getElem?_append_left (by show _ < 8; omega)]
    match r, hr with
    | 0, _ => rfl
    | 1, _ => rfl
    | 2, _ => rfl
    | 3, _ => rfl
    | 4, _ => rfl
    | 5, _ => rfl
    | 6, _ => rfl
    | 7, _ => rfl
  | b :: l, q + 1, r, hr => by
    show (bits8 b ++ bitsOf l)[8 * (q + 1) + r]? = _
    rw [List.getElem?_append_right (by show 8 ≤ _; omega)]
    have e : 8 * (q + 1) + r - (bits8 b).length = 8 * q + r := by show 8 * (q + 1) + r - 8 = _; omega
    rw [e, bits_at l q r hr]
    rfl
def maskB (r : Nat) : UInt8 := UInt8.ofNat (128 / 2 ^ r)
theorem maskB_bit : ∀ r : _root_.Fin 8, ∀ i : _root_.Fin 8, (maskB r.val).toNat.testBit (7 - i.val) = decide (i.val = r.val) := by decide
/-- bit j turned -/
theorem turn_bit {d d' : List UInt8} {j : Nat} {x : UInt8} (hx : d[j / 8]? = some x) (h : ∀ q, d'[q]? = if q = j / 8 then some (x ^^^ maskB (j % 8)) else d[q]?) (p : Nat) :
    (bitsOf d')[p]? = ((bitsOf d)[p]?).map fun b => b ^^ decide (p = j) := by
  obtain ⟨q, r, hr, rfl⟩ : ∃ q r, r < 8 ∧ p = 8 * q + r := ⟨p / 8, p % 8, Nat.mod_lt _ (by omega), by omega⟩
  rw [bits_at d' q r hr, bits_at d q r hr, h q]
  by_cases hq : q = j / 8
  · subst hq
    rw [if_pos rfl, hx]
    simp only [Option.map_some]
    rw [u8_xor, Nat.testBit_xor, maskB_bit ⟨j % 8, Nat.mod_lt _ (by omega)⟩ ⟨r, hr⟩]
    congr 2
    simp only [decide_eq_decide]
    omega
  · rw [if_neg hq]
    have : ¬ (8 * q + r = j) := by omega
    cases d[q]? with
    | none => rfl
    | some y => simp [this]
/-- the bits of d are c's, those from k on, i of them, turned where w says so -/
def TurnedTo (c : List UInt8) (k : Nat) (w : Nat → Bool) (i : Nat) (d : List UInt8) : Prop :=
  d.length = c.length ∧ ∀ p, (bitsOf d)[p]? = ((bitsOf c)[p]?).map fun b => b ^^ (decide (k ≤ p ∧ p < k + i) && w (p - k))
theorem turned_zero (c : List UInt8) (k : Nat) (w : Nat → Bool) : TurnedTo c k w 0 c := by
  refine ⟨rfl, fun p => ?_⟩
  have : decide (k ≤ p ∧ p < k + 0) = false := by simp only [decide_eq_false_iff_not]; omega
  rw [this]
  cases (bitsOf c)[p]? <;> simp
theorem turned_skip {c d : List UInt8} {k i : Nat} {w : Nat → Bool} (h : TurnedTo c k w i d) (hw : w i = false) : TurnedTo c k w (i + 1) d := by
  refine ⟨h.1, fun p => ?_⟩
  rw [h.2 p]
  congr 1
  funext b
  by_cases hp : p = k + i
  · subst hp
    rw [Nat.add_sub_cancel_left, hw]
    simp
  · have : decide (k ≤ p ∧ p < k + i) = decide (k ≤ p ∧ p < k + (i + 1)) := by
      rw [decide_eq_decide]; omega
    rw [this]
theorem turned_step {c d d' : List UInt8} {k i : Nat} {w : Nat → Bool} {x : UInt8} (h : TurnedTo c k w i d) (hw : w i = true) (hl : d'.length = d.length) (hx : d[(k + i) / 8]? = some x)
    (h2 : ∀ q, d'[q]? = if q = (k + i) / 8 then some (x ^^^ maskB ((k + i) % 8)) else d[q]?) : TurnedTo c k w (i + 1) d' := by
  refine ⟨by rw [hl, h.1], fun p => ?_⟩
  rw [turn_bit hx h2 p, h.2 p, Option.map_map]
  congr 1
  funext b
  simp only [Function.comp]
  by_cases hp : p = k + i
  · subst hp
    have e1 : decide (k ≤ k + i ∧ k + i < k + i) = false := by simp
    have e2 : decide (k ≤ k + i ∧ k + i < k + (i + 1)) = true := by simp
    rw [e1, e2, Nat.add_sub_cancel_left, hw]
    simp
  · have e1 : decide (k ≤ p ∧ p < k + i) = decide (k ≤ p ∧ p < k + (i + 1)) := by
      rw [decide_eq_decide]; omega
    rw [e1]
    simp [hp]
theorem burst_at {k m : Nat} {w : Nat → Bool} {p : Nat} (hp : p < k + 32 + m) : (burst k m w)[p]? = some (decide (k ≤ p ∧ p < k + 32) && w (p - k)) := by
  unfold burst
  by_cases h1 : p < k
  · rw [List.getElem?_append_left (by simpa using h1), List.getElem?_replicate, if_pos h1]
    have : decide (k ≤ p ∧ p < k + 32) = false := by simp; omega
    rw [this]
    rfl
  · rw [List.getElem?_append_right (by simp; omega), List.length_replicate]
    by_cases h2 : p < k + 32
    · rw [List.getElem?_append_left (by simp; omega), List.getElem?_map, List.getElem?_range (by omega)]
      have : decide (k ≤ p ∧ p < k + 32) = true := by simp; omega
      rw [this]
      rfl
    · rw [List.getElem?_append_right (by simp; omega), List.getElem?_replicate, if_pos (by simp; omega)]
      have : decide (k ≤ p ∧ p < k + 32) = false := by simp; omega
      rw [this]
      rfl
/-- THE LAW: of a closed row in which 32 bits on end were turned, where w says so: Open takes it where none was turned -/
theorem burst_ok {l d : List UInt8} {k : Nat} {w : Nat → Bool} (hk : k + 32 ≤ 8 * (l.length + 4)) (h : TurnedTo (closeF l) k w 32 d) : okF d = true ↔ ∀ i, i < 32 → w i = false := by
  obtain ⟨m, hm⟩ : ∃ m, 8 * (l.length + 4) = k + 32 + m := ⟨8 * (l.length + 4) - (k + 32), by omega⟩
  have hcl : (bitsOf (closeF l)).length = k + 32 + m := by rw [bitsOf_len, closeF_length, hm]
  have hbl : (burst k m w).length = k + 32 + m := by unfold burst; simp; omega
  have e : bitsOf d = List.zipWith xor (bitsOf (closeF l)) (burst k m w) := by
    apply List.ext_getElem?
    intro p
    rw [h.2 p, List.getElem?_zipWith]
    by_cases hp : p < k + 32 + m
    · rw [burst_at hp]
      cases (bitsOf (closeF l))[p]? <;> rfl
    · rw [List.getElem?_eq_none (l := bitsOf (closeF l)) (by omega)]
      rfl
  have hc := (ok_iff (d := closeF l) (by rw [closeF_length]; omega)).1 (ok_close l)
  rw [ok_iff (by rw [h.1, closeF_length]; omega), go_bits, e]
  have hx := bits_xor (bitsOf (closeF l)) (burst k m w) 4294967295#32 0#32 (by omega)
  rw [BitVec.xor_zero, ← go_bits (closeF l), hc] at hx
  rw [hx, ← burst_iff k m w]
  constructor
  · intro h1
    have h2 : magic ^^^ bitsF 0#32 (burst k m w) = magic ^^^ 0#32 := by rw [h1, BitVec.xor_zero]
    exact xor_cancel_l h2
  · intro h1
    rw [h1, BitVec.xor_zero]
end Go.Proofs.YtjpjnjidchdlbaaDoor
