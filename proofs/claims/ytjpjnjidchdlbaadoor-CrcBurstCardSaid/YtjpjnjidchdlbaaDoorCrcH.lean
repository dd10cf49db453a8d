/-
  CrcApart: what it hands back, and the plain law behind it.
-/
import Derived.Test.YtjpjnjidchdlbaaDoorCrcG
namespace Go.Proofs.YtjpjnjidchdlbaaDoor
set_option linter.unusedSimpArgs false
set_option linter.unusedVariables false
open Go
set_option maxRecDepth 100000
set_option maxHeartbeats 4000000
/-! ## The plain law: Go's step is one to one in the state, and in the byte -/
theorem tab_low : ∀ x : _root_.Fin 16, ∀ y : _root_.Fin 16, (tabB x.val).toNat % 16 = (tabB y.val).toNat % 16 → x = y := by decide
theorem xor_low {a b c d : BitVec 32} (h : a ^^^ b = c ^^^ d) (ha : a.toNat % 16 = 0) (hc : c.toNat % 16 = 0) : b.toNat % 16 = d.toNat % 16 := by
  have e := congrArg BitVec.toNat h
  rw [BitVec.toNat_xor, BitVec.toNat_xor] at e
  have e2 := congrArg (· % 2 ^ 4) e
  simp only [Nat.xor_mod_two_pow] at e2
  rw [show (2 : Nat) ^ 4 = 16 from rfl, ha, hc, Nat.zero_xor, Nat.zero_xor] at e2
  exact e2
theorem shl4_low (s : BitVec 32) : (s <<< 4).toNat % 16 = 0 := by
  rw [BitVec.toNat_shiftLeft, Nat.shiftLeft_eq]
  omega
theorem xor_cancel_r {a b c : BitVec 32} (h : a ^^^ c = b ^^^ c) : a = b := by
  have := congrArg (· ^^^ c) h
  simpa [BitVec.xor_assoc] using this
theorem xor_cancel_l {a b c : BitVec 32} (h : c ^^^ a = c ^^^ b) : a = b := by
  rw [BitVec.xor_comm c a, BitVec.xor_comm c b] at h
  exact xor_cancel_r h
theorem tab_inj {x y : Nat} (hx : x < 16) (hy : y < 16) (h : (tabB x).toNat % 16 = (tabB y).toNat % 16) : x = y :=
  congrArg _root_.Fin.val (tab_low ⟨x, hx⟩ ⟨y, hy⟩ h)
/-- a step of four bits tells the state but for its four high bits, and these against the four that come in -/
theorem nib_eq {s t : BitVec 32} {m n : Nat} (hm : m < 16) (hn : n < 16) (h : nibF s (BitVec.ofNat 32 m) = nibF t (BitVec.ofNat 32 n)) :
    s <<< 4 = t <<< 4 ∧ (s >>> 28) ^^^ BitVec.ofNat 32 m = (t >>> 28) ^^^ BitVec.ofNat 32 n := by
  have e := tab_inj (nib_lt s hm) (nib_lt t hn) (xor_low h (shl4_low s) (shl4_low t))
  have e2 : (s >>> 28) ^^^ BitVec.ofNat 32 m = (t >>> 28) ^^^ BitVec.ofNat 32 n := BitVec.eq_of_toNat_eq e
  refine ⟨?_, e2⟩
  unfold nibF at h
  rw [e2] at h
  exact xor_cancel_r h
theorem of_parts {s t : BitVec 32} (h1 : s <<< 4 = t <<< 4) (h2 : s >>> 28 = t >>> 28) : s = t := by
  apply BitVec.eq_of_toNat_eq
  have e1 := congrArg BitVec.toNat h1
  have e2 := congrArg BitVec.toNat h2
  rw [BitVec.toNat_shiftLeft, BitVec.toNat_shiftLeft, Nat.shiftLeft_eq, Nat.shiftLeft_eq] at e1
  rw [BitVec.toNat_ushiftRight, BitVec.toNat_ushiftRight, Nat.shiftRight_eq_div_pow, Nat.shiftRight_eq_div_pow] at e2
  have := s.isLt
  have := t.isLt
  omega
theorem nib_inj_s {s t : BitVec 32} {m : Nat} (hm : m < 16) (h : nibF s (BitVec.ofNat 32 m) = nibF t (BitVec.ofNat 32 m)) : s = t := by
  obtain ⟨h1, h2⟩ := nib_eq hm hm h
  exact of_parts h1 (xor_cancel_r h2)
theorem ofNat_inj {m n : Nat} (hm : m < 16) (hn : n < 16) (h : BitVec.ofNat 32 m = BitVec.ofNat 32 n) : m = n := by
  have e := congrArg BitVec.toNat h
  simp only [BitVec.toNat_ofNat] at e
  omega
theorem nib_inj_n {s : BitVec 32} {m n : Nat} (hm : m < 16) (hn : n < 16) (h : nibF s (BitVec.ofNat 32 m) = nibF s (BitVec.ofNat 32 n)) : m = n :=
  ofNat_inj hm hn (xor_cancel_l (nib_eq hm hn h).2)
theorem hi_lt (b : UInt8) : b.toNat / 16 < 16 := by have := b.toNat_lt; omega
theorem lo_lt (b : UInt8) : b.toNat % 16 < 16 := by omega
theorem byte_inj_s {s t : BitVec 32} {b : UInt8} (h : byteF s b = byteF t b) : s = t := nib_inj_s (hi_lt b) (nib_inj_s (lo_lt b) h)
theorem shl4_tab {s : BitVec 32} {m n : Nat} (hm : m < 16) (hn : n < 16) (h : nibF s (BitVec.ofNat 32 m) <<< 4 = nibF s (BitVec.ofNat 32 n) <<< 4) : m = n := by
  have e : (nibF s (BitVec.ofNat 32 m)).toNat % 16 = (nibF s (BitVec.ofNat 32 n)).toNat % 16 := by
    have := congrArg BitVec.toNat h
    rw [BitVec.toNat_shiftLeft, BitVec.toNat_shiftLeft, Nat.shiftLeft_eq, Nat.shiftLeft_eq] at this
    omega
  unfold nibF at e
  have low : ∀ x : BitVec 32, ((s <<< 4) ^^^ x).toNat % 16 = x.toNat % 16 := by
    intro x
    have e0 := Nat.xor_mod_two_pow (a := (s <<< 4).toNat) (b := x.toNat) (n := 4)
    rw [show (2 : Nat) ^ 4 = 16 from rfl, shl4_low, Nat.zero_xor] at e0
    rw [BitVec.toNat_xor]
    exact e0
  rw [low, low] at e
  have e2 := tab_inj (nib_lt s hm) (nib_lt s hn) e
  exact ofNat_inj hm hn (xor_cancel_l (BitVec.eq_of_toNat_eq e2))
theorem byte_inj_b {s : BitVec 32} {b c : UInt8} (h : byteF s b = byteF s c) : b = c := by
  obtain ⟨h1, h2⟩ := nib_eq (lo_lt b) (lo_lt c) h
  have e1 := shl4_tab (hi_lt b) (hi_lt c) h1
  rw [e1] at h2
  have e2 := ofNat_inj (lo_lt b) (lo_lt c) (xor_cancel_l h2)
  apply UInt8.toNat_inj.1
  omega
theorem bit_ne (s : BitVec 32) : bitF s true ≠ bitF s false := by
  intro h
  unfold bitF at h
  have h2 := xor_cancel_l h
  have h3 := tab_inj (xor_lt (top_lt s) (by decide)) (xor_lt (top_lt s) (by decide)) (congrArg (fun x => x.toNat % 16) h2)
  have h4 := xor_cancel_l (BitVec.eq_of_toNat_eq h3)
  cases h4
theorem go1_s (s : BitVec 32) (b : UInt8) : goF s [b] = byteF s b := rfl
theorem apart1 (s t : BitVec 32) (b : UInt8) : (goF s [b] = goF t [b]) = (s = t) := by
  rw [go1_s, go1_s]
  exact propext ⟨byte_inj_s, fun h => by rw [h]⟩
theorem apart2 (s : BitVec 32) (b c : UInt8) : (goF s [b] = goF s [c]) = (b = c) := by
  rw [go1_s, go1_s]
  exact propext ⟨byte_inj_b, fun h => by rw [h]⟩
theorem w32_beq (x y : BitVec 32) : ((x.toNat : Int) == (y.toNat : Int)) = decide (x = y) := by
  rw [Bool.eq_iff_iff]
  simp only [beq_iff_eq, decide_eq_true_eq]
  exact ⟨fun h => BitVec.eq_of_toNat_eq (Int.ofNat_inj.1 h), fun h => by rw [h]⟩
theorem u8_beq (x y : UInt8) : ((x.toNat : Int) == (y.toNat : Int)) = decide (x = y) := by
  rw [Bool.eq_iff_iff]
  simp only [beq_iff_eq, decide_eq_true_eq]
  exact ⟨fun h => UInt8.toNat_inj.1 (Int.ofNat_inj.1 h), fun h => by rw [h]⟩
theorem ap1 (s t : BitVec 32) (b : UInt8) : ((((goF s [b]).toNat : Int) == ((goF t [b]).toNat : Int)) == ((s.toNat : Int) == (t.toNat : Int))) = true := by
  rw [w32_beq, w32_beq, beq_iff_eq, decide_eq_decide, apart1]
theorem ap2 (s : BitVec 32) (b c : UInt8) : ((((goF s [b]).toNat : Int) == ((goF s [c]).toNat : Int)) == ((b.toNat : Int) == (c.toNat : Int))) = true := by
  rw [w32_beq, u8_beq, beq_iff_eq, decide_eq_decide, apart2]
theorem ap3 (s : BitVec 32) : (!(((bitF s true).toNat : Int) == ((bitF s false).toNat : Int))) = true := by
  rw [w32_beq, decide_eq_false (bit_ne s)]; rfl
theorem has6 : Has Tryd.prog 6 Tryd.f6 := ⟨Tryd.func6, by kernel_rfl, by kernel_rfl⟩
theorem sl1 (h : List Obj) (m : Nat) (b : UInt8) {g : Nat × Nat} (hm : h[m]? = some (.cells ⟨[cU8 b]⟩ 5 g)) : Sl h (slc m 0 1 1) [b] := by
  refine .inr ⟨m, 0, 1, _, 5, rfl, .inr ⟨cU8_clean [b], _, hm⟩, ?_, Nat.le_refl 1⟩
  have := win_own (l := [b]) (rest := [])
  rw [List.append_nil] at this
  exact this
theorem Apart_c (tt : TypeId) (s t : BitVec 32) (b c : UInt8) : AC Tryd.prog (GC tt) 6 [W32 s, W32 t, cU8 b, cU8 c] [] (fun v h => v = .bool true ∧ h = []) := by
  refine ac_of_body tabOk has6 ?_
  unfold BodyOk
  conv => whnf
  refine ac_mono (Go_s tt s (sl1 _ 0 b rfl) (by show 1 ≤ _; omega)) ?_
  rintro v h' ⟨rfl, rfl⟩
  conv => whnf
  refine ac_mono (Go_s tt t (sl1 _ 1 b rfl) (by show 1 ≤ _; omega)) ?_
  rintro v h' ⟨rfl, rfl⟩
  conv => whnf
  refine way1 (ap1 s t b) ?_
  conv => whnf
  refine ac_mono (Go_s tt s (sl1 _ 2 b rfl) (by show 1 ≤ _; omega)) ?_
  rintro v h' ⟨rfl, rfl⟩
  conv => whnf
  refine ac_mono (Go_s tt s (sl1 _ 3 c rfl) (by show 1 ≤ _; omega)) ?_
  rintro v h' ⟨rfl, rfl⟩
  conv => whnf
  refine way1 (ap2 s b c) ?_
  conv => whnf
  refine ac_pure (Bit_c tt s true) rfl ?_
  rintro v h' ⟨rfl, rfl⟩
  refine ⟨rfl, rfl, ?_⟩
  conv => whnf
  refine ac_pure (Bit_c tt s false) rfl ?_
  rintro v h' ⟨rfl, rfl⟩
  refine ⟨rfl, rfl, ?_⟩
  conv => whnf
  refine way1 (ap3 s) ?_
  conv => whnf
  refine ac_pure (wakes_c tt) rfl ?_
  rintro v h' ⟨rfl, rfl⟩
  refine ⟨rfl, rfl, ?_⟩
  conv => whnf
  refine ⟨rfl, fin_turnedK rfl ?_⟩
  conv => whnf
  exact ⟨rfl, rfl⟩
end Go.Proofs.YtjpjnjidchdlbaaDoor
