/-
  Go: what it makes of a state and bytes.
-/
import Derived.Test.YtjpjnjidchdlbaaDoorCrcA
namespace Go.Proofs.YtjpjnjidchdlbaaDoor
set_option linter.unusedSimpArgs false
set_option linter.unusedVariables false
open Go
set_option maxRecDepth 100000
set_option maxHeartbeats 4000000
def nibF (s h : BitVec 32) : BitVec 32 := (s <<< 4) ^^^ tabB ((s >>> 28) ^^^ h).toNat
def byteF (s : BitVec 32) (b : UInt8) : BitVec 32 := nibF (nibF s (BitVec.ofNat 32 (b.toNat / 16))) (BitVec.ofNat 32 (b.toNat % 16))
def goF (s : BitVec 32) (l : List UInt8) : BitVec 32 := l.foldl byteF s
theorem goF_succ (s : BitVec 32) {l : List UInt8} {k : Nat} {b : UInt8} (h : l[k]? = some b) : goF s (l.take (k + 1)) = byteF (goF s (l.take k)) b := by
  have hlt : k < l.length := (List.getElem?_eq_some_iff.1 h).1
  have hb : l[k] = b := (List.getElem?_eq_some_iff.1 h).2
  simp only [goF]
  rw [List.take_succ_eq_append_getElem hlt, List.foldl_append, hb]
  rfl
/-- the bytes l lie there -/
def Win (c : Array Value) (off : Nat) (l : List UInt8) : Prop := ∀ j (b : UInt8), l[j]? = some b → c[off + j]? = some (cU8 b)
theorem Win.at {c : Array Value} {off : Nat} {l : List UInt8} (h : Win c off l) {k : Nat} {b : UInt8} (hb : l[k]? = some b) : c.toList[off + Int.toNat (k : Int) * 1]? = some (cU8 b) := by
  have := h k b hb
  simpa using this
theorem hiN (b : UInt8) : wrapS .u32 ((b.toNat : Int).fdiv (2 ^ min (Int.toNat 4) IntKind.u8.bits)) = ((b.toNat / 16 : Nat) : Int) := by
  show wrapS .u32 (Int.fdiv (b.toNat : Int) 16) = _
  have := b.toNat_lt
  rw [Int.fdiv_eq_ediv_of_nonneg _ (by decide), wrap_u32]
  omega
theorem loN (b : UInt8) : wrapS .u32 (wrapS .u8 (((BitVec.ofInt IntKind.u8.bits (b.toNat : Int) &&& BitVec.ofInt IntKind.u8.bits 15).toNat : Nat) : Int)) = ((b.toNat % 16 : Nat) : Int) := by
  rw [and_8, ofInt_8]
  have h : (b.toBitVec &&& BitVec.ofInt 8 15).toNat = b.toNat % 16 := by
    rw [BitVec.toNat_and]
    exact Nat.and_two_pow_sub_one_eq_mod b.toNat 4
  rw [h]
  exact conv_32 _ (by omega)
theorem shl4_32 (s : BitVec 32) : wrapS .u32 ((s.toNat : Int) * 2 ^ min (Int.toNat 4) IntKind.u32.bits) = ((s <<< 4).toNat : Int) := shl_32 s 4
theorem idx4 (s : BitVec 32) (n : Nat) : wrapS .u32 (((BitVec.ofInt IntKind.u32.bits ((s.toNat : Int).fdiv (2 ^ min (Int.toNat 28) IntKind.u32.bits)) ^^^ BitVec.ofInt IntKind.u32.bits (n : Int)).toNat : Nat) : Int) = (((s >>> 28) ^^^ BitVec.ofNat 32 n).toNat : Int) := by
  rw [show (s.toNat : Int).fdiv (2 ^ min (Int.toNat 28) IntKind.u32.bits) = ((s >>> 28).toNat : Int) from shr_32 s 28, xor_32, ofInt_32, BitVec.ofInt_natCast]
theorem nib_lt (s : BitVec 32) {n : Nat} (h : n < 16) : ((s >>> 28) ^^^ BitVec.ofNat 32 n).toNat < 16 := xor_lt (top4_lt s) (by simp; omega)
theorem wrap64 {n : Int} (h1 : -9223372036854775808 ≤ n) (h2 : n ≤ 9223372036854775807) : wrapS .i64 n = n := by
  rw [wrapS_eq]; simp [IntKind.wrap, IntKind.signed, IntKind.bits]; omega
theorem aw_state {P : Program} {G : List (Nat × Obj)} {ro : Option Nat} {c : Code} {s : St} {K : Exit → St → Prop} (h : ∀ s0, s0 = s → AW P G ro c s0 K) : AW P G ro c s K := h s rfl
theorem has17 : Has Tryd.prog 17 Tryd.f17 := ⟨Tryd.func17, by kernel_rfl, by kernel_rfl⟩
theorem has51 : Has Tryd.prog 51 Tryd.f51 := ⟨Tryd.func51, by kernel_rfl, by kernel_rfl⟩
theorem has65 : Has Tryd.prog 65 Tryd.f65 := ⟨Tryd.func65, by kernel_rfl, by kernel_rfl⟩
theorem Go_row (tt t : TypeId) (s : BitVec 32) (c : Array Value) (off cap : Nat) (l : List UInt8) (hw : Win c off l) (hl : l.length ≤ 1000000000000) :
    AC Tryd.prog (GC tt) 17 [W32 s, slc 0 off l.length cap] [.pending c t] (fun v h => v = W32 (goF s l) ∧ h = [.pending c t]) := by
  refine ac_of_body tabOk has17 ?_
  unfold BodyOk
  conv => whnf
  refine ac_of_body tabOk has51 ?_
  unfold BodyOk
  conv => whnf
  refine ⟨rfl, fin_all [_, _] [_] rfl rfl rfl rfl rfl ?_⟩
  conv => whnf
  refine aw_rangeK tabOk ?_
  conv => whnf
  intro ln fn
  refine ac_of_body tabOk has65 ?_
  unfold BodyOk
  conv => whnf
  refine aw_state fun s0 hs0 => ?_
  refine aw_loop tabOk (fun m s' => ∃ (k : Nat) (st : BitVec 32) (a4 a8 a9 a10 a11 a12 a13 a14 a15 a16 a17 a18 a19 a20 a21 a22 a23 a24 a25 : Value), m = l.length - k ∧ k ≤ l.length ∧ goF s (l.take k) = st ∧
    s' = ⟨[[.func (.yield ln) #[] #[], ptr 2 0, undef, undef, a4, slc 0 off l.length cap, .int .i64 (l.length : Int), .int .i64 (k : Int), a8, a9, a10, a11, a12, a13, a14, a15], [a16, a17, a18, a19, a20, a21, a22, a23, a24, a25]],
      s0.h.set 1 (.cells ⟨[W32 st]⟩ 22), s0.d⟩) l.length ?_ ⟨0, s, undef, undef, undef, undef, undef, undef, undef, undef, undef, undef, undef, undef, undef, undef, undef, undef, undef, undef, undef, rfl, Nat.zero_le _, rfl, ?_⟩
  rotate_left
  · subst hs0; rfl
  rintro m s' ⟨k, st, a4, a8, a9, a10, a11, a12, a13, a14, a15, a16, a17, a18, a19, a20, a21, a22, a23, a24, a25, rfl, hk, hst, rfl⟩
  subst hs0
  conv => whnf
  refine ways (fun h1 => ?_) (fun h1 => ?_) <;> conv => whnf
  · have hlt : k < l.length := by simpa using h1
    obtain ⟨b, hb⟩ : ∃ b, l[k]? = some b := ⟨_, List.getElem?_eq_getElem hlt⟩
    refine way1 (by simp; omega) ?_
    conv => whnf
    refine nthK_of (l := c.toList) (hw.at hb) ?_
    conv => whnf
    rw [hiN]
    refine ao_yieldK 4 2 rfl rfl (by conv => whnf) ?_
    conv => whnf
    repeat' first
      | (refine run_ok tabOk _ _ _ ?_; conv => whnf)
      | (refine And.intro rfl (And.intro rfl ?_); conv => whnf)
      | (refine And.intro rfl ?_; conv => whnf)
    refine ad_of tabOk (by kernel_rfl) [(0, false), (1, false), (2, false), (3, false), (4, false), (5, false), (6, false), (7, false), (8, false), (9, true)] (by kernel_rfl) ?_
    conv => whnf
    rw [idx4, shl4_32]
    refine way1 (in16 (nib_lt st (by have := b.toNat_lt; omega))) ?_
    conv => whnf
    refine nthK_of (l := tabA.toList) (tab_at (nib_lt st (by have := b.toNat_lt; omega))) ?_
    conv => whnf
    rw [xor_w]
    refine And.intro rfl ?_
    conv => whnf
    rw [loN]
    refine ao_yieldK 4 2 rfl rfl (by conv => whnf) ?_
    conv => whnf
    repeat' first
      | (refine run_ok tabOk _ _ _ ?_; conv => whnf)
      | (refine And.intro rfl (And.intro rfl ?_); conv => whnf)
      | (refine And.intro rfl ?_; conv => whnf)
    refine ad_of tabOk (by kernel_rfl) [(0, false), (1, false), (2, false), (3, false), (4, false), (5, false), (6, false), (7, false), (8, false), (9, true)] (by kernel_rfl) ?_
    conv => whnf
    rw [idx4, shl4_32]
    refine way1 (in16 (nib_lt _ (by omega))) ?_
    conv => whnf
    refine nthK_of (l := tabA.toList) (tab_at (nib_lt _ (by omega))) ?_
    conv => whnf
    rw [xor_w]
    refine And.intro rfl ?_
    conv => whnf
    have ek : wrapS .i64 ((k : Int) + 1) = ((k + 1 : Nat) : Int) := by rw [wrap64 (by omega) (by omega)]; omega
    rw [ek]
    exact ⟨l.length - (k + 1), by omega, k + 1, byteF st b, _, _, _, _, _, _, _, _, _, _, _, _, _, _, _, _, _, _, _, rfl, by omega, by rw [goF_succ s hb, hst], rfl⟩
  · have hk2 : k = l.length := by
      have : ¬ ((k : Int) < (l.length : Int)) := by simpa using h1
      omega
    subst hk2
    rw [List.take_length] at hst
    subst hst
    refine And.intro rfl (fin_turnedK rfl ?_)
    conv => whnf
    repeat' first
      | (refine And.intro (Eq.refl true) ?_)
      | (refine And.intro rfl (And.intro (fun h => by cases h) ?_); conv => whnf)
      | (refine And.intro rfl (And.intro rfl ?_); conv => whnf)
      | (refine And.intro rfl ?_; conv => whnf)
    all_goals (refine fin_turnedK rfl ?_; conv => whnf)
    exact ⟨rfl, rfl⟩
end Go.Proofs.YtjpjnjidchdlbaaDoor
