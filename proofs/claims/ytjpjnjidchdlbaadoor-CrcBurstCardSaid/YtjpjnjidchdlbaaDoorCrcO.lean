/-
  The reference's Bit, Go, Seal: they tell what the code's tell.
-/
import Derived.Test.YtjpjnjidchdlbaaDoorCrcK
namespace Go.Proofs.YtjpjnjidchdlbaaDoor
set_option linter.unusedSimpArgs false
set_option linter.unusedVariables false
open Go
set_option maxRecDepth 100000
set_option maxHeartbeats 4000000
theorem has16 : Has Tryd.prog 16 Tryd.f16 := ⟨Tryd.func16, by kernel_rfl, by kernel_rfl⟩
theorem has18 : Has Tryd.prog 18 Tryd.f18 := ⟨Tryd.func18, by kernel_rfl, by kernel_rfl⟩
theorem has20 : Has Tryd.prog 20 Tryd.f20 := ⟨Tryd.func20, by kernel_rfl, by kernel_rfl⟩
theorem top_one (s : BitVec 32) : s >>> 31 = 0#32 ∨ s >>> 31 = 1#32 := by
  have h := s.isLt
  have e : (s >>> 31).toNat = s.toNat / 2147483648 := by rw [BitVec.toNat_ushiftRight, Nat.shiftRight_eq_div_pow]
  by_cases h1 : s.toNat < 2147483648
  · left; apply BitVec.eq_of_toNat_eq; rw [e]; show _ = 0; omega
  · right; apply BitVec.eq_of_toNat_eq; rw [e]; show _ = 1; omega
theorem shr31_32 (s : BitVec 32) : ((s.toNat : Int).fdiv (2 ^ min (Int.toNat 31) IntKind.u32.bits)) = ((s >>> 31).toNat : Int) := shr_32 s 31
theorem tab0 : tabB 0 = 0#32 := rfl
theorem tab1 : tabB 1 = 79764919#32 := rfl
theorem RefBit_c (G) (s : BitVec 32) (b : Bool) : AC Tryd.prog G 16 [W32 s, .bool b] [] (fun v h => v = W32 (bitF s b) ∧ h = []) := by
  refine ac_of_body tabOk has16 ?_
  unfold BodyOk
  conv => whnf
  rw [shr31_32, shl1_32]
  rcases top_one s with ht | ht <;> cases b <;> rw [ht] <;> conv => whnf
  all_goals
    refine ⟨rfl, fin_turnedK rfl ?_⟩
    conv => whnf
    refine ⟨?_, rfl⟩
    unfold bitF
    rw [ht]
  · show Value.int .u32 ((s <<< 1).toNat : Int) = Value.int .u32 (((s <<< 1) ^^^ 0#32).toNat : Int)
    rw [BitVec.xor_zero]
  · show Value.int .u32 (wrapS .u32 (((BitVec.ofInt IntKind.u32.bits ((s <<< 1).toNat : Int) ^^^ BitVec.ofInt IntKind.u32.bits ((79764919#32).toNat : Int)).toNat : Nat) : Int)) = _
    rw [xor_w]
    rfl
  · show Value.int .u32 (wrapS .u32 (((BitVec.ofInt IntKind.u32.bits ((s <<< 1).toNat : Int) ^^^ BitVec.ofInt IntKind.u32.bits ((79764919#32).toNat : Int)).toNat : Nat) : Int)) = _
    rw [xor_w]
    rfl
  · show Value.int .u32 ((s <<< 1).toNat : Int) = Value.int .u32 (((s <<< 1) ^^^ 0#32).toNat : Int)
    rw [BitVec.xor_zero]
def maskO18 : List (List Bool) := [[true, true, false, false, false, true, false, false, false, false, false, false, false, false, false, false], [false, false, false, false, false, false, false, false, false, false, false, false, false]]
def maskI18 : List (List Bool) := [[true, true, false, false, false, true, true, false, false, false, false, false, false, false, false, false], [false, false, false, false, false, false, false, false, false, false, false, false, false]]
theorem RefGo_row (tt t : TypeId) (s : BitVec 32) (c : Array Value) (off cap : Nat) (l : List UInt8) (hw : Win c off l) (hl : l.length ≤ 1000000000000) :
    AC Tryd.prog (GC tt) 18 [W32 s, slc 0 off l.length cap] [.pending c t] (fun v h => v = W32 (goF s l) ∧ h = [.pending c t]) := by
  refine ac_of_body tabOk has18 ?_
  unfold BodyOk
  conv => whnf
  refine aw_inv tabOk maskO18 (fun m s' => ∃ (i : Nat) (st : BitVec 32), m = l.length - i ∧ i ≤ l.length ∧ goF s (l.take i) = st ∧
    s' = ⟨[[W32 st, slc 0 off l.length cap, .chan none, .chan none, .chan none, .int .i64 (i : Int), .chan none, .chan none, .chan none, .chan none, .chan none, .chan none, .chan none, .chan none, .chan none, .chan none],
      [.chan none, .chan none, .chan none, .chan none, .chan none, .chan none, .chan none, .chan none, .chan none, .chan none, .chan none, .chan none, .chan none]], [.pending c t], []⟩) l.length ?_ ⟨0, s, rfl, Nat.zero_le _, rfl, rfl⟩
  rintro m s' ⟨i, st, rfl, hi, hst, rfl⟩
  conv => whnf
  refine ways (fun h3 => ?_) (fun h3 => ?_) <;> conv => whnf
  · have hlt : i < l.length := by simpa using h3
    obtain ⟨u, hu⟩ : ∃ u, l[i]? = some u := ⟨_, List.getElem?_eq_getElem hlt⟩
    refine aw_inv tabOk maskI18 (fun m s' => ∃ (n : Nat) (sn : BitVec 32), m = n ∧ n ≤ 8 ∧ remF u n sn = byteF st u ∧
      s' = ⟨[[W32 sn, slc 0 off l.length cap, .chan none, .chan none, .chan none, .int .i64 (i : Int), .int .i64 ((n : Int) - 1), .chan none, .chan none, .chan none, .chan none, .chan none, .chan none, .chan none, .chan none, .chan none],
      [.chan none, .chan none, .chan none, .chan none, .chan none, .chan none, .chan none, .chan none, .chan none, .chan none, .chan none, .chan none, .chan none]], [.pending c t], []⟩) 8 ?_ ⟨8, st, rfl, Nat.le_refl _, rem_byte st u, rfl⟩
    rintro n s' ⟨n', sn, rfl, hn, hrem, rfl⟩
    cases n with
    | zero =>
      conv => whnf
      have ek : wrapS .i64 ((i : Int) + 1) = ((i + 1 : Nat) : Int) := by rw [wrap64 (by omega) (by omega)]; omega
      rw [ek]
      refine ⟨l.length - (i + 1), by omega, i + 1, sn, rfl, by omega, ?_, rfl⟩
      rw [goF_succ s hu, hst, ← hrem]
      rfl
    | succ n =>
      have en1 : ((n + 1 : Nat) : Int) - 1 = (n : Int) := by omega
      rw [en1]
      conv => whnf
      refine way1 (by simp; omega) ?_
      conv => whnf
      refine nthK_of (l := c.toList) (hw.at hu) ?_
      conv => whnf
      refine way1 (by rw [u64n (by omega)]; simp) ?_
      conv => whnf
      rw [bit_at u (by omega)]
      refine ac_pure (RefBit_c (GC tt) sn (u.toNat.testBit n)) rfl ?_
      rintro w h' ⟨rfl, rfl⟩
      refine ⟨rfl, rfl, ?_⟩
      conv => whnf
      have ek : wrapS .i64 ((n : Int) - 1) = (n : Int) - 1 := wrap64 (by omega) (by omega)
      rw [ek]
      exact ⟨n, by omega, n, _, rfl, by omega, hrem, rfl⟩
  · have hin : i = l.length := by
      have : ¬ ((i : Int) < (l.length : Int)) := by simpa using h3
      omega
    subst hin
    rw [List.take_length] at hst
    refine ⟨rfl, fin_turnedK rfl ?_⟩
    conv => whnf
    exact ⟨by rw [hst], rfl⟩
theorem RefGo_nil (tt : TypeId) (s : BitVec 32) : AC Tryd.prog (GC tt) 18 [W32 s, .slice none 0 0] [] (fun v h => v = W32 s ∧ h = []) := by
  refine ac_of_body tabOk has18 ?_
  unfold BodyOk
  conv => whnf
  refine aw_rounds tabOk 1 ?_
  conv => whnf
  refine ⟨rfl, fin_turnedK rfl ?_⟩
  conv => whnf
  exact ⟨rfl, rfl⟩
theorem RefGo_s (tt : TypeId) (s : BitVec 32) {h : List Obj} {v : Value} {l : List UInt8} (hs : Sl h v l) (hl : l.length ≤ 1000000000000) : AC Tryd.prog (GC tt) 18 [W32 s, v] h (fun u h' => u = W32 (goF s l) ∧ h' = h) := by
  refine lift_s (pre := [W32 s]) rfl rfl (fun he => ?_) (fun c t off cap hw _ => RefGo_row tt t s c off cap l hw hl) hs
  subst he
  exact RefGo_nil tt s
theorem RefSeal_s (tt : TypeId) {h : List Obj} {v : Value} {l : List UInt8} (hs : Sl h v l) (hl : l.length ≤ 1000000000000) : AC Tryd.prog (GC tt) 20 [v] h (fun u h' => u = W32 (sealF l) ∧ h' = h) := by
  refine lift_s (pre := []) rfl rfl (fun he => ?_) (fun c t off cap hw _ => ?_) hs
  · subst he
    refine ac_of_body tabOk has20 ?_
    unfold BodyOk
    conv => whnf
    refine ac_mono (RefGo_nil tt 4294967295#32) ?_
    rintro v h' ⟨rfl, rfl⟩
    conv => whnf
    refine ⟨rfl, fin_turnedK rfl ?_⟩
    conv => whnf
    exact ⟨by rw [not_w]; rfl, rfl⟩
  · refine ac_of_body tabOk has20 ?_
    unfold BodyOk
    conv => whnf
    refine ac_mono (RefGo_row tt t 4294967295#32 c off cap l hw hl) ?_
    rintro v h' ⟨rfl, rfl⟩
    conv => whnf
    refine ⟨rfl, fin_turnedK rfl ?_⟩
    conv => whnf
    exact ⟨by rw [not_w]; rfl, rfl⟩
end Go.Proofs.YtjpjnjidchdlbaaDoor
