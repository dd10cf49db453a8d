/-
  Close: what it lays.
-/
import Derived.Test.YtjpjnjidchdlbaaDoorCrcD
namespace Go.Proofs.YtjpjnjidchdlbaaDoor
set_option linter.unusedSimpArgs false
set_option linter.unusedVariables false
open Go
set_option maxRecDepth 100000
set_option maxHeartbeats 4000000
/-- a seal's byte -/
def sb (s : BitVec 32) (k : Nat) : UInt8 := UInt8.ofNat (s.toNat / 2 ^ k)
def be (s : BitVec 32) : List UInt8 := [sb s 24, sb s 16, sb s 8, sb s 0]
def closeF (l : List UInt8) : List UInt8 := l ++ be (sealF l)
theorem sb_nf (s : BitVec 32) (k : Nat) : wrapS .u8 (Int.fdiv (s.toNat : Int) (2 ^ k)) = ((sb s k).toNat : Int) := by
  have h : (2 : Int) ^ k = ((2 ^ k : Nat) : Int) := by simp
  rw [h, Int.fdiv_eq_ediv_of_nonneg _ (Int.natCast_nonneg _), ← Int.natCast_ediv, wrap_u8]
  simp [sb]
theorem sb24 (s : BitVec 32) : wrapS .u8 ((s.toNat : Int).fdiv (2 ^ min (Int.toNat 24) IntKind.u32.bits)) = ((sb s 24).toNat : Int) := sb_nf s 24
theorem sb16 (s : BitVec 32) : wrapS .u8 ((s.toNat : Int).fdiv (2 ^ min (Int.toNat 16) IntKind.u32.bits)) = ((sb s 16).toNat : Int) := sb_nf s 16
theorem sb8 (s : BitVec 32) : wrapS .u8 ((s.toNat : Int).fdiv (2 ^ min (Int.toNat 8) IntKind.u32.bits)) = ((sb s 8).toNat : Int) := sb_nf s 8
theorem sb0 (s : BitVec 32) : wrapS .u8 (s.toNat : Int) = ((sb s 0).toNat : Int) := by
  have := sb_nf s 0
  simpa using this
theorem has22 : Has Tryd.prog 22 Tryd.f22 := ⟨Tryd.func22, by kernel_rfl, by kernel_rfl⟩
theorem Clone_nil (G) : AC Tryd.prog G 50 [.slice none 0 0] [] (fun v h => v = .slice none 0 0 ∧ h = []) := by
  refine ac_of_body tabOk has50 ?_
  unfold BodyOk
  conv => whnf
  refine ⟨rfl, fin_self rfl rfl ⟨rfl, rfl⟩⟩
theorem Close_row (tt : TypeId) (c : Array Value) (t : TypeId) (off cap : Nat) (l : List UInt8) (hw : Win c off l) (hcap : l.length ≤ cap) (hl : l.length ≤ 100000000000) :
    AC Tryd.prog (GC tt) 22 [slc 0 off l.length cap] [.pending c t] (fun v h => ∃ cp rest, v = slc 1 0 (l.length + 4) cp ∧ h = [.pending c t, .cells ⟨(closeF l).map cU8 ++ rest⟩ 5] ∧ RowOf (closeF l) cp rest) := by
  refine ac_of_body tabOk has22 ?_
  unfold BodyOk
  conv => whnf
  refine ac_mono (Seal_s tt (h := [.pending c t]) (l := l) (.inr ⟨0, off, cap, c, t, rfl, .inl rfl, hw, hcap⟩) (by omega)) ?_
  rintro v h' ⟨rfl, rfl⟩
  conv => whnf
  refine ac_mono (Clone_row (GC tt) c t off cap l hw (by omega)) ?_
  rintro v h' ⟨cp, rest, rfl, rfl, hr1, hr2⟩
  conv => whnf
  rw [sb24, sb16, sb8, sb0]
  have hcl : ∀ x ∈ (closeF l).map cU8, cleanV x = true := cU8_clean _
  by_cases hroom : l.length + 4 ≤ cp
  · refine ao_room (b := 1) (off := 0) (lx := l.length) (cx := cp) (ly := 4) (vy := slc 2 0 4 4) (news := (be (sealF l)).map cU8) (c := ⟨l.map cU8 ++ rest⟩) (i := ti23) (j := ti5) (e := 5) tabOk rfl (by conv => whnf) (by conv => whnf) rfl rfl rfl rfl rfl rfl rfl
      (.row (ob := .cells ⟨(be (sealF l)).map cU8⟩ 5) rfl (fun j x hj => by simpa using hj) rfl (cU8_clean _)) hroom (by show 0 + (l.length + 4) * 1 ≤ _; simp; omega) ?_
    conv => whnf
    have e : (l.map cU8 ++ rest).take (0 + l.length * ti5.size) ++ (be (sealF l)).map cU8 ++ (l.map cU8 ++ rest).drop (0 + l.length * ti5.size + ((be (sealF l)).map cU8).length) = (closeF l).map cU8 ++ rest.drop 4 := by
      have h1 : 0 + l.length * ti5.size = (l.map cU8).length := by show 0 + l.length * 1 = _; simp
      have h2 : ((be (sealF l)).map cU8).length = 4 := rfl
      rw [h1, h2, List.take_left', List.drop_append, List.drop_eq_nil_of_le (by omega), Nat.add_sub_cancel_left]
      · simp [closeF]
      · rfl
    refine ⟨rfl, fin_one 1 ⟨[_, _], rfl⟩ (by simp) rfl ?_ (u := slc 1 0 (l.length + 4) cp) rfl rfl ⟨cp, rest.drop 4, rfl, ?_, ?_, fun x hx => hr2 x (List.mem_of_mem_drop hx)⟩⟩
    · intro x hx
      replace hx : x ∈ (l.map cU8 ++ rest).take (0 + l.length * ti5.size) ++ (be (sealF l)).map cU8 ++ (l.map cU8 ++ rest).drop (0 + l.length * ti5.size + ((be (sealF l)).map cU8).length) := hx
      rw [e] at hx
      rcases List.mem_append.1 hx with hx | hx
      · exact hcl x hx
      · exact hr2 x (List.mem_of_mem_drop hx)
    · rw [← e]
      rfl
    · simp [closeF, be]
      omega
  · refine ao_grow (lx := l.length) (cx := cp) (ly := 4) (olds := l.map cU8) (news := (be (sealF l)).map cU8) (px := some ⟨1, 0, some 0⟩) (vx := slc 1 0 l.length cp) (vy := slc 2 0 4 4) (i := ti23) (j := ti5) (e := 5) tabOk rfl (by conv => whnf) (by conv => whnf) rfl rfl rfl rfl rfl rfl
      (.row (ob := .cells ⟨l.map cU8 ++ rest⟩ 5) rfl ?_ (by show _ = l.length * 1; simp) (cU8_clean l))
      (.row (ob := .cells ⟨(be (sealF l)).map cU8⟩ 5) rfl (fun j x hj => by simpa using hj) rfl (cU8_clean _)) (by omega) (by show (l.length + 4) * 1 ≤ _; omega) (by omega) ?_
    · intro j x hj
      show (l.map cU8 ++ rest).toArray[0 + j]? = some x
      rw [Nat.zero_add, List.getElem?_toArray, List.getElem?_append_left (List.getElem?_eq_some_iff.1 hj).1]
      exact hj
    intro cp2 hcp
    conv => whnf
    have e : l.map cU8 ++ (be (sealF l)).map cU8 ++ (Builtin.zeroCells ti5.zero.cells (cp2 - (l.length + 4))).toList = (closeF l).map cU8 ++ (Builtin.zeroCells ti5.zero.cells (cp2 - (l.length + 4))).toList := by
      simp [closeF]
    refine ⟨rfl, fin_one 3 ⟨[_, _, _], rfl⟩ (by simp) rfl ?_ (u := slc 1 0 (l.length + 4) cp2) rfl rfl ⟨cp2, (Builtin.zeroCells ti5.zero.cells (cp2 - (l.length + 4))).toList, rfl, ?_, ?_, zeros_clean ti5.zero.cells rfl _⟩⟩
    · intro x hx
      replace hx : x ∈ l.map cU8 ++ (be (sealF l)).map cU8 ++ (Builtin.zeroCells ti5.zero.cells (cp2 - (l.length + 4))).toList := hx
      rw [e] at hx
      rcases List.mem_append.1 hx with hx | hx
      · exact hcl x hx
      · exact zeros_clean ti5.zero.cells rfl _ x hx
    · rw [← e]
      rfl
    · simp [closeF, be, Builtin.zeroCells]
      have : ti5.zero.cells.size = 1 := rfl
      rw [this]
      omega
theorem Close_nil (tt : TypeId) : AC Tryd.prog (GC tt) 22 [.slice none 0 0] [] (fun v h => ∃ cp rest, v = slc 0 0 4 cp ∧ h = [.cells ⟨(closeF []).map cU8 ++ rest⟩ 5] ∧ RowOf (closeF []) cp rest) := by
  refine ac_of_body tabOk has22 ?_
  unfold BodyOk
  conv => whnf
  refine ac_mono (Seal_s tt (h := []) (l := []) (.inl ⟨rfl, rfl⟩) (by simp)) ?_
  rintro v h' ⟨rfl, rfl⟩
  conv => whnf
  refine ac_mono (Clone_nil (GC tt)) ?_
  rintro v h' ⟨rfl, rfl⟩
  conv => whnf
  rw [sb24, sb16, sb8, sb0]
  refine ao_grow (lx := 0) (cx := 0) (ly := 4) (olds := []) (news := (be (sealF [])).map cU8) (px := none) (vx := .slice none 0 0) (vy := slc 0 0 4 4) (i := ti23) (j := ti5) (e := 5) tabOk rfl (by conv => whnf) (by conv => whnf) rfl rfl rfl rfl rfl rfl
    (.nil 0) (.row (ob := .cells ⟨(be (sealF [])).map cU8⟩ 5) rfl (fun j x hj => by simpa using hj) rfl (cU8_clean _)) (by omega) (by decide) (by omega) ?_
  intro cp2 hcp
  conv => whnf
  refine ⟨rfl, fin_one 1 ⟨[_, _], rfl⟩ (by simp) rfl ?_ (u := slc 0 0 4 cp2) rfl rfl ⟨cp2, (Builtin.zeroCells ti5.zero.cells (cp2 - 4)).toList, rfl, rfl, ?_, zeros_clean ti5.zero.cells rfl _⟩⟩
  · intro x hx
    replace hx : x ∈ (closeF []).map cU8 ++ (Builtin.zeroCells ti5.zero.cells (cp2 - 4)).toList := hx
    rcases List.mem_append.1 hx with hx | hx
    · exact cU8_clean _ x hx
    · exact zeros_clean ti5.zero.cells rfl _ x hx
  · simp [closeF, be, Builtin.zeroCells]
    have : ti5.zero.cells.size = 1 := rfl
    rw [this]
    omega
end Go.Proofs.YtjpjnjidchdlbaaDoor
