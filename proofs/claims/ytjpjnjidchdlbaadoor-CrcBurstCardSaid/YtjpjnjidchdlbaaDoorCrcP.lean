/-
  The reference's Close.
-/
import Derived.Test.YtjpjnjidchdlbaaDoorCrcO
namespace Go.Proofs.YtjpjnjidchdlbaaDoor
set_option linter.unusedSimpArgs false
set_option linter.unusedVariables false
open Go
set_option maxRecDepth 100000
set_option maxHeartbeats 4000000
theorem has23 : Has Tryd.prog 23 Tryd.f23 := ⟨Tryd.func23, by kernel_rfl, by kernel_rfl⟩
theorem RefClose_row (tt : TypeId) (c : Array Value) (t : TypeId) (off cap : Nat) (l : List UInt8) (hw : Win c off l) (hcap : l.length ≤ cap) (hl : l.length ≤ 100000000000) :
    AC Tryd.prog (GC tt) 23 [slc 0 off l.length cap] [.pending c t] (fun v h => ∃ cp rest, v = slc 1 0 (l.length + 4) cp ∧ h = [.pending c t, .cells ⟨(closeF l).map cU8 ++ rest⟩ 5] ∧ RowOf (closeF l) cp rest) := by
  refine ac_of_body tabOk has23 ?_
  unfold BodyOk
  conv => whnf
  refine ac_mono (RefSeal_s tt (h := [.pending c t]) (l := l) (.inr ⟨0, off, cap, c, t, rfl, .inl rfl, hw, hcap⟩) (by omega)) ?_
  rintro v h' ⟨rfl, rfl⟩
  conv => whnf
  have hcl : ∀ x ∈ (closeF l).map cU8, cleanV x = true := cU8_clean _
  by_cases h0 : l.length = 0
  · have h1 : l = [] := List.length_eq_zero_iff.1 h0
    subst h1
    refine ao_room (b := 1) (off := 0) (lx := 0) (cx := 0) (ly := 0) (vy := slc 0 off ([] : List UInt8).length cap) (i := ti23) (j := ti5) (e := 5) tabOk rfl (by conv => whnf) (by conv => whnf) rfl rfl rfl rfl rfl rfl rfl (win_row rfl hw) (by decide) (by decide) ?_
    conv => whnf
    rw [sb24, sb16, sb8, sb0]
    refine ao_grow (lx := 0) (cx := 0) (ly := 4) (olds := []) (news := (be (sealF [])).map cU8) (px := some ⟨1, 0, some 0⟩) (vx := slc 1 0 0 0) (vy := slc 2 0 4 4) (i := ti23) (j := ti5) (e := 5) tabOk rfl (by conv => whnf) (by conv => whnf) rfl rfl rfl rfl rfl rfl
      (.row (ob := .cells ⟨[]⟩ 5) rfl (fun j x hj => by simp at hj) rfl (by simp)) (.row (ob := .cells ⟨(be (sealF [])).map cU8⟩ 5) rfl (fun j x hj => by simpa using hj) rfl (cU8_clean _)) (by omega) (by decide) (by omega) ?_
    intro cp2 hcp
    conv => whnf
    refine ⟨rfl, fin_one 3 ⟨[_, _, _], rfl⟩ (by simp) rfl ?_ (u := slc 1 0 4 cp2) rfl rfl ⟨cp2, (Builtin.zeroCells ti5.zero.cells (cp2 - 4)).toList, rfl, rfl, ?_, zeros_clean ti5.zero.cells rfl _⟩⟩
    · intro x hx
      replace hx : x ∈ (closeF []).map cU8 ++ (Builtin.zeroCells ti5.zero.cells (cp2 - 4)).toList := hx
      rcases List.mem_append.1 hx with hx | hx
      · exact cU8_clean _ x hx
      · exact zeros_clean ti5.zero.cells rfl _ x hx
    · simp [closeF, be, Builtin.zeroCells]
      have : ti5.zero.cells.size = 1 := rfl
      rw [this]
      omega
  · refine ao_grow (lx := 0) (cx := 0) (ly := l.length) (olds := []) (news := l.map cU8) (px := some ⟨1, 0, some 0⟩) (vx := slc 1 0 0 0) (vy := slc 0 off l.length cap) (i := ti23) (j := ti5) (e := 5) tabOk rfl (by conv => whnf) (by conv => whnf) rfl rfl rfl rfl rfl rfl
      (.row (ob := .cells ⟨[]⟩ 5) rfl (fun j x hj => by simp at hj) rfl (by simp)) (win_row rfl hw) (by omega) (by show (0 + l.length) * 1 ≤ _; omega) (by omega) ?_
    intro cp hcp
    conv => whnf
    rw [sb24, sb16, sb8, sb0]
    obtain ⟨rest, hrest⟩ : ∃ rest, rest = (Builtin.zeroCells ti5.zero.cells (cp - (0 + l.length))).toList := ⟨_, rfl⟩
    have hr1 : l.length + rest.length = cp := by
      rw [hrest]
      simp [Builtin.zeroCells]
      have : ti5.zero.cells.size = 1 := rfl
      rw [this]
      omega
    have hr2 : ∀ x ∈ rest, cleanV x = true := by rw [hrest]; exact zeros_clean ti5.zero.cells rfl _
    rw [Nat.zero_add] at hrest hcp
    rw [Nat.zero_add l.length, ← hrest]
    by_cases hroom : l.length + 4 ≤ cp
    · refine ao_room (b := 2) (off := 0) (lx := l.length) (cx := cp) (ly := 4) (vy := slc 3 0 4 4) (news := (be (sealF l)).map cU8) (c := ⟨l.map cU8 ++ rest⟩) (i := ti23) (j := ti5) (e := 5) tabOk rfl (by (conv => whnf); exact rfl) (by conv => whnf) rfl rfl rfl rfl rfl rfl rfl
        (.row (ob := .cells ⟨(be (sealF l)).map cU8⟩ 5) rfl (fun j x hj => by simpa using hj) rfl (cU8_clean _)) hroom (by show 0 + (l.length + 4) * 1 ≤ _; simp; omega) ?_
      conv => whnf
      have e : (l.map cU8 ++ rest).take (0 + l.length * ti5.size) ++ (be (sealF l)).map cU8 ++ (l.map cU8 ++ rest).drop (0 + l.length * ti5.size + ((be (sealF l)).map cU8).length) = (closeF l).map cU8 ++ rest.drop 4 := by
        have h1 : 0 + l.length * ti5.size = (l.map cU8).length := by show 0 + l.length * 1 = _; simp
        have h2 : ((be (sealF l)).map cU8).length = 4 := rfl
        rw [h1, h2, List.take_left', List.drop_append, List.drop_eq_nil_of_le (by omega), Nat.add_sub_cancel_left]
        · simp [closeF]
        · rfl
      refine ⟨rfl, fin_one 2 ⟨[_, _, _], rfl⟩ (by simp) rfl ?_ (u := slc 1 0 (l.length + 4) cp) rfl rfl ⟨cp, rest.drop 4, rfl, ?_, ?_, fun x hx => hr2 x (List.mem_of_mem_drop hx)⟩⟩
      · intro x hx
        replace hx : x ∈ (l.map cU8 ++ rest).take (0 + l.length * ti5.size) ++ (be (sealF l)).map cU8 ++ (l.map cU8 ++ rest).drop (0 + l.length * ti5.size + ((be (sealF l)).map cU8).length) := hx
        rw [e] at hx
        rcases List.mem_append.1 hx with hx | hx
        · exact hcl x hx
        · exact hr2 x (List.mem_of_mem_drop hx)
      · rw [← e]
        rfl
      · simp [closeF, be]
        omega
    · refine ao_grow (lx := l.length) (cx := cp) (ly := 4) (olds := l.map cU8) (news := (be (sealF l)).map cU8) (px := some ⟨2, 0, some 0⟩) (vx := slc 2 0 l.length cp) (vy := slc 3 0 4 4) (i := ti23) (j := ti5) (e := 5) tabOk rfl (by (conv => whnf); exact rfl) (by conv => whnf) rfl rfl rfl rfl rfl rfl
        (.row (ob := .cells ⟨l.map cU8 ++ rest⟩ 5) rfl ?_ (by show _ = l.length * 1; simp) (cU8_clean l))
        (.row (ob := .cells ⟨(be (sealF l)).map cU8⟩ 5) rfl (fun j x hj => by simpa using hj) rfl (cU8_clean _)) (by omega) (by show (l.length + 4) * 1 ≤ _; omega) (by omega) ?_
      · intro j x hj
        show (l.map cU8 ++ rest).toArray[0 + j]? = some x
        rw [Nat.zero_add, List.getElem?_toArray, List.getElem?_append_left (List.getElem?_eq_some_iff.1 hj).1]
        exact hj
      intro cp2 hcp2
      conv => whnf
      have e : l.map cU8 ++ (be (sealF l)).map cU8 ++ (Builtin.zeroCells ti5.zero.cells (cp2 - (l.length + 4))).toList = (closeF l).map cU8 ++ (Builtin.zeroCells ti5.zero.cells (cp2 - (l.length + 4))).toList := by
        simp [closeF]
      refine ⟨rfl, fin_one 4 ⟨[_, _, _, _], rfl⟩ (by simp) rfl ?_ (u := slc 1 0 (l.length + 4) cp2) rfl rfl ⟨cp2, (Builtin.zeroCells ti5.zero.cells (cp2 - (l.length + 4))).toList, rfl, ?_, ?_, zeros_clean ti5.zero.cells rfl _⟩⟩
      · intro x hx
        replace hx : x ∈ l.map cU8 ++ (be (sealF l)).map cU8 ++ (Builtin.zeroCells ti5.zero.cells (cp2 - (l.length + 4))).toList := hx
        rw [e] at hx
        rcases List.mem_append.1 hx with hx | hx
        · exact hcl x hx
        · exact zeros_clean ti5.zero.cells rfl _ x hx
      · rw [← e]
        rfl
      · simp [closeF, be, Builtin.zeroCells]
        have : ti5.zero.cells.size = 1 := rfl
        rw [this]
        omega
theorem RefClose_nil (tt : TypeId) : AC Tryd.prog (GC tt) 23 [.slice none 0 0] [] (fun v h => ∃ cp rest, v = slc 0 0 4 cp ∧ h = [.cells ⟨(closeF []).map cU8 ++ rest⟩ 5] ∧ RowOf (closeF []) cp rest) := by
  refine ac_of_body tabOk has23 ?_
  unfold BodyOk
  conv => whnf
  refine ac_mono (RefSeal_s tt (h := []) (l := []) (.inl ⟨rfl, rfl⟩) (by simp)) ?_
  rintro v h' ⟨rfl, rfl⟩
  conv => whnf
  refine ao_room (b := 0) (off := 0) (lx := 0) (cx := 0) (ly := 0) (vy := .slice none 0 0) (i := ti23) (j := ti5) (e := 5) tabOk rfl (by conv => whnf) (by conv => whnf) rfl rfl rfl rfl rfl rfl rfl (.nil 0) (by decide) (by decide) ?_
  conv => whnf
  rw [sb24, sb16, sb8, sb0]
  refine ao_grow (lx := 0) (cx := 0) (ly := 4) (olds := []) (news := (be (sealF [])).map cU8) (px := some ⟨0, 0, some 0⟩) (vx := slc 0 0 0 0) (vy := slc 1 0 4 4) (i := ti23) (j := ti5) (e := 5) tabOk rfl (by conv => whnf) (by conv => whnf) rfl rfl rfl rfl rfl rfl
    (.row (ob := .cells ⟨[]⟩ 5) rfl (fun j x hj => by simp at hj) rfl (by simp)) (.row (ob := .cells ⟨(be (sealF [])).map cU8⟩ 5) rfl (fun j x hj => by simpa using hj) rfl (cU8_clean _)) (by omega) (by decide) (by omega) ?_
  intro cp2 hcp
  conv => whnf
  refine ⟨rfl, fin_one 2 ⟨[_, _, _], rfl⟩ (by simp) rfl ?_ (u := slc 0 0 4 cp2) rfl rfl ⟨cp2, (Builtin.zeroCells ti5.zero.cells (cp2 - 4)).toList, rfl, rfl, ?_, zeros_clean ti5.zero.cells rfl _⟩⟩
  · intro x hx
    replace hx : x ∈ (closeF []).map cU8 ++ (Builtin.zeroCells ti5.zero.cells (cp2 - 4)).toList := hx
    rcases List.mem_append.1 hx with hx | hx
    · exact cU8_clean _ x hx
    · exact zeros_clean ti5.zero.cells rfl _ x hx
  · simp [closeF, be, Builtin.zeroCells]
    have : ti5.zero.cells.size = 1 := rfl
    rw [this]
    omega
theorem RefClose_s (tt : TypeId) {h : List Obj} {v : Value} {l : List UInt8} (hs : Sl h v l) (hl : l.length ≤ 100000000000) :
    AC Tryd.prog (GC tt) 23 [v] h (fun u h' => ∃ cp rest, u = slc h.length 0 (l.length + 4) cp ∧ h' = h ++ [.cells ⟨(closeF l).map cU8 ++ rest⟩ 5] ∧ RowOf (closeF l) cp rest) := by
  have hcl : ∀ (l : List UInt8) (cp : Nat) (rest : List Value), RowOf (closeF l) cp rest → ∀ x ∈ (⟨(closeF l).map cU8 ++ rest⟩ : Array Value).toList, cleanV x = true := by
    intro l cp rest hr x hx
    rcases List.mem_append.1 hx with hx | hx
    · exact cU8_clean _ x hx
    · exact hr.2 x hx
  rcases hs with ⟨rfl, rfl⟩ | ⟨m, off, cap, c, t, rfl, h2, h4, h5⟩
  · refine ac_new [] (RefClose_nil tt) rfl rfl trivial ?_
    rintro v h' ⟨cp, rest, rfl, rfl, hr⟩
    refine ⟨_, _, _, rfl, hcl [] cp rest hr, cp, rest, ?_, rfl, hr⟩
    simp [r3, r2, r1, r0, rA, nu]
  · refine ac_new [m] (RefClose_row tt c t off cap l h4 h5 hl) rfl rfl ⟨h2, trivial⟩ ?_
    rintro v h' ⟨cp, rest, rfl, rfl, hr⟩
    refine ⟨_, _, _, rfl, hcl l cp rest hr, cp, rest, ?_, rfl, hr⟩
    simp [r3, r2, r1, r0, rA, nu]
theorem RefClose_f (tt : TypeId) {h0 : List Obj} {s : St} {d : Option Nat} {K : St → Prop} {v : Value} {l : List UInt8} (hs : Sl h0 v l) (hl : l.length ≤ 100000000000)
    (hk : ∀ cp rest, RowOf (closeF l) cp rest → putK (grow s (.cells ⟨(closeF l).map cU8 ++ rest⟩ 5)) d (slc s.h.length 0 (l.length + 4) cp) K) :
    Fresh Tryd.prog (GC tt) h0 23 [v] fun ob p => putK (grow s ob) d (p s.h.length) K := by
  intro h hp
  refine ac_mono (RefClose_s tt (hs.pre hp) hl) ?_
  rintro v h' ⟨cp, rest, rfl, rfl, hr⟩
  exact ⟨_, fun m => slc m 0 (l.length + 4) cp, rfl, rfl, hk cp rest hr⟩
end Go.Proofs.YtjpjnjidchdlbaaDoor
