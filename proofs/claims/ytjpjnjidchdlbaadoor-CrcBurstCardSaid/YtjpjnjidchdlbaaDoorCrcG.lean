/-
  wakes: it hands back true.
-/
import Derived.Test.YtjpjnjidchdlbaaDoorCrcF
namespace Go.Proofs.YtjpjnjidchdlbaaDoor
set_option linter.unusedSimpArgs false
set_option linter.unusedVariables false
open Go
set_option maxRecDepth 100000
set_option maxHeartbeats 4000000
theorem has12 : Has Tryd.prog 12 Tryd.f12 := ⟨Tryd.func12, by kernel_rfl, by kernel_rfl⟩
def D9 : List UInt8 := [49, 50, 51, 52, 53, 54, 55, 56, 57]
theorem seal9 : sealF D9 = 4236843288#32 := by kernel_rfl
theorem go1 : goF 0#32 [1] = 79764919#32 := by kernel_rfl
theorem bit_f : bitF 2147483648#32 false = 79764919#32 := by kernel_rfl
theorem bit_t : bitF 2147483648#32 true = 0#32 := by kernel_rfl
theorem pay_close (l : List UInt8) : payF (closeF l) = l := by
  unfold payF
  rw [closeF_length, Nat.add_sub_cancel]
  unfold closeF
  rw [List.take_left']
  rfl
theorem ok_close (l : List UInt8) : okF (closeF l) = true := by
  unfold okF
  rw [pay_close, closeF_length, Nat.add_sub_cancel]
  unfold closeF
  rw [List.drop_left' rfl]
  simp
theorem close9 : closeF D9 = [49, 50, 51, 52, 53, 54, 55, 56, 57, 252, 137, 25, 24] := by kernel_rfl
abbrev O9 : Obj := .cells ⟨[.int .u8 49, .int .u8 50, .int .u8 51, .int .u8 52, .int .u8 53, .int .u8 54, .int .u8 55, .int .u8 56, .int .u8 57]⟩ 5 (1, 0)
theorem sl9 (h : List Obj) (m : Nat) (hm : h[m]? = some O9) : Sl h (slc m 0 9 9) D9 := by
  refine .inr ⟨m, 0, 9, _, 5, rfl, .inr ⟨cU8_clean D9, _, hm⟩, ?_, by decide⟩
  have := win_own (l := D9) (rest := [])
  rw [List.append_nil] at this
  exact this
theorem Close9 (tt : TypeId) : AC Tryd.prog (GC tt) 22 [slc 0 0 9 9] [O9] (fun v h => ∃ (cp : Nat) (c : Array Value), 13 ≤ cp ∧ (∀ x ∈ c.toList, cleanV x = true) ∧ Win c 0 (closeF D9) ∧ v = slc 1 0 13 cp ∧ h = [O9, .cells c 5]) := by
  refine ac_mono (Close_s tt (sl9 [O9] 0 rfl) (by decide)) ?_
  rintro v h' ⟨cp, rest, rfl, rfl, hr⟩
  have hcp : 13 ≤ cp := by have := hr.1; rw [closeF_length] at this; have h9 : D9.length = 9 := rfl; omega
  refine ⟨cp, _, hcp, ?_, win_own, rfl, rfl⟩
  intro x hx
  rcases List.mem_append.1 hx with hx | hx
  · exact cU8_clean _ x hx
  · exact hr.2 x hx
theorem Open13 (tt : TypeId) {c : Array Value} {cp : Nat} (hcp : 13 ≤ cp) (hc : ∀ x ∈ c.toList, cleanV x = true) (hw : Win c 0 (closeF D9)) :
    AC Tryd.prog (GC tt) 13 [slc 1 0 13 cp] [O9, .cells c 5] (fun v h => ∃ (cp2 : Nat) (c2 : Array Value), 9 ≤ cp2 ∧ (∀ x ∈ c2.toList, cleanV x = true) ∧ Win c2 0 D9 ∧ v = .tuple #[slc 2 0 9 cp2, .bool true] ∧ h = [O9, .cells c 5, .cells c2 5]) := by
  refine ac_mono (Open_s tt (l := closeF D9) (.inr ⟨1, 0, cp, c, 5, rfl, .inr ⟨hc, _, rfl⟩, hw, hcp⟩) (by decide)) ?_
  rintro v h' (⟨h1, _⟩ | ⟨_, cp2, rest, rfl, rfl, hr⟩)
  · rw [ok_close] at h1; cases h1
  · rw [pay_close] at hr ⊢
    have hcp : 9 ≤ cp2 := by have := hr.1; have h9 : D9.length = 9 := rfl; omega
    refine ⟨cp2, _, hcp, ?_, win_own, rfl, rfl⟩
    intro x hx
    rcases List.mem_append.1 hx with hx | hx
    · exact cU8_clean _ x hx
    · exact hr.2 x hx
theorem Open3 (tt : TypeId) {o1 o2 : Obj} : AC Tryd.prog (GC tt) 13 [slc 3 0 3 3] [O9, o1, o2, .cells ⟨[.int .u8 0, .int .u8 0, .int .u8 0]⟩ 5] (fun v h => v = .tuple #[.slice none 0 0, .bool false] ∧ h = [O9, o1, o2, .cells ⟨[.int .u8 0, .int .u8 0, .int .u8 0]⟩ 5]) := by
  refine ac_mono (Open_s tt (l := [0, 0, 0]) (.inr ⟨3, 0, 3, _, 5, rfl, .inr ⟨cU8_clean [0, 0, 0], _, rfl⟩, ?_, by decide⟩) (by decide)) ?_
  · have := win_own (l := [0, 0, 0]) (rest := [])
    rw [List.append_nil] at this
    exact this
  rintro v h' (⟨h1, rfl, rfl⟩ | ⟨h1, _⟩)
  · exact ⟨rfl, rfl⟩
  · cases h1
theorem wakes_c (tt : TypeId) : AC Tryd.prog (GC tt) 12 [] [] (fun v h => v = .bool true ∧ h = []) := by
  refine ac_of_body tabOk has12 ?_
  unfold BodyOk
  conv => whnf
  refine ao_cool (b:=0) (off:=0) (l:=9) (c:=9) (i:=ti23) (j:=ti5) (e:=5) tabOk rfl (by conv => whnf) rfl rfl rfl rfl rfl rfl rfl rfl ?_
  conv => whnf
  refine ac_mono (Close9 tt) ?_
  rintro v h' ⟨cp, c, hcp, hc, hw, rfl, rfl⟩
  conv => whnf
  refine ac_mono (Open13 tt hcp hc hw) ?_
  rintro v h' ⟨cp2, c2, hcp2, hc2, hw2, rfl, rfl⟩
  conv => whnf
  refine ac_mono (Open3 tt) ?_
  rintro v h' ⟨rfl, rfl⟩
  conv => whnf
  refine ao_cool (b:=4) (off:=0) (l:=9) (c:=9) (i:=ti23) (j:=ti5) (e:=5) tabOk rfl (by conv => whnf) rfl rfl rfl rfl rfl rfl rfl rfl ?_
  conv => whnf
  refine ac_mono (Seal_s tt (sl9 _ 4 rfl) (by decide)) ?_
  rintro v h' ⟨rfl, rfl⟩
  rw [seal9]
  conv => whnf
  have h9 : c.toList[9]? = some (cU8 252) := by
    have := hw 9 252 (by rw [close9]; rfl)
    simpa using this
  have h12 : c.toList[12]? = some (cU8 24) := by
    have := hw 12 24 (by rw [close9]; rfl)
    simpa using this
  refine nthK_of (l := c.toList) h9 ?_
  conv => whnf
  refine nthK_of (l := c.toList) h12 ?_
  conv => whnf
  refine ao_cool (b:=5) (off:=0) (l:=9) (c:=9) (i:=ti23) (j:=ti5) (e:=5) tabOk rfl (by conv => whnf) rfl rfl rfl rfl rfl rfl rfl rfl ?_
  conv => whnf
  refine ac_mono (Equal21_s (GC tt) (l := D9) (m := D9) (.inr ⟨2, 0, cp2, c2, 5, rfl, .inr ⟨hc2, _, rfl⟩, hw2, hcp2⟩) (sl9 _ 5 rfl)) ?_
  rintro v h' ⟨rfl, rfl⟩
  rw [beq_self_eq_true]
  conv => whnf
  refine ac_pure (Bit_c tt 2147483648#32 false) rfl ?_
  rintro v h' ⟨rfl, rfl⟩
  refine ⟨rfl, rfl, ?_⟩
  rw [bit_f]
  conv => whnf
  refine ac_pure (Bit_c tt 2147483648#32 true) rfl ?_
  rintro v h' ⟨rfl, rfl⟩
  refine ⟨rfl, rfl, ?_⟩
  rw [bit_t]
  conv => whnf
  refine ac_mono (Go_s tt 0#32 (l := [1]) (.inr ⟨6, 0, 1, ⟨[.int .u8 1]⟩, 5, rfl, .inr ⟨cU8_clean [1], _, rfl⟩, ?_, by decide⟩) (by decide)) ?_
  · have := win_own (l := [1]) (rest := [])
    rw [List.append_nil] at this
    exact this
  rintro v h' ⟨rfl, rfl⟩
  rw [go1]
  conv => whnf
  refine ⟨rfl, fin_turnedK rfl ?_⟩
  conv => whnf
  exact ⟨rfl, rfl⟩
end Go.Proofs.YtjpjnjidchdlbaaDoor
