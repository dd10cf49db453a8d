/-
  CrcTells: the walk.
-/
import Derived.Test.YtjpjnjidchdlbaaDoorCrcQ
namespace Go.Proofs.YtjpjnjidchdlbaaDoor
set_option linter.unusedSimpArgs false
set_option linter.unusedVariables false
open Go
set_option maxRecDepth 100000
set_option maxHeartbeats 4000000
theorem has3 : Has Tryd.prog 3 Tryd.f3 := ⟨Tryd.func3, by kernel_rfl, by kernel_rfl⟩
theorem sl_new {h : List Obj} {m cp : Nat} {l : List UInt8} {rest : List Value} {g : Nat × Nat} (hm : h[m]? = some (.cells ⟨l.map cU8 ++ rest⟩ 5 g)) (hr : RowOf l cp rest) : Sl h (slc m 0 l.length cp) l := by
  refine .inr ⟨m, 0, cp, _, 5, rfl, .inr ⟨?_, _, hm⟩, win_own, by have := hr.1; omega⟩
  intro x hx
  rcases List.mem_append.1 hx with hx | hx
  · exact cU8_clean _ x hx
  · exact hr.2 x hx
theorem Tells_n (tt : TypeId) (s : BitVec 32) (b : Bool) : AC Tryd.prog (GC tt) 3 [W32 s, .bool b, .slice none 0 0] [] (fun v h => v = .bool true ∧ h = []) := by
  obtain ⟨l, hl0⟩ : ∃ l : List UInt8, l = [] := ⟨_, rfl⟩
  have hok : okF l = false := by rw [hl0]; rfl
  have hln : l.length = 0 := by rw [hl0]; rfl
  refine ac_of_body tabOk has3 ?_
  unfold BodyOk
  conv => whnf
  refine ac_mono (Open_s tt (h := []) (l := l) (.inl ⟨rfl, hl0⟩) (by omega)) ?_
  rintro v h' (⟨_, rfl, rfl⟩ | ⟨h1, _⟩)
  rotate_left
  · rw [hok] at h1; cases h1
  conv => whnf
  refine ac_mono (RefOpen_s tt (h := []) (l := l) (.inl ⟨rfl, hl0⟩) (by omega)) ?_
  rintro v h' (⟨_, rfl, rfl⟩ | ⟨h1, _⟩)
  rotate_left
  · rw [hok] at h1; cases h1
  conv => whnf
  refine ac_pure (Bit_c tt s b) rfl ?_
  rintro v h' ⟨rfl, rfl⟩
  refine ⟨rfl, rfl, ?_⟩
  conv => whnf
  refine ac_pure (RefBit_c (GC tt) s b) rfl ?_
  rintro v h' ⟨rfl, rfl⟩
  refine ⟨rfl, rfl, ?_⟩
  conv => whnf
  refine way1 (beq_self_eq_true _) ?_
  conv => whnf
  refine ac_mono (Go_s tt s (h := []) (l := l) (.inl ⟨rfl, hl0⟩) (by omega)) ?_
  rintro v h' ⟨rfl, rfl⟩
  conv => whnf
  refine ac_mono (RefGo_s tt s (h := []) (l := l) (.inl ⟨rfl, hl0⟩) (by omega)) ?_
  rintro v h' ⟨rfl, rfl⟩
  conv => whnf
  first
    | (refine way1 (beq_self_eq_true _) ?_; conv => whnf)
    | skip
  refine ac_mono (Seal_s tt (h := []) (l := l) (.inl ⟨rfl, hl0⟩) (by omega)) ?_
  rintro v h' ⟨rfl, rfl⟩
  conv => whnf
  refine ac_mono (RefSeal_s tt (h := []) (l := l) (.inl ⟨rfl, hl0⟩) (by omega)) ?_
  rintro v h' ⟨rfl, rfl⟩
  conv => whnf
  first
    | (refine way1 (beq_self_eq_true _) ?_; conv => whnf)
    | skip
  refine ac_mono (Close_s tt (h := []) (l := l) (.inl ⟨rfl, hl0⟩) (by omega)) ?_
  rintro v h' ⟨cp3, rest3, rfl, rfl, hr3⟩
  conv => whnf
  refine ac_mono (RefClose_s tt (h := [.cells ⟨(closeF l).map cU8 ++ rest3⟩ 5]) (l := l) (.inl ⟨rfl, hl0⟩) (by omega)) ?_
  rintro v h' ⟨cp4, rest4, rfl, rfl, hr4⟩
  conv => whnf
  have k3 := sl_new (h := [.cells ⟨(closeF l).map cU8 ++ rest3⟩ 5, .cells ⟨(closeF l).map cU8 ++ rest4⟩ 5]) (m := 0) (g := (0, 0)) rfl hr3
  have k4 := sl_new (h := [.cells ⟨(closeF l).map cU8 ++ rest3⟩ 5, .cells ⟨(closeF l).map cU8 ++ rest4⟩ 5]) (m := 1) (g := (0, 0)) rfl hr4
  rw [closeF_length] at k3 k4
  refine ac_mono (Equal21_s (GC tt) k3 k4) ?_
  rintro v h' ⟨rfl, rfl⟩
  conv => whnf
  first
    | (refine way1 (beq_self_eq_true _) ?_; conv => whnf)
    | skip
  refine ac_mono (Equal21_s (GC tt) (h := [.cells ⟨(closeF l).map cU8 ++ rest3⟩ 5, .cells ⟨(closeF l).map cU8 ++ rest4⟩ 5]) (.inl ⟨rfl, rfl⟩) (.inl ⟨rfl, rfl⟩)) ?_
  rintro v h' ⟨rfl, rfl⟩
  conv => whnf
  first
    | (refine way1 (beq_self_eq_true _) ?_; conv => whnf)
    | skip
  refine ac_pure (wakes_c tt) rfl ?_
  rintro v h' ⟨rfl, rfl⟩
  refine ⟨rfl, rfl, ?_⟩
  conv => whnf
  refine ⟨rfl, fin_turnedK rfl ?_⟩
  conv => whnf
  exact ⟨rfl, rfl⟩
theorem Tells_r (tt : TypeId) (s : BitVec 32) (b : Bool) (c : Array Value) (t : TypeId) (off cap : Nat) (l : List UInt8) (hw : Win c off l) (hcap : l.length ≤ cap) :
    AC Tryd.prog (GC tt) 3 [W32 s, .bool b, slc 0 off l.length cap] [.pending c t] (fun v h => v = .bool true ∧ h = [.pending c t]) := by
  refine ac_of_body tabOk has3 ?_
  unfold BodyOk
  conv => whnf
  refine ways (fun h1 => ?_) (fun h1 => ?_) <;> conv => whnf
  · refine ac_pure (wakes_c tt) rfl ?_
    rintro v h' ⟨rfl, rfl⟩
    refine ⟨rfl, rfl, ?_⟩
    conv => whnf
    refine ⟨rfl, fin_turnedK rfl ?_⟩
    conv => whnf
    exact ⟨rfl, rfl⟩
  have h600 : l.length ≤ 600 := by
    have : ¬ ((l.length : Int) > 600) := by simpa using h1
    omega
  cases hok : okF l with
  | false =>
    refine ac_mono (Open_s tt (h := [.pending c t]) (l := l) (.inr ⟨0, off, cap, c, t, rfl, .inl rfl, hw, hcap⟩) (by omega)) ?_
    rintro v h' (⟨_, rfl, rfl⟩ | ⟨h1, _⟩)
    rotate_left
    · rw [hok] at h1; cases h1
    conv => whnf
    refine ac_mono (RefOpen_s tt (h := [.pending c t]) (l := l) (.inr ⟨0, off, cap, c, t, rfl, .inl rfl, hw, hcap⟩) (by omega)) ?_
    rintro v h' (⟨_, rfl, rfl⟩ | ⟨h1, _⟩)
    rotate_left
    · rw [hok] at h1; cases h1
    conv => whnf
    refine ac_pure (Bit_c tt s b) rfl ?_
    rintro v h' ⟨rfl, rfl⟩
    refine ⟨rfl, rfl, ?_⟩
    conv => whnf
    refine ac_pure (RefBit_c (GC tt) s b) rfl ?_
    rintro v h' ⟨rfl, rfl⟩
    refine ⟨rfl, rfl, ?_⟩
    conv => whnf
    refine way1 (beq_self_eq_true _) ?_
    conv => whnf
    refine ac_mono (Go_s tt s (h := [.pending c t]) (l := l) (.inr ⟨0, off, cap, c, t, rfl, .inl rfl, hw, hcap⟩) (by omega)) ?_
    rintro v h' ⟨rfl, rfl⟩
    conv => whnf
    refine ac_mono (RefGo_s tt s (h := [.pending c t]) (l := l) (.inr ⟨0, off, cap, c, t, rfl, .inl rfl, hw, hcap⟩) (by omega)) ?_
    rintro v h' ⟨rfl, rfl⟩
    conv => whnf
    first
      | (refine way1 (beq_self_eq_true _) ?_; conv => whnf)
      | skip
    refine ac_mono (Seal_s tt (h := [.pending c t]) (l := l) (.inr ⟨0, off, cap, c, t, rfl, .inl rfl, hw, hcap⟩) (by omega)) ?_
    rintro v h' ⟨rfl, rfl⟩
    conv => whnf
    refine ac_mono (RefSeal_s tt (h := [.pending c t]) (l := l) (.inr ⟨0, off, cap, c, t, rfl, .inl rfl, hw, hcap⟩) (by omega)) ?_
    rintro v h' ⟨rfl, rfl⟩
    conv => whnf
    first
      | (refine way1 (beq_self_eq_true _) ?_; conv => whnf)
      | skip
    refine ac_mono (Close_s tt (h := [.pending c t]) (l := l) (.inr ⟨0, off, cap, c, t, rfl, .inl rfl, hw, hcap⟩) (by omega)) ?_
    rintro v h' ⟨cp3, rest3, rfl, rfl, hr3⟩
    conv => whnf
    refine ac_mono (RefClose_s tt (h := [.pending c t, .cells ⟨(closeF l).map cU8 ++ rest3⟩ 5]) (l := l) (.inr ⟨0, off, cap, c, t, rfl, .inl rfl, hw, hcap⟩) (by omega)) ?_
    rintro v h' ⟨cp4, rest4, rfl, rfl, hr4⟩
    conv => whnf
    have k3 := sl_new (h := [.pending c t, .cells ⟨(closeF l).map cU8 ++ rest3⟩ 5, .cells ⟨(closeF l).map cU8 ++ rest4⟩ 5]) (m := 1) (g := (0, 0)) rfl hr3
    have k4 := sl_new (h := [.pending c t, .cells ⟨(closeF l).map cU8 ++ rest3⟩ 5, .cells ⟨(closeF l).map cU8 ++ rest4⟩ 5]) (m := 2) (g := (0, 0)) rfl hr4
    rw [closeF_length] at k3 k4
    refine ac_mono (Equal21_s (GC tt) k3 k4) ?_
    rintro v h' ⟨rfl, rfl⟩
    conv => whnf
    first
      | (refine way1 (beq_self_eq_true _) ?_; conv => whnf)
      | skip
    refine ac_mono (Equal21_s (GC tt) (h := [.pending c t, .cells ⟨(closeF l).map cU8 ++ rest3⟩ 5, .cells ⟨(closeF l).map cU8 ++ rest4⟩ 5]) (.inl ⟨rfl, rfl⟩) (.inl ⟨rfl, rfl⟩)) ?_
    rintro v h' ⟨rfl, rfl⟩
    conv => whnf
    first
      | (refine way1 (beq_self_eq_true _) ?_; conv => whnf)
      | skip
    refine ac_pure (wakes_c tt) rfl ?_
    rintro v h' ⟨rfl, rfl⟩
    refine ⟨rfl, rfl, ?_⟩
    conv => whnf
    refine ⟨rfl, fin_turnedK rfl ?_⟩
    conv => whnf
    exact ⟨rfl, rfl⟩
  | true =>
    refine ac_mono (Open_s tt (h := [.pending c t]) (.inr ⟨0, off, cap, c, t, rfl, .inl rfl, hw, hcap⟩) (by omega)) ?_
    rintro v h' (⟨h1, _⟩ | ⟨_, cp1, rest1, rfl, rfl, hr1⟩)
    · rw [hok] at h1; cases h1
    conv => whnf
    refine ac_mono (RefOpen_s tt (h := [.pending c t, .cells ⟨(payF l).map cU8 ++ rest1⟩ 5]) (.inr ⟨0, off, cap, c, t, rfl, .inl rfl, hw, hcap⟩) (by omega)) ?_
    rintro v h' (⟨h1, _⟩ | ⟨_, cp2, rest2, rfl, rfl, hr2⟩)
    · rw [hok] at h1; cases h1
    conv => whnf
    refine ac_pure (Bit_c tt s b) rfl ?_
    rintro v h' ⟨rfl, rfl⟩
    refine ⟨rfl, rfl, ?_⟩
    conv => whnf
    refine ac_pure (RefBit_c (GC tt) s b) rfl ?_
    rintro v h' ⟨rfl, rfl⟩
    refine ⟨rfl, rfl, ?_⟩
    conv => whnf
    refine way1 (beq_self_eq_true _) ?_
    conv => whnf
    refine ac_mono (Go_s tt s (h := [.pending c t, .cells ⟨(payF l).map cU8 ++ rest1⟩ 5, .cells ⟨(payF l).map cU8 ++ rest2⟩ 5]) (l := l) (.inr ⟨0, off, cap, c, t, rfl, .inl rfl, hw, hcap⟩) (by omega)) ?_
    rintro v h' ⟨rfl, rfl⟩
    conv => whnf
    refine ac_mono (RefGo_s tt s (h := [.pending c t, .cells ⟨(payF l).map cU8 ++ rest1⟩ 5, .cells ⟨(payF l).map cU8 ++ rest2⟩ 5]) (l := l) (.inr ⟨0, off, cap, c, t, rfl, .inl rfl, hw, hcap⟩) (by omega)) ?_
    rintro v h' ⟨rfl, rfl⟩
    conv => whnf
    first
      | (refine way1 (beq_self_eq_true _) ?_; conv => whnf)
      | skip
    refine ac_mono (Seal_s tt (h := [.pending c t, .cells ⟨(payF l).map cU8 ++ rest1⟩ 5, .cells ⟨(payF l).map cU8 ++ rest2⟩ 5]) (l := l) (.inr ⟨0, off, cap, c, t, rfl, .inl rfl, hw, hcap⟩) (by omega)) ?_
    rintro v h' ⟨rfl, rfl⟩
    conv => whnf
    refine ac_mono (RefSeal_s tt (h := [.pending c t, .cells ⟨(payF l).map cU8 ++ rest1⟩ 5, .cells ⟨(payF l).map cU8 ++ rest2⟩ 5]) (l := l) (.inr ⟨0, off, cap, c, t, rfl, .inl rfl, hw, hcap⟩) (by omega)) ?_
    rintro v h' ⟨rfl, rfl⟩
    conv => whnf
    first
      | (refine way1 (beq_self_eq_true _) ?_; conv => whnf)
      | skip
    refine ac_mono (Close_s tt (h := [.pending c t, .cells ⟨(payF l).map cU8 ++ rest1⟩ 5, .cells ⟨(payF l).map cU8 ++ rest2⟩ 5]) (l := l) (.inr ⟨0, off, cap, c, t, rfl, .inl rfl, hw, hcap⟩) (by omega)) ?_
    rintro v h' ⟨cp3, rest3, rfl, rfl, hr3⟩
    conv => whnf
    refine ac_mono (RefClose_s tt (h := [.pending c t, .cells ⟨(payF l).map cU8 ++ rest1⟩ 5, .cells ⟨(payF l).map cU8 ++ rest2⟩ 5, .cells ⟨(closeF l).map cU8 ++ rest3⟩ 5]) (l := l) (.inr ⟨0, off, cap, c, t, rfl, .inl rfl, hw, hcap⟩) (by omega)) ?_
    rintro v h' ⟨cp4, rest4, rfl, rfl, hr4⟩
    conv => whnf
    have k3 := sl_new (h := [.pending c t, .cells ⟨(payF l).map cU8 ++ rest1⟩ 5, .cells ⟨(payF l).map cU8 ++ rest2⟩ 5, .cells ⟨(closeF l).map cU8 ++ rest3⟩ 5, .cells ⟨(closeF l).map cU8 ++ rest4⟩ 5]) (m := 3) (g := (0, 0)) rfl hr3
    have k4 := sl_new (h := [.pending c t, .cells ⟨(payF l).map cU8 ++ rest1⟩ 5, .cells ⟨(payF l).map cU8 ++ rest2⟩ 5, .cells ⟨(closeF l).map cU8 ++ rest3⟩ 5, .cells ⟨(closeF l).map cU8 ++ rest4⟩ 5]) (m := 4) (g := (0, 0)) rfl hr4
    rw [closeF_length] at k3 k4
    refine ac_mono (Equal21_s (GC tt) k3 k4) ?_
    rintro v h' ⟨rfl, rfl⟩
    conv => whnf
    first
      | (refine way1 (beq_self_eq_true _) ?_; conv => whnf)
      | skip
    have k1 := sl_new (h := [.pending c t, .cells ⟨(payF l).map cU8 ++ rest1⟩ 5, .cells ⟨(payF l).map cU8 ++ rest2⟩ 5, .cells ⟨(closeF l).map cU8 ++ rest3⟩ 5, .cells ⟨(closeF l).map cU8 ++ rest4⟩ 5]) (m := 1) (g := (0, 0)) rfl hr1
    have k2 := sl_new (h := [.pending c t, .cells ⟨(payF l).map cU8 ++ rest1⟩ 5, .cells ⟨(payF l).map cU8 ++ rest2⟩ 5, .cells ⟨(closeF l).map cU8 ++ rest3⟩ 5, .cells ⟨(closeF l).map cU8 ++ rest4⟩ 5]) (m := 2) (g := (0, 0)) rfl hr2
    refine ac_mono (Equal21_s (GC tt) k1 k2) ?_
    rintro v h' ⟨rfl, rfl⟩
    conv => whnf
    first
      | (refine way1 (beq_self_eq_true _) ?_; conv => whnf)
      | skip
    refine ac_pure (wakes_c tt) rfl ?_
    rintro v h' ⟨rfl, rfl⟩
    refine ⟨rfl, rfl, ?_⟩
    conv => whnf
    refine ⟨rfl, fin_turnedK rfl ?_⟩
    conv => whnf
    exact ⟨rfl, rfl⟩
end Go.Proofs.YtjpjnjidchdlbaaDoor
