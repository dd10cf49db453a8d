/-
  MomentMoved: the walk (no condition).
-/
import Derived.Test.YtjpjnjidchdlbaaDoorMomZ
namespace Go.Proofs.YtjpjnjidchdlbaaDoor
set_option linter.unusedSimpArgs false
set_option linter.unusedVariables false
open Go
set_option maxRecDepth 100000
set_option maxHeartbeats 4000000
theorem has10 : Has Tryd.prog 10 Tryd.f10 := ⟨Tryd.func10, by kernel_rfl, by kernel_rfl⟩
theorem Moved10_rr (tt : TypeId) (c0 : Array Value) (t0 : TypeId) (off cap : Nat) (l : List Int) (hw : WinI c0 off l) (hcap : l.length ≤ cap) (c1 : Array Value) (t1 : TypeId) (off1 cap1 : Nat) (bl : List Bd) (hw1 : WinB c1 off1 bl) (hcap1 : bl.length ≤ cap1) (hl1 : bl.length ≤ 2932031007402) (g b tp nr me step x y z : Int) :
    AC Tryd.prog (GM tt) 10 [.agg (confC (slc 0 off l.length cap) g b tp nr me), .agg #[I64 step, (slc 1 off1 bl.length cap1)], V3 x y z] [.pending c0 t0, .pending c1 t1] (fun v h => v = .bool true ∧ h = [.pending c0 t0, .pending c1 t1]) := by
  refine ac_of_body tabOk has10 ?_
  unfold BodyOk
  conv => whnf
  refine ac_mono (Moved_s (GM tt) step x y z (l := bl) (h := [.pending c0 t0, .pending c1 t1, .cells (confC (slc 0 off l.length cap) g b tp nr me) 39, .cells #[I64 step, (slc 1 off1 bl.length cap1)] 42, .cells #[I64 x, I64 y, I64 z] 59]) (m := 5) rfl (.inr ⟨1, off1, cap1, c1, t1, rfl, .inl rfl, hw1, hcap1⟩) hl1) ?_
  rintro v h' ⟨c, cp, e, rfl, rfl, q1, q2⟩
  conv => whnf
  refine ac_mono (RFitsU_s tt (l := l) (bl := bl) (h := [.pending c0 t0, .pending c1 t1, .cells (confC (slc 0 off l.length cap) g b tp nr me) 39, .cells #[I64 step, (slc 1 off1 bl.length cap1)] 42, .cells #[I64 x, I64 y, I64 z] 59, .cells c 61, .cells #[I64 step, slc 5 0 bl.length cp] 42]) (.inr ⟨0, off, cap, c0, t0, rfl, .inl rfl, hw, hcap⟩) (.inr ⟨1, off1, cap1, c1, t1, rfl, .inl rfl, hw1, hcap1⟩) g b tp nr me step) ?_
  rintro v h' ⟨rfl, rfl⟩
  conv => whnf
  refine ways (fun h1 => ?_) (fun h1 => ?_) <;> conv => whnf
  · refine ac_pure (Mwakes_c tt) rfl ?_
    rintro v h' ⟨rfl, rfl⟩
    refine ⟨rfl, rfl, ?_⟩
    conv => whnf
    refine ⟨rfl, fin_turnedK rfl ?_⟩
    conv => whnf
    exact ⟨rfl, rfl⟩
  have hfit := notT h1
  refine ways (fun h2 => ?_) (fun h2 => ?_) <;> conv => whnf
  · refine ac_pure (Mwakes_c tt) rfl ?_
    rintro v h' ⟨rfl, rfl⟩
    refine ⟨rfl, rfl, ?_⟩
    conv => whnf
    refine ⟨rfl, fin_turnedK rfl ?_⟩
    conv => whnf
    exact ⟨rfl, rfl⟩
  have he : e = 0 := by simpa using h2
  obtain ⟨-, hmv, hwm, hcm⟩ := q2 he
  clear q2
  subst he
  refine ac_pure (Within_c (GM tt) x y z 2097152) rfl ?_
  rintro v h' ⟨rfl, rfl⟩
  refine ⟨rfl, rfl, ?_⟩
  conv => whnf
  refine ways (fun h3 => ?_) (fun h3 => ?_) <;> conv => whnf
  · refine ac_pure (Mwakes_c tt) rfl ?_
    rintro v h' ⟨rfl, rfl⟩
    refine ⟨rfl, rfl, ?_⟩
    conv => whnf
    refine ⟨rfl, fin_turnedK rfl ?_⟩
    conv => whnf
    exact ⟨rfl, rfl⟩
  obtain ⟨hlen, hl4⟩ := fits_len hfit
  have hl : l.length ≤ 1000000000000 := by omega
  have hl2 : bl.length ≤ 1000000000000 := by omega
  have okM' := fits_mov hfit hmv
  have hokc : okConf (l.length : Int) l g b tp nr me = true := by
    unfold fitsF at hfit
    simp only [Bool.and_eq_true] at hfit
    exact hfit.2.1
  obtain ⟨p1, p2, p3⟩ := L_mov hfit hmv
  obtain ⟨p4, p5, p6⟩ := X_mov x y z hlen
  have p7 := P_mov l bl x y z
  refine ac_mono (P_s tt (l := l) (bl := bl) (.inr ⟨0, off, cap, c0, t0, rfl, .inl rfl, hw, hcap⟩) (.inr ⟨1, off1, cap1, c1, t1, rfl, .inl rfl, hw1, hcap1⟩) hl hl2 g b tp nr me step) ?_
  rintro v h' ⟨rfl, rfl⟩
  rw [hfit]
  conv => whnf
  refine ac_mono (P_s tt (l := l) (bl := (bl.map (movB x y z))) (.inr ⟨0, off, cap, c0, t0, rfl, .inl rfl, hw, hcap⟩) (.inr ⟨5, 0, cp, c, 61, by rw [List.length_map], .inr ⟨q1, _, rfl⟩, hwm, by rw [List.length_map]; exact hcm⟩) hl (by rw [List.length_map]; exact hl2) g b tp nr me step) ?_
  rintro v h' ⟨rfl, rfl⟩
  rw [okM', p7]
  conv => whnf
  refine ac_mono (L_s tt (l := l) (bl := bl) (.inr ⟨0, off, cap, c0, t0, rfl, .inl rfl, hw, hcap⟩) (.inr ⟨1, off1, cap1, c1, t1, rfl, .inl rfl, hw1, hcap1⟩) hl hl2 g b tp nr me step) ?_
  rintro v h' ⟨rfl, rfl⟩
  rw [hfit]
  conv => whnf
  refine ac_mono (L_s tt (l := l) (bl := (bl.map (movB x y z))) (.inr ⟨0, off, cap, c0, t0, rfl, .inl rfl, hw, hcap⟩) (.inr ⟨5, 0, cp, c, 61, by rw [List.length_map], .inr ⟨q1, _, rfl⟩, hwm, by rw [List.length_map]; exact hcm⟩) hl (by rw [List.length_map]; exact hl2) g b tp nr me step) ?_
  rintro v h' ⟨rfl, rfl⟩
  rw [okM']
  conv => whnf
  refine ac_mono (Mid_s tt (l := l) (bl := bl) (.inr ⟨0, off, cap, c0, t0, rfl, .inl rfl, hw, hcap⟩) (.inr ⟨1, off1, cap1, c1, t1, rfl, .inl rfl, hw1, hcap1⟩) hl hl2 g b tp nr me step) ?_
  rintro v h' ⟨rfl, rfl⟩
  rw [hfit]
  conv => whnf
  refine ac_mono (Mid_s tt (l := l) (bl := (bl.map (movB x y z))) (.inr ⟨0, off, cap, c0, t0, rfl, .inl rfl, hw, hcap⟩) (.inr ⟨5, 0, cp, c, 61, by rw [List.length_map], .inr ⟨q1, _, rfl⟩, hwm, by rw [List.length_map]; exact hcm⟩) hl (by rw [List.length_map]; exact hl2) g b tp nr me step) ?_
  rintro v h' ⟨rfl, rfl⟩
  rw [okM']
  conv => whnf
  refine way0 (by simp) ?_
  conv => whnf
  refine ac_mono (Total_s tt (l := l) (.inr ⟨0, off, cap, c0, t0, rfl, .inl rfl, hw, hcap⟩) g b tp nr me hokc) ?_
  rintro v h' ⟨rfl, rfl⟩
  conv => whnf
  refine ad_of tabOk (by kernel_rfl) [(0, false), (1, false), (3, false), (2, false), (4, false), (5, false), (6, false), (7, false), (9, false), (10, false), (11, false), (12, false), (13, false), (14, false), (15, false), (16, false), (17, false), (18, false), (19, false), (20, false), (21, false), (8, false), (22, false), (23, false), (24, false), (25, false), (26, false), (27, false)] (by kernel_rfl) ?_
  conv => whnf
  refine LostC_q (GM tt) _ _ _ _ _ _ ?_
  conv => whnf
  rw [p1, p2, p3]
  refine way1 (by simp) ?_
  conv => whnf
  refine LostC_q (GM tt) _ _ _ _ _ _ ?_
  conv => whnf
  rw [p4, p5, p6]
  refine way1 (by simp) ?_
  conv => whnf
  refine MwakesC_q tt ?_
  conv => whnf
  refine ⟨rfl, fin_turnedK rfl ?_⟩
  conv => whnf
  exact ⟨rfl, rfl⟩
theorem Moved10_nr (tt : TypeId) (c1 : Array Value) (t1 : TypeId) (off1 cap1 : Nat) (bl : List Bd) (hw1 : WinB c1 off1 bl) (hcap1 : bl.length ≤ cap1) (hl1 : bl.length ≤ 2932031007402) (g b tp nr me step x y z : Int) :
    AC Tryd.prog (GM tt) 10 [.agg (confC (.slice none 0 0) g b tp nr me), .agg #[I64 step, (slc 0 off1 bl.length cap1)], V3 x y z] [.pending c1 t1] (fun v h => v = .bool true ∧ h = [.pending c1 t1]) := by
  refine ac_of_body tabOk has10 ?_
  unfold BodyOk
  conv => whnf
  refine ac_mono (Moved_s (GM tt) step x y z (l := bl) (h := [.pending c1 t1, .cells (confC (.slice none 0 0) g b tp nr me) 39, .cells #[I64 step, (slc 0 off1 bl.length cap1)] 42, .cells #[I64 x, I64 y, I64 z] 59]) (m := 4) rfl (.inr ⟨0, off1, cap1, c1, t1, rfl, .inl rfl, hw1, hcap1⟩) hl1) ?_
  rintro v h' ⟨c, cp, e, rfl, rfl, q1, q2⟩
  conv => whnf
  refine ac_mono (RFitsU_s tt (l := ([] : List Int)) (bl := bl) (h := [.pending c1 t1, .cells (confC (.slice none 0 0) g b tp nr me) 39, .cells #[I64 step, (slc 0 off1 bl.length cap1)] 42, .cells #[I64 x, I64 y, I64 z] 59, .cells c 61, .cells #[I64 step, slc 4 0 bl.length cp] 42]) (.inl ⟨rfl, rfl⟩) (.inr ⟨0, off1, cap1, c1, t1, rfl, .inl rfl, hw1, hcap1⟩) g b tp nr me step) ?_
  rintro v h' ⟨rfl, rfl⟩
  conv => whnf
  rw [fits_nil1 g b tp nr me step bl]
  conv => whnf
  refine ac_pure (Mwakes_c tt) rfl ?_
  rintro v h' ⟨rfl, rfl⟩
  refine ⟨rfl, rfl, ?_⟩
  conv => whnf
  refine ⟨rfl, fin_turnedK rfl ?_⟩
  conv => whnf
  exact ⟨rfl, rfl⟩

theorem Moved10_rn (tt : TypeId) (c0 : Array Value) (t0 : TypeId) (off cap : Nat) (l : List Int) (hw : WinI c0 off l) (hcap : l.length ≤ cap) (g b tp nr me step x y z : Int) :
    AC Tryd.prog (GM tt) 10 [.agg (confC (slc 0 off l.length cap) g b tp nr me), .agg #[I64 step, (.slice none 0 0)], V3 x y z] [.pending c0 t0] (fun v h => v = .bool true ∧ h = [.pending c0 t0]) := by
  refine ac_of_body tabOk has10 ?_
  unfold BodyOk
  conv => whnf
  refine ac_mono (Moved_s (GM tt) step x y z (l := ([] : List Bd)) (h := [.pending c0 t0, .cells (confC (slc 0 off l.length cap) g b tp nr me) 39, .cells #[I64 step, (.slice none 0 0)] 42, .cells #[I64 x, I64 y, I64 z] 59]) (m := 4) rfl (.inl ⟨rfl, rfl⟩) (by simp)) ?_
  rintro v h' ⟨c, cp, e, rfl, rfl, q1, q2⟩
  conv => whnf
  refine ac_mono (RFitsU_s tt (l := l) (bl := ([] : List Bd)) (h := [.pending c0 t0, .cells (confC (slc 0 off l.length cap) g b tp nr me) 39, .cells #[I64 step, (.slice none 0 0)] 42, .cells #[I64 x, I64 y, I64 z] 59, .cells c 61, .cells #[I64 step, slc 4 0 ([] : List Bd).length cp] 42]) (.inr ⟨0, off, cap, c0, t0, rfl, .inl rfl, hw, hcap⟩) (.inl ⟨rfl, rfl⟩) g b tp nr me step) ?_
  rintro v h' ⟨rfl, rfl⟩
  conv => whnf
  rw [fits_nil2 l g b tp nr me step]
  conv => whnf
  refine ac_pure (Mwakes_c tt) rfl ?_
  rintro v h' ⟨rfl, rfl⟩
  refine ⟨rfl, rfl, ?_⟩
  conv => whnf
  refine ⟨rfl, fin_turnedK rfl ?_⟩
  conv => whnf
  exact ⟨rfl, rfl⟩

theorem Moved10_nn (tt : TypeId) (g b tp nr me step x y z : Int) :
    AC Tryd.prog (GM tt) 10 [.agg (confC (.slice none 0 0) g b tp nr me), .agg #[I64 step, (.slice none 0 0)], V3 x y z] [] (fun v h => v = .bool true ∧ h = []) := by
  refine ac_of_body tabOk has10 ?_
  unfold BodyOk
  conv => whnf
  refine ac_mono (Moved_s (GM tt) step x y z (l := ([] : List Bd)) (h := [.cells (confC (.slice none 0 0) g b tp nr me) 39, .cells #[I64 step, (.slice none 0 0)] 42, .cells #[I64 x, I64 y, I64 z] 59]) (m := 3) rfl (.inl ⟨rfl, rfl⟩) (by simp)) ?_
  rintro v h' ⟨c, cp, e, rfl, rfl, q1, q2⟩
  conv => whnf
  refine ac_mono (RFitsU_s tt (l := ([] : List Int)) (bl := ([] : List Bd)) (h := [.cells (confC (.slice none 0 0) g b tp nr me) 39, .cells #[I64 step, (.slice none 0 0)] 42, .cells #[I64 x, I64 y, I64 z] 59, .cells c 61, .cells #[I64 step, slc 3 0 ([] : List Bd).length cp] 42]) (.inl ⟨rfl, rfl⟩) (.inl ⟨rfl, rfl⟩) g b tp nr me step) ?_
  rintro v h' ⟨rfl, rfl⟩
  conv => whnf
  rw [fits_nil1 g b tp nr me step ([] : List Bd)]
  conv => whnf
  refine ac_pure (Mwakes_c tt) rfl ?_
  rintro v h' ⟨rfl, rfl⟩
  refine ⟨rfl, rfl, ?_⟩
  conv => whnf
  refine ⟨rfl, fin_turnedK rfl ?_⟩
  conv => whnf
  exact ⟨rfl, rfl⟩

end Go.Proofs.YtjpjnjidchdlbaaDoor
