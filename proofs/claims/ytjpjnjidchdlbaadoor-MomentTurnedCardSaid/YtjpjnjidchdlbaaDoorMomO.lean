/-
  MomentTells: the walk (no condition).
-/
import Derived.Test.YtjpjnjidchdlbaaDoorMomN
namespace Go.Proofs.YtjpjnjidchdlbaaDoor
set_option linter.unusedSimpArgs false
set_option linter.unusedVariables false
open Go
set_option maxRecDepth 100000
set_option maxHeartbeats 4000000
theorem has7 : Has Tryd.prog 7 Tryd.f7 := ⟨Tryd.func7, by kernel_rfl, by kernel_rfl⟩
theorem Lost_q (G) {h0 : List Obj} {s : St} {d : Option Nat} {K : St → Prop} (a b c x y z : Int) (hk : putK s d (A3 (wrapS .i64 (x - a)) (wrapS .i64 (y - b)) (wrapS .i64 (z - c))) K) : Quiet Tryd.prog G h0 33 [A3 a b c, A3 x y z] fun v => putK s d v K := by
  refine quiet_of (Lost_c G a b c x y z) rfl ?_
  rintro v h' ⟨rfl, rfl⟩
  exact ⟨rfl, rfl, hk⟩
theorem RLost_q (G) {h0 : List Obj} {s : St} {d : Option Nat} {K : St → Prop} (a b c x y z : Int) (hk : putK s d (A3 (wrapS .i64 (x - a)) (wrapS .i64 (y - b)) (wrapS .i64 (z - c))) K) : Quiet Tryd.prog G h0 34 [A3 a b c, A3 x y z] fun v => putK s d v K := by
  refine quiet_of (RLost_c G a b c x y z) rfl ?_
  rintro v h' ⟨rfl, rfl⟩
  exact ⟨rfl, rfl, hk⟩
theorem AlikeT_q (tt : TypeId) {h0 : List Obj} {s : St} {d : Option Nat} {K : St → Prop} {ms : Value} {l : List Int} (hs : SlI h0 ms l) (hl : l.length ≤ 1000000000000) (g b tp nr me : Int) (hk : putK s d (.bool (okConf (l.length : Int) l g b tp nr me && alikeF l)) K) :
    Quiet Tryd.prog (GM tt) h0 35 [.agg (confC ms g b tp nr me)] fun v => putK s d v K := by
  intro h hp
  refine ac_mono (Alike_s tt (hs.pre hp) hl g b tp nr me) ?_
  rintro v h' ⟨rfl, rfl⟩
  exact ⟨rfl, rfl, hk⟩
theorem RAlike_q (tt : TypeId) {h0 : List Obj} {s : St} {d : Option Nat} {K : St → Prop} {ms : Value} {l : List Int} (hs : SlI h0 ms l) (hl : l.length ≤ 1000000000000) (g b tp nr me : Int) (hk : putK s d (.bool (okConf (l.length : Int) l g b tp nr me && alikeF l)) K) :
    Quiet Tryd.prog (GM tt) h0 36 [.agg (confC ms g b tp nr me)] fun v => putK s d v K := by
  intro h hp
  refine ac_mono (RAlike_s tt (hs.pre hp) hl g b tp nr me) ?_
  rintro v h' ⟨rfl, rfl⟩
  exact ⟨rfl, rfl, hk⟩
theorem MwakesT_q (tt : TypeId) {h0 : List Obj} {s : St} {d : Option Nat} {K : St → Prop} (hk : putK s d (.bool true) K) : Quiet Tryd.prog (GM tt) h0 26 [] fun v => putK s d v K := by
  refine quiet_of (Mwakes_c tt) rfl ?_
  rintro v h' ⟨rfl, rfl⟩
  exact ⟨rfl, rfl, hk⟩
theorem Tells7_rr (tt : TypeId) (c0 : Array Value) (t0 : TypeId) (off cap : Nat) (l : List Int) (hw : WinI c0 off l) (hcap : l.length ≤ cap) (c1 : Array Value) (t1 : TypeId) (off1 cap1 : Nat) (bl : List Bd) (hw1 : WinB c1 off1 bl) (hcap1 : bl.length ≤ cap1) (g b tp nr me step a0 a1 a2 b0 b1 b2 : Int) :
    AC Tryd.prog (GM tt) 7 [.agg (confC (slc 0 off l.length cap) g b tp nr me), .agg #[I64 step, (slc 1 off1 bl.length cap1)], A3 a0 a1 a2, A3 b0 b1 b2] [.pending c0 t0, .pending c1 t1] (fun v h => v = .bool true ∧ h = [.pending c0 t0, .pending c1 t1]) := by
  refine ac_of_body tabOk has7 ?_
  unfold BodyOk
  conv => whnf
  refine ac_readF [0] (GreatU_r tt c0 t0 off cap l.length g b tp nr me) (by simp [r3, r2, r1, r0, rA, nu]) rfl (cold_p (.inl rfl)) ?_
  rintro v h' ⟨rfl, rfl⟩
  refine ⟨rfl, rfl, ?_⟩
  conv => whnf
  refine ways (fun h1 => ?_) (fun h1 => ?_) <;> conv => whnf
  · refine ac_pure (Mwakes_c tt) rfl ?_
    rintro v h' ⟨rfl, rfl⟩
    refine ⟨rfl, rfl, ?_⟩
    conv => whnf
    refine ⟨rfl, fin_turnedK rfl ?_⟩
    conv => whnf
    exact ⟨rfl, rfl⟩
  have hl : l.length ≤ 1000000000000 := by have := of_decide_eq_false h1; omega
  refine ac_readF [1] (GreatS_r (GM tt) step c1 t1 off1 cap1 bl.length) (by simp [r3, r2, r1, r0, rA, nu]) rfl (cold_p (.inl rfl)) ?_
  rintro v h' ⟨rfl, rfl⟩
  refine ⟨rfl, rfl, ?_⟩
  conv => whnf
  refine ways (fun h2 => ?_) (fun h2 => ?_) <;> conv => whnf
  · refine ac_pure (Mwakes_c tt) rfl ?_
    rintro v h' ⟨rfl, rfl⟩
    refine ⟨rfl, rfl, ?_⟩
    conv => whnf
    refine ⟨rfl, fin_turnedK rfl ?_⟩
    conv => whnf
    exact ⟨rfl, rfl⟩
  have hl1 : bl.length ≤ 1000000000000 := by have := of_decide_eq_false h2; omega
  rcases Bool.eq_false_or_eq_true (fitsF l g b tp nr me step bl) with hok | hok
  · refine ac_mono (P_s tt (l := l) (bl := bl) (.inr ⟨0, off, cap, c0, t0, rfl, .inl rfl, hw, hcap⟩) (.inr ⟨1, off1, cap1, c1, t1, rfl, .inl rfl, hw1, hcap1⟩) hl hl1 g b tp nr me step) ?_
    rintro v h' ⟨rfl, rfl⟩
    rw [hok]
    conv => whnf
    refine ac_mono (RP_s tt (l := l) (bl := bl) (.inr ⟨0, off, cap, c0, t0, rfl, .inl rfl, hw, hcap⟩) (.inr ⟨1, off1, cap1, c1, t1, rfl, .inl rfl, hw1, hcap1⟩) hl hl1 g b tp nr me step) ?_
    rintro v h' ⟨rfl, rfl⟩
    rw [hok]
    conv => whnf
    refine ac_mono (L_s tt (l := l) (bl := bl) (.inr ⟨0, off, cap, c0, t0, rfl, .inl rfl, hw, hcap⟩) (.inr ⟨1, off1, cap1, c1, t1, rfl, .inl rfl, hw1, hcap1⟩) hl hl1 g b tp nr me step) ?_
    rintro v h' ⟨rfl, rfl⟩
    rw [hok]
    conv => whnf
    refine ac_mono (RL_s tt (l := l) (bl := bl) (.inr ⟨0, off, cap, c0, t0, rfl, .inl rfl, hw, hcap⟩) (.inr ⟨1, off1, cap1, c1, t1, rfl, .inl rfl, hw1, hcap1⟩) hl hl1 g b tp nr me step) ?_
    rintro v h' ⟨rfl, rfl⟩
    rw [hok]
    conv => whnf
    refine ac_mono (Mid_s tt (l := l) (bl := bl) (.inr ⟨0, off, cap, c0, t0, rfl, .inl rfl, hw, hcap⟩) (.inr ⟨1, off1, cap1, c1, t1, rfl, .inl rfl, hw1, hcap1⟩) hl hl1 g b tp nr me step) ?_
    rintro v h' ⟨rfl, rfl⟩
    rw [hok]
    conv => whnf
    refine ac_mono (RMid_s tt (l := l) (bl := bl) (.inr ⟨0, off, cap, c0, t0, rfl, .inl rfl, hw, hcap⟩) (.inr ⟨1, off1, cap1, c1, t1, rfl, .inl rfl, hw1, hcap1⟩) hl hl1 g b tp nr me step) ?_
    rintro v h' ⟨rfl, rfl⟩
    rw [hok]
    conv => whnf
    refine ad_of tabOk (by kernel_rfl) [(0, false), (1, false), (2, false), (3, false), (4, false), (5, false), (6, false), (7, false), (8, false), (9, false), (10, false), (11, false), (12, false), (13, false), (14, false), (15, false), (16, false), (17, false), (18, false), (19, false), (20, false), (21, false), (22, false), (23, false), (24, false), (25, false), (26, false), (27, false), (28, false), (29, false), (30, false), (32, false), (33, false), (31, false), (34, false), (35, false), (36, false), (37, false), (38, false), (40, false), (39, false), (41, false), (42, false), (43, false), (44, false), (45, false), (46, false), (47, false)] (by kernel_rfl) ?_
    conv => whnf
    first
      | (refine way1 (by simp) ?_; conv => whnf)
      | skip
    first
      | (refine way1 (by simp) ?_; conv => whnf)
      | skip
    first
      | (refine way1 (by simp) ?_; conv => whnf)
      | skip
    refine Lost_q (GM tt) a0 a1 a2 b0 b1 b2 ?_
    conv => whnf
    refine RLost_q (GM tt) a0 a1 a2 b0 b1 b2 ?_
    conv => whnf
    first
      | (refine way1 (by simp) ?_; conv => whnf)
      | skip
    refine AlikeT_q tt (l := l) (.inr ⟨0, off, cap, c0, t0, rfl, .inl rfl, hw, hcap⟩) hl g b tp nr me ?_
    conv => whnf
    refine RAlike_q tt (l := l) (.inr ⟨0, off, cap, c0, t0, rfl, .inl rfl, hw, hcap⟩) hl g b tp nr me ?_
    conv => whnf
    first
      | (refine way1 (by simp) ?_; conv => whnf)
      | skip
    refine MwakesT_q tt ?_
    conv => whnf
    refine ⟨rfl, fin_turnedK rfl ?_⟩
    conv => whnf
    exact ⟨rfl, rfl⟩
  · refine ac_mono (P_s tt (l := l) (bl := bl) (.inr ⟨0, off, cap, c0, t0, rfl, .inl rfl, hw, hcap⟩) (.inr ⟨1, off1, cap1, c1, t1, rfl, .inl rfl, hw1, hcap1⟩) hl hl1 g b tp nr me step) ?_
    rintro v h' ⟨rfl, rfl⟩
    rw [hok]
    conv => whnf
    refine ac_mono (RP_s tt (l := l) (bl := bl) (.inr ⟨0, off, cap, c0, t0, rfl, .inl rfl, hw, hcap⟩) (.inr ⟨1, off1, cap1, c1, t1, rfl, .inl rfl, hw1, hcap1⟩) hl hl1 g b tp nr me step) ?_
    rintro v h' ⟨rfl, rfl⟩
    rw [hok]
    conv => whnf
    refine ac_mono (L_s tt (l := l) (bl := bl) (.inr ⟨0, off, cap, c0, t0, rfl, .inl rfl, hw, hcap⟩) (.inr ⟨1, off1, cap1, c1, t1, rfl, .inl rfl, hw1, hcap1⟩) hl hl1 g b tp nr me step) ?_
    rintro v h' ⟨rfl, rfl⟩
    rw [hok]
    conv => whnf
    refine ac_mono (RL_s tt (l := l) (bl := bl) (.inr ⟨0, off, cap, c0, t0, rfl, .inl rfl, hw, hcap⟩) (.inr ⟨1, off1, cap1, c1, t1, rfl, .inl rfl, hw1, hcap1⟩) hl hl1 g b tp nr me step) ?_
    rintro v h' ⟨rfl, rfl⟩
    rw [hok]
    conv => whnf
    refine ac_mono (Mid_s tt (l := l) (bl := bl) (.inr ⟨0, off, cap, c0, t0, rfl, .inl rfl, hw, hcap⟩) (.inr ⟨1, off1, cap1, c1, t1, rfl, .inl rfl, hw1, hcap1⟩) hl hl1 g b tp nr me step) ?_
    rintro v h' ⟨rfl, rfl⟩
    rw [hok]
    conv => whnf
    refine ac_mono (RMid_s tt (l := l) (bl := bl) (.inr ⟨0, off, cap, c0, t0, rfl, .inl rfl, hw, hcap⟩) (.inr ⟨1, off1, cap1, c1, t1, rfl, .inl rfl, hw1, hcap1⟩) hl hl1 g b tp nr me step) ?_
    rintro v h' ⟨rfl, rfl⟩
    rw [hok]
    conv => whnf
    refine ad_of tabOk (by kernel_rfl) [(0, false), (1, false), (2, false), (3, false), (4, false), (5, false), (6, false), (7, false), (8, false), (9, false), (10, false), (11, false), (12, false), (13, false), (14, false), (15, false), (16, false), (17, false), (18, false), (19, false), (20, false), (21, false), (22, false), (23, false), (24, false), (25, false), (26, false), (27, false), (28, false), (29, false), (30, false), (32, false), (33, false), (31, false), (34, false), (35, false), (36, false), (37, false), (38, false), (40, false), (39, false), (41, false), (42, false), (43, false), (44, false), (45, false), (46, false), (47, false)] (by kernel_rfl) ?_
    conv => whnf
    first
      | (refine way1 (by simp) ?_; conv => whnf)
      | skip
    first
      | (refine way1 (by simp) ?_; conv => whnf)
      | skip
    first
      | (refine way1 (by simp) ?_; conv => whnf)
      | skip
    refine Lost_q (GM tt) a0 a1 a2 b0 b1 b2 ?_
    conv => whnf
    refine RLost_q (GM tt) a0 a1 a2 b0 b1 b2 ?_
    conv => whnf
    first
      | (refine way1 (by simp) ?_; conv => whnf)
      | skip
    refine AlikeT_q tt (l := l) (.inr ⟨0, off, cap, c0, t0, rfl, .inl rfl, hw, hcap⟩) hl g b tp nr me ?_
    conv => whnf
    refine RAlike_q tt (l := l) (.inr ⟨0, off, cap, c0, t0, rfl, .inl rfl, hw, hcap⟩) hl g b tp nr me ?_
    conv => whnf
    first
      | (refine way1 (by simp) ?_; conv => whnf)
      | skip
    refine MwakesT_q tt ?_
    conv => whnf
    refine ⟨rfl, fin_turnedK rfl ?_⟩
    conv => whnf
    exact ⟨rfl, rfl⟩
theorem Tells7_rn (tt : TypeId) (c0 : Array Value) (t0 : TypeId) (off cap : Nat) (l : List Int) (hw : WinI c0 off l) (hcap : l.length ≤ cap) (g b tp nr me step a0 a1 a2 b0 b1 b2 : Int) :
    AC Tryd.prog (GM tt) 7 [.agg (confC (slc 0 off l.length cap) g b tp nr me), .agg #[I64 step, (.slice none 0 0)], A3 a0 a1 a2, A3 b0 b1 b2] [.pending c0 t0] (fun v h => v = .bool true ∧ h = [.pending c0 t0]) := by
  refine ac_of_body tabOk has7 ?_
  unfold BodyOk
  conv => whnf
  refine ac_readF [0] (GreatU_r tt c0 t0 off cap l.length g b tp nr me) (by simp [r3, r2, r1, r0, rA, nu]) rfl (cold_p (.inl rfl)) ?_
  rintro v h' ⟨rfl, rfl⟩
  refine ⟨rfl, rfl, ?_⟩
  conv => whnf
  refine ways (fun h1 => ?_) (fun h1 => ?_) <;> conv => whnf
  · refine ac_pure (Mwakes_c tt) rfl ?_
    rintro v h' ⟨rfl, rfl⟩
    refine ⟨rfl, rfl, ?_⟩
    conv => whnf
    refine ⟨rfl, fin_turnedK rfl ?_⟩
    conv => whnf
    exact ⟨rfl, rfl⟩
  have hl : l.length ≤ 1000000000000 := by have := of_decide_eq_false h1; omega
  refine ac_readF [] (GreatS_n (GM tt) step) (by simp [r3, r2, r1, r0]) rfl cold_0 ?_
  rintro v h' ⟨rfl, rfl⟩
  refine ⟨rfl, rfl, ?_⟩
  conv => whnf
  have hl1 : ([] : List Bd).length ≤ 1000000000000 := by simp
  have hok : fitsF l g b tp nr me step ([] : List Bd) = false := fits_nil2 l g b tp nr me step
  refine ac_mono (P_s tt (l := l) (bl := ([] : List Bd)) (.inr ⟨0, off, cap, c0, t0, rfl, .inl rfl, hw, hcap⟩) (.inl ⟨rfl, rfl⟩) hl hl1 g b tp nr me step) ?_
  rintro v h' ⟨rfl, rfl⟩
  rw [hok]
  conv => whnf
  refine ac_mono (RP_s tt (l := l) (bl := ([] : List Bd)) (.inr ⟨0, off, cap, c0, t0, rfl, .inl rfl, hw, hcap⟩) (.inl ⟨rfl, rfl⟩) hl hl1 g b tp nr me step) ?_
  rintro v h' ⟨rfl, rfl⟩
  rw [hok]
  conv => whnf
  refine ac_mono (L_s tt (l := l) (bl := ([] : List Bd)) (.inr ⟨0, off, cap, c0, t0, rfl, .inl rfl, hw, hcap⟩) (.inl ⟨rfl, rfl⟩) hl hl1 g b tp nr me step) ?_
  rintro v h' ⟨rfl, rfl⟩
  rw [hok]
  conv => whnf
  refine ac_mono (RL_s tt (l := l) (bl := ([] : List Bd)) (.inr ⟨0, off, cap, c0, t0, rfl, .inl rfl, hw, hcap⟩) (.inl ⟨rfl, rfl⟩) hl hl1 g b tp nr me step) ?_
  rintro v h' ⟨rfl, rfl⟩
  rw [hok]
  conv => whnf
  refine ac_mono (Mid_s tt (l := l) (bl := ([] : List Bd)) (.inr ⟨0, off, cap, c0, t0, rfl, .inl rfl, hw, hcap⟩) (.inl ⟨rfl, rfl⟩) hl hl1 g b tp nr me step) ?_
  rintro v h' ⟨rfl, rfl⟩
  rw [hok]
  conv => whnf
  refine ac_mono (RMid_s tt (l := l) (bl := ([] : List Bd)) (.inr ⟨0, off, cap, c0, t0, rfl, .inl rfl, hw, hcap⟩) (.inl ⟨rfl, rfl⟩) hl hl1 g b tp nr me step) ?_
  rintro v h' ⟨rfl, rfl⟩
  rw [hok]
  conv => whnf
  refine ad_of tabOk (by kernel_rfl) [(0, false), (1, false), (2, false), (3, false), (4, false), (5, false), (6, false), (7, false), (8, false), (9, false), (10, false), (11, false), (12, false), (13, false), (14, false), (15, false), (16, false), (17, false), (18, false), (19, false), (20, false), (21, false), (22, false), (23, false), (24, false), (25, false), (26, false), (27, false), (28, false), (29, false), (30, false), (32, false), (33, false), (31, false), (34, false), (35, false), (36, false), (37, false), (38, false), (40, false), (39, false), (41, false), (42, false), (43, false), (44, false), (45, false), (46, false), (47, false)] (by kernel_rfl) ?_
  conv => whnf
  first
    | (refine way1 (by simp) ?_; conv => whnf)
    | skip
  first
    | (refine way1 (by simp) ?_; conv => whnf)
    | skip
  first
    | (refine way1 (by simp) ?_; conv => whnf)
    | skip
  refine Lost_q (GM tt) a0 a1 a2 b0 b1 b2 ?_
  conv => whnf
  refine RLost_q (GM tt) a0 a1 a2 b0 b1 b2 ?_
  conv => whnf
  first
    | (refine way1 (by simp) ?_; conv => whnf)
    | skip
  refine AlikeT_q tt (l := l) (.inr ⟨0, off, cap, c0, t0, rfl, .inl rfl, hw, hcap⟩) hl g b tp nr me ?_
  conv => whnf
  refine RAlike_q tt (l := l) (.inr ⟨0, off, cap, c0, t0, rfl, .inl rfl, hw, hcap⟩) hl g b tp nr me ?_
  conv => whnf
  first
    | (refine way1 (by simp) ?_; conv => whnf)
    | skip
  refine MwakesT_q tt ?_
  conv => whnf
  refine ⟨rfl, fin_turnedK rfl ?_⟩
  conv => whnf
  exact ⟨rfl, rfl⟩
theorem Tells7_nr (tt : TypeId) (c1 : Array Value) (t1 : TypeId) (off1 cap1 : Nat) (bl : List Bd) (hw1 : WinB c1 off1 bl) (hcap1 : bl.length ≤ cap1) (g b tp nr me step a0 a1 a2 b0 b1 b2 : Int) :
    AC Tryd.prog (GM tt) 7 [.agg (confC (.slice none 0 0) g b tp nr me), .agg #[I64 step, (slc 0 off1 bl.length cap1)], A3 a0 a1 a2, A3 b0 b1 b2] [.pending c1 t1] (fun v h => v = .bool true ∧ h = [.pending c1 t1]) := by
  refine ac_of_body tabOk has7 ?_
  unfold BodyOk
  conv => whnf
  refine ac_readF [] (Great_n tt g b tp nr me) (by simp [r3, r2, r1, r0]) rfl cold_0 ?_
  rintro v h' ⟨rfl, rfl⟩
  refine ⟨rfl, rfl, ?_⟩
  conv => whnf
  have hl : ([] : List Int).length ≤ 1000000000000 := by simp
  refine ac_readF [0] (GreatS_r (GM tt) step c1 t1 off1 cap1 bl.length) (by simp [r3, r2, r1, r0, rA, nu]) rfl (cold_p (.inl rfl)) ?_
  rintro v h' ⟨rfl, rfl⟩
  refine ⟨rfl, rfl, ?_⟩
  conv => whnf
  refine ways (fun h2 => ?_) (fun h2 => ?_) <;> conv => whnf
  · refine ac_pure (Mwakes_c tt) rfl ?_
    rintro v h' ⟨rfl, rfl⟩
    refine ⟨rfl, rfl, ?_⟩
    conv => whnf
    refine ⟨rfl, fin_turnedK rfl ?_⟩
    conv => whnf
    exact ⟨rfl, rfl⟩
  have hl1 : bl.length ≤ 1000000000000 := by have := of_decide_eq_false h2; omega
  have hok : fitsF ([] : List Int) g b tp nr me step bl = false := fits_nil1 g b tp nr me step bl
  refine ac_mono (P_s tt (l := ([] : List Int)) (bl := bl) (.inl ⟨rfl, rfl⟩) (.inr ⟨0, off1, cap1, c1, t1, rfl, .inl rfl, hw1, hcap1⟩) hl hl1 g b tp nr me step) ?_
  rintro v h' ⟨rfl, rfl⟩
  rw [hok]
  conv => whnf
  refine ac_mono (RP_s tt (l := ([] : List Int)) (bl := bl) (.inl ⟨rfl, rfl⟩) (.inr ⟨0, off1, cap1, c1, t1, rfl, .inl rfl, hw1, hcap1⟩) hl hl1 g b tp nr me step) ?_
  rintro v h' ⟨rfl, rfl⟩
  rw [hok]
  conv => whnf
  refine ac_mono (L_s tt (l := ([] : List Int)) (bl := bl) (.inl ⟨rfl, rfl⟩) (.inr ⟨0, off1, cap1, c1, t1, rfl, .inl rfl, hw1, hcap1⟩) hl hl1 g b tp nr me step) ?_
  rintro v h' ⟨rfl, rfl⟩
  rw [hok]
  conv => whnf
  refine ac_mono (RL_s tt (l := ([] : List Int)) (bl := bl) (.inl ⟨rfl, rfl⟩) (.inr ⟨0, off1, cap1, c1, t1, rfl, .inl rfl, hw1, hcap1⟩) hl hl1 g b tp nr me step) ?_
  rintro v h' ⟨rfl, rfl⟩
  rw [hok]
  conv => whnf
  refine ac_mono (Mid_s tt (l := ([] : List Int)) (bl := bl) (.inl ⟨rfl, rfl⟩) (.inr ⟨0, off1, cap1, c1, t1, rfl, .inl rfl, hw1, hcap1⟩) hl hl1 g b tp nr me step) ?_
  rintro v h' ⟨rfl, rfl⟩
  rw [hok]
  conv => whnf
  refine ac_mono (RMid_s tt (l := ([] : List Int)) (bl := bl) (.inl ⟨rfl, rfl⟩) (.inr ⟨0, off1, cap1, c1, t1, rfl, .inl rfl, hw1, hcap1⟩) hl hl1 g b tp nr me step) ?_
  rintro v h' ⟨rfl, rfl⟩
  rw [hok]
  conv => whnf
  refine ad_of tabOk (by kernel_rfl) [(0, false), (1, false), (2, false), (3, false), (4, false), (5, false), (6, false), (7, false), (8, false), (9, false), (10, false), (11, false), (12, false), (13, false), (14, false), (15, false), (16, false), (17, false), (18, false), (19, false), (20, false), (21, false), (22, false), (23, false), (24, false), (25, false), (26, false), (27, false), (28, false), (29, false), (30, false), (32, false), (33, false), (31, false), (34, false), (35, false), (36, false), (37, false), (38, false), (40, false), (39, false), (41, false), (42, false), (43, false), (44, false), (45, false), (46, false), (47, false)] (by kernel_rfl) ?_
  conv => whnf
  first
    | (refine way1 (by simp) ?_; conv => whnf)
    | skip
  first
    | (refine way1 (by simp) ?_; conv => whnf)
    | skip
  first
    | (refine way1 (by simp) ?_; conv => whnf)
    | skip
  refine Lost_q (GM tt) a0 a1 a2 b0 b1 b2 ?_
  conv => whnf
  refine RLost_q (GM tt) a0 a1 a2 b0 b1 b2 ?_
  conv => whnf
  first
    | (refine way1 (by simp) ?_; conv => whnf)
    | skip
  refine AlikeT_q tt (l := ([] : List Int)) (.inl ⟨rfl, rfl⟩) hl g b tp nr me ?_
  conv => whnf
  refine RAlike_q tt (l := ([] : List Int)) (.inl ⟨rfl, rfl⟩) hl g b tp nr me ?_
  conv => whnf
  first
    | (refine way1 (by simp) ?_; conv => whnf)
    | skip
  refine MwakesT_q tt ?_
  conv => whnf
  refine ⟨rfl, fin_turnedK rfl ?_⟩
  conv => whnf
  exact ⟨rfl, rfl⟩
theorem Tells7_nn (tt : TypeId) (g b tp nr me step a0 a1 a2 b0 b1 b2 : Int) :
    AC Tryd.prog (GM tt) 7 [.agg (confC (.slice none 0 0) g b tp nr me), .agg #[I64 step, (.slice none 0 0)], A3 a0 a1 a2, A3 b0 b1 b2] [] (fun v h => v = .bool true ∧ h = []) := by
  refine ac_of_body tabOk has7 ?_
  unfold BodyOk
  conv => whnf
  refine ac_readF [] (Great_n tt g b tp nr me) (by simp [r3, r2, r1, r0]) rfl cold_0 ?_
  rintro v h' ⟨rfl, rfl⟩
  refine ⟨rfl, rfl, ?_⟩
  conv => whnf
  have hl : ([] : List Int).length ≤ 1000000000000 := by simp
  refine ac_readF [] (GreatS_n (GM tt) step) (by simp [r3, r2, r1, r0]) rfl cold_0 ?_
  rintro v h' ⟨rfl, rfl⟩
  refine ⟨rfl, rfl, ?_⟩
  conv => whnf
  have hl1 : ([] : List Bd).length ≤ 1000000000000 := by simp
  have hok : fitsF ([] : List Int) g b tp nr me step ([] : List Bd) = false := fits_nil1 g b tp nr me step ([] : List Bd)
  refine ac_mono (P_s tt (l := ([] : List Int)) (bl := ([] : List Bd)) (.inl ⟨rfl, rfl⟩) (.inl ⟨rfl, rfl⟩) hl hl1 g b tp nr me step) ?_
  rintro v h' ⟨rfl, rfl⟩
  rw [hok]
  conv => whnf
  refine ac_mono (RP_s tt (l := ([] : List Int)) (bl := ([] : List Bd)) (.inl ⟨rfl, rfl⟩) (.inl ⟨rfl, rfl⟩) hl hl1 g b tp nr me step) ?_
  rintro v h' ⟨rfl, rfl⟩
  rw [hok]
  conv => whnf
  refine ac_mono (L_s tt (l := ([] : List Int)) (bl := ([] : List Bd)) (.inl ⟨rfl, rfl⟩) (.inl ⟨rfl, rfl⟩) hl hl1 g b tp nr me step) ?_
  rintro v h' ⟨rfl, rfl⟩
  rw [hok]
  conv => whnf
  refine ac_mono (RL_s tt (l := ([] : List Int)) (bl := ([] : List Bd)) (.inl ⟨rfl, rfl⟩) (.inl ⟨rfl, rfl⟩) hl hl1 g b tp nr me step) ?_
  rintro v h' ⟨rfl, rfl⟩
  rw [hok]
  conv => whnf
  refine ac_mono (Mid_s tt (l := ([] : List Int)) (bl := ([] : List Bd)) (.inl ⟨rfl, rfl⟩) (.inl ⟨rfl, rfl⟩) hl hl1 g b tp nr me step) ?_
  rintro v h' ⟨rfl, rfl⟩
  rw [hok]
  conv => whnf
  refine ac_mono (RMid_s tt (l := ([] : List Int)) (bl := ([] : List Bd)) (.inl ⟨rfl, rfl⟩) (.inl ⟨rfl, rfl⟩) hl hl1 g b tp nr me step) ?_
  rintro v h' ⟨rfl, rfl⟩
  rw [hok]
  conv => whnf
  refine ad_of tabOk (by kernel_rfl) [(0, false), (1, false), (2, false), (3, false), (4, false), (5, false), (6, false), (7, false), (8, false), (9, false), (10, false), (11, false), (12, false), (13, false), (14, false), (15, false), (16, false), (17, false), (18, false), (19, false), (20, false), (21, false), (22, false), (23, false), (24, false), (25, false), (26, false), (27, false), (28, false), (29, false), (30, false), (32, false), (33, false), (31, false), (34, false), (35, false), (36, false), (37, false), (38, false), (40, false), (39, false), (41, false), (42, false), (43, false), (44, false), (45, false), (46, false), (47, false)] (by kernel_rfl) ?_
  conv => whnf
  first
    | (refine way1 (by simp) ?_; conv => whnf)
    | skip
  first
    | (refine way1 (by simp) ?_; conv => whnf)
    | skip
  first
    | (refine way1 (by simp) ?_; conv => whnf)
    | skip
  refine Lost_q (GM tt) a0 a1 a2 b0 b1 b2 ?_
  conv => whnf
  refine RLost_q (GM tt) a0 a1 a2 b0 b1 b2 ?_
  conv => whnf
  first
    | (refine way1 (by simp) ?_; conv => whnf)
    | skip
  refine AlikeT_q tt (l := ([] : List Int)) (.inl ⟨rfl, rfl⟩) hl g b tp nr me ?_
  conv => whnf
  refine RAlike_q tt (l := ([] : List Int)) (.inl ⟨rfl, rfl⟩) hl g b tp nr me ?_
  conv => whnf
  first
    | (refine way1 (by simp) ?_; conv => whnf)
    | skip
  refine MwakesT_q tt ?_
  conv => whnf
  refine ⟨rfl, fin_turnedK rfl ?_⟩
  conv => whnf
  exact ⟨rfl, rfl⟩
end Go.Proofs.YtjpjnjidchdlbaaDoor
