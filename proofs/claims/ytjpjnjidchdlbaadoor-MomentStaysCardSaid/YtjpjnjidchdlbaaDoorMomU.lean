/-
  The reference's Fits, whatever the lengths.
-/
import Derived.Test.YtjpjnjidchdlbaaDoorMomJ
namespace Go.Proofs.YtjpjnjidchdlbaaDoor
set_option linter.unusedSimpArgs false
set_option linter.unusedVariables false
open Go
set_option maxRecDepth 100000
set_option maxHeartbeats 4000000
theorem okConf_long {l : List Int} (h : 4 < l.length) (g b tp nr me : Int) : okConf (l.length : Int) l g b tp nr me = false := by
  unfold okConf win
  rw [show decide ((l.length : Int) ≤ 4) = false from decide_eq_false (by omega), Bool.and_false, Bool.false_and]
theorem okState_long {l : List Bd} (h : 4 < l.length) (step : Int) : okState step l = false := by
  unfold okState
  rw [show decide (l.length ≤ 4) = false from decide_eq_false (by omega), Bool.false_and, Bool.and_false, Bool.and_false, Bool.and_false]
theorem RWhyL_r (tt : TypeId) (c0 : Array Value) (t0 : TypeId) (off cap : Nat) (l : List Int) (hlong : 4 < l.length) (g b tp nr me : Int) :
    AC Tryd.prog (GM tt) 64 [.agg (confC (slc 0 off l.length cap) g b tp nr me)] [.pending c0 t0] (fun v h => WhyIs false v ∧ h = [.pending c0 t0]) := by
  refine ac_of_body tabOk has64 ?_
  unfold BodyOk
  conv => whnf
  refine ac_pure (rwithin_c (GM tt) (l.length : Int) 1 4) rfl ?_
  rintro v h' ⟨rfl, rfl⟩
  refine ⟨rfl, rfl, ?_⟩
  conv => whnf
  refine way1 (by unfold win; rw [show decide ((l.length : Int) ≤ 4) = false from decide_eq_false (by omega), Bool.and_false]; rfl) ?_
  conv => whnf
  refine ⟨rfl, fin_turnedK rfl ?_⟩
  conv => whnf
  exact ⟨.inr ⟨rfl, _, _, rfl⟩, rfl⟩
theorem RCheckL_r (tt : TypeId) (c0 : Array Value) (t0 : TypeId) (off cap : Nat) (l : List Int) (hlong : 4 < l.length) (g b tp nr me : Int) :
    AC Tryd.prog (GM tt) 47 [.agg (confC (slc 0 off l.length cap) g b tp nr me)] [.pending c0 t0] (fun v h => v = I64 110 ∧ h = [.pending c0 t0]) := by
  refine ac_of_body tabOk has47 ?_
  unfold BodyOk
  conv => whnf
  refine ac_readF [0] (RWhyL_r tt c0 t0 off cap l hlong g b tp nr me) (by simp [r3, r2, r1, r0, rA, nu]) rfl (cold_p (.inl rfl)) ?_
  rintro v h' ⟨⟨h1, _⟩ | ⟨h1, a, l, rfl⟩, rfl⟩
  · exact absurd h1 Bool.false_ne_true
  · refine ⟨rfl, rfl, ?_⟩
    conv => whnf
    refine way1 (str_ne a l) ?_
    conv => whnf
    refine ⟨rfl, fin_turnedK rfl ?_⟩
    conv => whnf
    exact ⟨rfl, rfl⟩
theorem RCheckU_s (tt : TypeId) {h : List Obj} {ms : Value} {l : List Int} (hs : SlI h ms l) (g b tp nr me : Int) :
    AC Tryd.prog (GM tt) 47 [.agg (confC ms g b tp nr me)] h (fun v h' => v = I64 (if okConf (l.length : Int) l g b tp nr me then 0 else 110) ∧ h' = h) := by
  by_cases hl : l.length ≤ 4
  · exact RCheck_s tt hs (by omega) g b tp nr me
  · rw [okConf_long (by omega)]
    rcases hs with ⟨rfl, rfl⟩ | ⟨m, off, cap, c, t, rfl, h2, h4, h5⟩
    · exact absurd (Nat.zero_le 4) hl
    · refine ac_readF [m] (RCheckL_r tt c t off cap l (by omega) g b tp nr me) (by simp [r3, r2, r1, r0, rA, nu]) rfl (cold_p h2) ?_
      rintro v h' ⟨rfl, rfl⟩
      exact ⟨rfl, rfl, rfl, rfl⟩
theorem RRightL_r (G) (step : Int) (c0 : Array Value) (t0 : TypeId) (off cap : Nat) (l : List Bd) (hlong : 4 < l.length) :
    AC Tryd.prog G 60 [.agg #[I64 step, (slc 0 off l.length cap)]] [.pending c0 t0] (fun v h => v = .bool false ∧ h = [.pending c0 t0]) := by
  refine ac_of_body tabOk has60 ?_
  unfold BodyOk
  conv => whnf
  refine ways (fun h2 => ?_) (fun h2 => ?_) <;> conv => whnf
  · refine ways (fun h1 => ?_) (fun h1 => ?_) <;> conv => whnf
    · refine way1 (by rw [decide_eq_true_iff]; omega) ?_
      conv => whnf
      refine way0 (decide_eq_false (by omega)) ?_
      conv => whnf
      refine ⟨rfl, fin_turnedK rfl ?_⟩
      conv => whnf
      exact ⟨rfl, rfl⟩
    · refine ⟨rfl, fin_turnedK rfl ?_⟩
      conv => whnf
      exact ⟨rfl, rfl⟩
  · refine ⟨rfl, fin_turnedK rfl ?_⟩
    conv => whnf
    exact ⟨rfl, rfl⟩
theorem RRightU_s (G) (step : Int) {h : List Obj} {bs : Value} {l : List Bd} (hs : SlB h bs l) :
    AC Tryd.prog G 60 [.agg #[I64 step, bs]] h (fun v h' => v = .bool (okState step l) ∧ h' = h) := by
  by_cases hl : l.length ≤ 4
  · exact RRight_s G step hs (by omega)
  · rw [okState_long (by omega)]
    rcases hs with ⟨rfl, rfl⟩ | ⟨m, off, cap, c, t, rfl, h2, h4, h5⟩
    · exact absurd (Nat.zero_le 4) hl
    · refine ac_readF [m] (RRightL_r G step c t off cap l (by omega)) (by simp [r3, r2, r1, r0, rA, nu]) rfl (cold_p h2) ?_
      rintro v h' ⟨rfl, rfl⟩
      exact ⟨rfl, rfl, rfl, rfl⟩
theorem RFitsU_rr (tt : TypeId) (c0 : Array Value) (t0 : TypeId) (off cap : Nat) (l : List Int) (hw : WinI c0 off l) (hcap : l.length ≤ cap)  (c1 : Array Value) (t1 : TypeId) (off1 cap1 : Nat) (bl : List Bd) (hw1 : WinB c1 off1 bl) (hcap1 : bl.length ≤ cap1)  (g b tp nr me step : Int) :
    AC Tryd.prog (GM tt) 37 [.agg (confC (slc 0 off l.length cap) g b tp nr me), .agg #[I64 step, (slc 1 off1 bl.length cap1)]] [.pending c0 t0, .pending c1 t1] (fun v h => v = .bool (fitsF l g b tp nr me step bl) ∧ h = [.pending c0 t0, .pending c1 t1]) := by
  have si : SlI [.pending c0 t0, .pending c1 t1, .cells (confC (slc 0 off l.length cap) g b tp nr me) 39, .cells #[I64 step, (slc 1 off1 bl.length cap1)] 42] (slc 0 off l.length cap) l := (.inr ⟨0, off, cap, c0, t0, rfl, .inl rfl, hw, hcap⟩)
  have sb : SlB [.pending c0 t0, .pending c1 t1, .cells (confC (slc 0 off l.length cap) g b tp nr me) 39, .cells #[I64 step, (slc 1 off1 bl.length cap1)] 42] (slc 1 off1 bl.length cap1) bl := (.inr ⟨1, off1, cap1, c1, t1, rfl, .inl rfl, hw1, hcap1⟩)
  refine ac_of_body tabOk has37 ?_
  unfold BodyOk
  conv => whnf
  refine ac_mono (RCheckU_s tt si g b tp nr me) ?_
  rintro v h' ⟨rfl, rfl⟩
  conv => whnf
  rw [chk_eq]
  refine ways (fun h2 => ?_) (fun h2 => ?_) <;> conv => whnf
  rotate_left
  · refine ⟨rfl, fin_turnedK rfl ?_⟩
    conv => whnf
    refine ⟨?_, rfl⟩
    unfold fitsF
    rw [h2, Bool.false_and, Bool.and_false]
  refine ac_mono (RRightU_s (GM tt) step sb) ?_
  rintro v h' ⟨rfl, rfl⟩
  conv => whnf
  refine ways (fun h3 => ?_) (fun h3 => ?_) <;> conv => whnf
  · refine ⟨rfl, fin_turnedK rfl ?_⟩
    conv => whnf
    refine ⟨?_, rfl⟩
    unfold fitsF
    rw [h2, h3]
    simp [len_beq]
  · refine ⟨rfl, fin_turnedK rfl ?_⟩
    conv => whnf
    refine ⟨?_, rfl⟩
    unfold fitsF
    rw [h3, Bool.and_false, Bool.and_false]
theorem RFitsU_rn (tt : TypeId) (c0 : Array Value) (t0 : TypeId) (off cap : Nat) (l : List Int) (hw : WinI c0 off l) (hcap : l.length ≤ cap)  (g b tp nr me step : Int) :
    AC Tryd.prog (GM tt) 37 [.agg (confC (slc 0 off l.length cap) g b tp nr me), .agg #[I64 step, (.slice none 0 0)]] [.pending c0 t0] (fun v h => v = .bool (fitsF l g b tp nr me step ([] : List Bd)) ∧ h = [.pending c0 t0]) := by
  have si : SlI [.pending c0 t0, .cells (confC (slc 0 off l.length cap) g b tp nr me) 39, .cells #[I64 step, (.slice none 0 0)] 42] (slc 0 off l.length cap) l := (.inr ⟨0, off, cap, c0, t0, rfl, .inl rfl, hw, hcap⟩)
  have sb : SlB [.pending c0 t0, .cells (confC (slc 0 off l.length cap) g b tp nr me) 39, .cells #[I64 step, (.slice none 0 0)] 42] (.slice none 0 0) ([] : List Bd) := (.inl ⟨rfl, rfl⟩)
  refine ac_of_body tabOk has37 ?_
  unfold BodyOk
  conv => whnf
  refine ac_mono (RCheckU_s tt si g b tp nr me) ?_
  rintro v h' ⟨rfl, rfl⟩
  conv => whnf
  rw [chk_eq]
  refine ways (fun h2 => ?_) (fun h2 => ?_) <;> conv => whnf
  rotate_left
  · refine ⟨rfl, fin_turnedK rfl ?_⟩
    conv => whnf
    refine ⟨?_, rfl⟩
    unfold fitsF
    rw [h2, Bool.false_and, Bool.and_false]
  refine ac_mono (RRightU_s (GM tt) step sb) ?_
  rintro v h' ⟨rfl, rfl⟩
  conv => whnf
  refine ways (fun h3 => ?_) (fun h3 => ?_) <;> conv => whnf
  · rw [okState_nil] at h3; cases h3
  · refine ⟨rfl, fin_turnedK rfl ?_⟩
    conv => whnf
    refine ⟨?_, rfl⟩
    unfold fitsF
    rw [h3, Bool.and_false, Bool.and_false]
theorem RFitsU_nr (tt : TypeId) (c1 : Array Value) (t1 : TypeId) (off1 cap1 : Nat) (bl : List Bd) (hw1 : WinB c1 off1 bl) (hcap1 : bl.length ≤ cap1)  (g b tp nr me step : Int) :
    AC Tryd.prog (GM tt) 37 [.agg (confC (.slice none 0 0) g b tp nr me), .agg #[I64 step, (slc 0 off1 bl.length cap1)]] [.pending c1 t1] (fun v h => v = .bool (fitsF ([] : List Int) g b tp nr me step bl) ∧ h = [.pending c1 t1]) := by
  have si : SlI [.pending c1 t1, .cells (confC (.slice none 0 0) g b tp nr me) 39, .cells #[I64 step, (slc 0 off1 bl.length cap1)] 42] (.slice none 0 0) ([] : List Int) := (.inl ⟨rfl, rfl⟩)
  have sb : SlB [.pending c1 t1, .cells (confC (.slice none 0 0) g b tp nr me) 39, .cells #[I64 step, (slc 0 off1 bl.length cap1)] 42] (slc 0 off1 bl.length cap1) bl := (.inr ⟨0, off1, cap1, c1, t1, rfl, .inl rfl, hw1, hcap1⟩)
  refine ac_of_body tabOk has37 ?_
  unfold BodyOk
  conv => whnf
  refine ac_mono (RCheckU_s tt si g b tp nr me) ?_
  rintro v h' ⟨rfl, rfl⟩
  conv => whnf
  refine ⟨rfl, fin_turnedK rfl ?_⟩
  conv => whnf
  refine ⟨?_, rfl⟩
  unfold fitsF
  rw [show okConf (([] : List Int).length : Int) [] g b tp nr me = false from rfl, Bool.false_and, Bool.and_false]
theorem RFitsU_nn (tt : TypeId) (g b tp nr me step : Int) :
    AC Tryd.prog (GM tt) 37 [.agg (confC (.slice none 0 0) g b tp nr me), .agg #[I64 step, (.slice none 0 0)]] [] (fun v h => v = .bool (fitsF ([] : List Int) g b tp nr me step ([] : List Bd)) ∧ h = []) := by
  have si : SlI [.cells (confC (.slice none 0 0) g b tp nr me) 39, .cells #[I64 step, (.slice none 0 0)] 42] (.slice none 0 0) ([] : List Int) := (.inl ⟨rfl, rfl⟩)
  have sb : SlB [.cells (confC (.slice none 0 0) g b tp nr me) 39, .cells #[I64 step, (.slice none 0 0)] 42] (.slice none 0 0) ([] : List Bd) := (.inl ⟨rfl, rfl⟩)
  refine ac_of_body tabOk has37 ?_
  unfold BodyOk
  conv => whnf
  refine ac_mono (RCheckU_s tt si g b tp nr me) ?_
  rintro v h' ⟨rfl, rfl⟩
  conv => whnf
  refine ⟨rfl, fin_turnedK rfl ?_⟩
  conv => whnf
  refine ⟨?_, rfl⟩
  unfold fitsF
  rw [show okConf (([] : List Int).length : Int) [] g b tp nr me = false from rfl, Bool.false_and, Bool.and_false]
theorem RFitsU_s (tt : TypeId) {h : List Obj} {ms bs : Value} {l : List Int} {bl : List Bd} (hs : SlI h ms l) (hb : SlB h bs bl)   (g b tp nr me step : Int) :
    AC Tryd.prog (GM tt) 37 [.agg (confC ms g b tp nr me), .agg #[I64 step, bs]] h (fun v h' => v = .bool (fitsF l g b tp nr me step bl) ∧ h' = h) := by
  rcases hs with ⟨rfl, rfl⟩ | ⟨m, off, cap, c, t, rfl, h2, h4, h5⟩
  · rcases hb with ⟨rfl, rfl⟩ | ⟨m1, off1, cap1, c1, t1, rfl, k2, k4, k5⟩
    · refine ac_readF [] (RFitsU_nn tt g b tp nr me step) (by simp [r3, r2, r1, r0]) rfl cold_0 ?_
      rintro v h' ⟨rfl, rfl⟩
      exact ⟨rfl, rfl, rfl, rfl⟩
    · refine ac_readF [m1] (RFitsU_nr tt c1 t1 off1 cap1 bl k4 k5 g b tp nr me step) (by simp [r3, r2, r1, r0, rA, nu]) rfl (cold_p k2) ?_
      rintro v h' ⟨rfl, rfl⟩
      exact ⟨rfl, rfl, rfl, rfl⟩
  · rcases hb with ⟨rfl, rfl⟩ | ⟨m1, off1, cap1, c1, t1, rfl, k2, k4, k5⟩
    · refine ac_readF [m] (RFitsU_rn tt c t off cap l h4 h5 g b tp nr me step) (by simp [r3, r2, r1, r0, rA, nu]) rfl (cold_p h2) ?_
      rintro v h' ⟨rfl, rfl⟩
      exact ⟨rfl, rfl, rfl, rfl⟩
    · refine ac_readF [m, m1] (RFitsU_rr tt c t off cap l h4 h5 c1 t1 off1 cap1 bl k4 k5 g b tp nr me step) (by simp [r3, r2, r1, r0, rA, nu]) rfl (cold_2 h2 k2) ?_
      rintro v h' ⟨rfl, rfl⟩
      exact ⟨rfl, rfl, rfl, rfl⟩
end Go.Proofs.YtjpjnjidchdlbaaDoor
