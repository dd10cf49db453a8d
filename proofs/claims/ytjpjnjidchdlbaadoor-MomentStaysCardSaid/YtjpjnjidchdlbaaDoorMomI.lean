/-
  moment.P, L, Mid; what the document says of a mass of 2 (no condition).
-/
import Derived.Test.YtjpjnjidchdlbaaDoorMomH
namespace Go.Proofs.YtjpjnjidchdlbaaDoor
set_option linter.unusedSimpArgs false
set_option linter.unusedVariables false
open Go
set_option maxRecDepth 100000
set_option maxHeartbeats 4000000
theorem has26 : Has Tryd.prog 26 Tryd.f26 := ⟨Tryd.func26, by kernel_rfl, by kernel_rfl⟩
theorem has27 : Has Tryd.prog 27 Tryd.f27 := ⟨Tryd.func27, by kernel_rfl, by kernel_rfl⟩
theorem has29 : Has Tryd.prog 29 Tryd.f29 := ⟨Tryd.func29, by kernel_rfl, by kernel_rfl⟩
theorem has31 : Has Tryd.prog 31 Tryd.f31 := ⟨Tryd.func31, by kernel_rfl, by kernel_rfl⟩
theorem sum_s (tt : TypeId) {h : List Obj} {ms bs : Value} {l : List Int} {bl : List Bd} (hs : SlI h ms l) (hb : SlB h bs bl) (hl : l.length ≤ 1000000000000) (hl1 : bl.length ≤ 1000000000000) (g b tp nr me step : Int) (kf : Nat) (of : Bd → I3) (hof : ∀ b, AC Tryd.prog (GM tt) kf [V6 b] [] (fun v h => v = A3t (of b) ∧ h = [])) :
    AC Tryd.prog (GM tt) 52 [.agg (confC ms g b tp nr me), .agg #[I64 step, bs], .func (.func kf) #[] #[]] h (fun v h' => v = sumV (fitsF l g b tp nr me step bl) (sumF of l bl) ∧ h' = h) := by
  have hcl : closedV (sumV (fitsF l g b tp nr me step bl) (sumF of l bl)) = true := by cases fitsF l g b tp nr me step bl <;> rfl
  rcases hs with ⟨rfl, rfl⟩ | ⟨m, off, cap, c, t, rfl, h2, h4, h5⟩
  · rcases hb with ⟨rfl, rfl⟩ | ⟨m1, off1, cap1, c1, t1, rfl, k2, k4, k5⟩
    · refine ac_readF [] (sum_nn tt g b tp nr me step kf of hof) (by simp [r3, r2, r1, r0]) rfl cold_0 ?_
      rintro v h' ⟨rfl, rfl⟩
      exact ⟨hcl, rfl, rfl, rfl⟩
    · refine ac_readF [m1] (sum_nr tt c1 t1 off1 cap1 bl k4 k5 hl1 g b tp nr me step kf of hof) (by simp [r3, r2, r1, r0, rA, nu]) rfl (cold_p k2) ?_
      rintro v h' ⟨rfl, rfl⟩
      exact ⟨hcl, rfl, rfl, rfl⟩
  · rcases hb with ⟨rfl, rfl⟩ | ⟨m1, off1, cap1, c1, t1, rfl, k2, k4, k5⟩
    · refine ac_readF [m] (sum_rn tt c t off cap l h4 h5 hl g b tp nr me step kf of hof) (by simp [r3, r2, r1, r0, rA, nu]) rfl (cold_p h2) ?_
      rintro v h' ⟨rfl, rfl⟩
      exact ⟨hcl, rfl, rfl, rfl⟩
    · refine ac_readF [m, m1] (sum_rr tt c t off cap l h4 h5 hl c1 t1 off1 cap1 bl k4 k5 hl1 g b tp nr me step kf of hof) (by simp [r3, r2, r1, r0, rA, nu]) rfl (cold_2 h2 k2) ?_
      rintro v h' ⟨rfl, rfl⟩
      exact ⟨hcl, rfl, rfl, rfl⟩
theorem P_rr (tt : TypeId) (c0 : Array Value) (t0 : TypeId) (off cap : Nat) (l : List Int) (hw : WinI c0 off l) (hcap : l.length ≤ cap) (hl : l.length ≤ 1000000000000) (c1 : Array Value) (t1 : TypeId) (off1 cap1 : Nat) (bl : List Bd) (hw1 : WinB c1 off1 bl) (hcap1 : bl.length ≤ cap1) (hl1 : bl.length ≤ 1000000000000) (g b tp nr me step : Int) :
    AC Tryd.prog (GM tt) 27 [.agg (confC (slc 0 off l.length cap) g b tp nr me), .agg #[I64 step, (slc 1 off1 bl.length cap1)]] [.pending c0 t0, .pending c1 t1] (fun v h => v = sumV (fitsF l g b tp nr me step bl) (sumF ofV l bl) ∧ h = [.pending c0 t0, .pending c1 t1]) := by
  have si : SlI [.pending c0 t0, .pending c1 t1, .cells (confC (slc 0 off l.length cap) g b tp nr me) 39, .cells #[I64 step, (slc 1 off1 bl.length cap1)] 42, .cells #[I64 0, I64 0, I64 0] 43] (slc 0 off l.length cap) l := (.inr ⟨0, off, cap, c0, t0, rfl, .inl rfl, hw, hcap⟩)
  have sb : SlB [.pending c0 t0, .pending c1 t1, .cells (confC (slc 0 off l.length cap) g b tp nr me) 39, .cells #[I64 step, (slc 1 off1 bl.length cap1)] 42, .cells #[I64 0, I64 0, I64 0] 43] (slc 1 off1 bl.length cap1) bl := (.inr ⟨1, off1, cap1, c1, t1, rfl, .inl rfl, hw1, hcap1⟩)
  refine ac_of_body tabOk has27 ?_
  unfold BodyOk
  conv => whnf
  refine ac_mono (sum_s tt si sb hl hl1 g b tp nr me step 53 ofV (ofV_c _)) ?_
  rintro v h' ⟨rfl, rfl⟩
  cases hf : fitsF l g b tp nr me step bl with
  | true =>
    conv => whnf
    refine ⟨rfl, fin_turnedK rfl ?_⟩
    conv => whnf
    exact ⟨rfl, rfl⟩
  | false =>
    conv => whnf
    refine ⟨rfl, fin_turnedK rfl ?_⟩
    conv => whnf
    exact ⟨rfl, rfl⟩
theorem P_rn (tt : TypeId) (c0 : Array Value) (t0 : TypeId) (off cap : Nat) (l : List Int) (hw : WinI c0 off l) (hcap : l.length ≤ cap) (hl : l.length ≤ 1000000000000) (g b tp nr me step : Int) :
    AC Tryd.prog (GM tt) 27 [.agg (confC (slc 0 off l.length cap) g b tp nr me), .agg #[I64 step, (.slice none 0 0)]] [.pending c0 t0] (fun v h => v = sumV (fitsF l g b tp nr me step ([] : List Bd)) (sumF ofV l ([] : List Bd)) ∧ h = [.pending c0 t0]) := by
  have si : SlI [.pending c0 t0, .cells (confC (slc 0 off l.length cap) g b tp nr me) 39, .cells #[I64 step, (.slice none 0 0)] 42, .cells #[I64 0, I64 0, I64 0] 43] (slc 0 off l.length cap) l := (.inr ⟨0, off, cap, c0, t0, rfl, .inl rfl, hw, hcap⟩)
  have sb : SlB [.pending c0 t0, .cells (confC (slc 0 off l.length cap) g b tp nr me) 39, .cells #[I64 step, (.slice none 0 0)] 42, .cells #[I64 0, I64 0, I64 0] 43] (.slice none 0 0) ([] : List Bd) := (.inl ⟨rfl, rfl⟩)
  refine ac_of_body tabOk has27 ?_
  unfold BodyOk
  conv => whnf
  refine ac_mono (sum_s tt si sb hl (by simp) g b tp nr me step 53 ofV (ofV_c _)) ?_
  rintro v h' ⟨rfl, rfl⟩
  cases hf : fitsF l g b tp nr me step ([] : List Bd) with
  | true =>
    conv => whnf
    refine ⟨rfl, fin_turnedK rfl ?_⟩
    conv => whnf
    exact ⟨rfl, rfl⟩
  | false =>
    conv => whnf
    refine ⟨rfl, fin_turnedK rfl ?_⟩
    conv => whnf
    exact ⟨rfl, rfl⟩
theorem P_nr (tt : TypeId) (c1 : Array Value) (t1 : TypeId) (off1 cap1 : Nat) (bl : List Bd) (hw1 : WinB c1 off1 bl) (hcap1 : bl.length ≤ cap1) (hl1 : bl.length ≤ 1000000000000) (g b tp nr me step : Int) :
    AC Tryd.prog (GM tt) 27 [.agg (confC (.slice none 0 0) g b tp nr me), .agg #[I64 step, (slc 0 off1 bl.length cap1)]] [.pending c1 t1] (fun v h => v = sumV (fitsF ([] : List Int) g b tp nr me step bl) (sumF ofV ([] : List Int) bl) ∧ h = [.pending c1 t1]) := by
  have si : SlI [.pending c1 t1, .cells (confC (.slice none 0 0) g b tp nr me) 39, .cells #[I64 step, (slc 0 off1 bl.length cap1)] 42, .cells #[I64 0, I64 0, I64 0] 43] (.slice none 0 0) ([] : List Int) := (.inl ⟨rfl, rfl⟩)
  have sb : SlB [.pending c1 t1, .cells (confC (.slice none 0 0) g b tp nr me) 39, .cells #[I64 step, (slc 0 off1 bl.length cap1)] 42, .cells #[I64 0, I64 0, I64 0] 43] (slc 0 off1 bl.length cap1) bl := (.inr ⟨0, off1, cap1, c1, t1, rfl, .inl rfl, hw1, hcap1⟩)
  refine ac_of_body tabOk has27 ?_
  unfold BodyOk
  conv => whnf
  refine ac_mono (sum_s tt si sb (by simp) hl1 g b tp nr me step 53 ofV (ofV_c _)) ?_
  rintro v h' ⟨rfl, rfl⟩
  cases hf : fitsF ([] : List Int) g b tp nr me step bl with
  | true =>
    conv => whnf
    refine ⟨rfl, fin_turnedK rfl ?_⟩
    conv => whnf
    exact ⟨rfl, rfl⟩
  | false =>
    conv => whnf
    refine ⟨rfl, fin_turnedK rfl ?_⟩
    conv => whnf
    exact ⟨rfl, rfl⟩
theorem P_nn (tt : TypeId) (g b tp nr me step : Int) :
    AC Tryd.prog (GM tt) 27 [.agg (confC (.slice none 0 0) g b tp nr me), .agg #[I64 step, (.slice none 0 0)]] [] (fun v h => v = sumV (fitsF ([] : List Int) g b tp nr me step ([] : List Bd)) (sumF ofV ([] : List Int) ([] : List Bd)) ∧ h = []) := by
  have si : SlI [.cells (confC (.slice none 0 0) g b tp nr me) 39, .cells #[I64 step, (.slice none 0 0)] 42, .cells #[I64 0, I64 0, I64 0] 43] (.slice none 0 0) ([] : List Int) := (.inl ⟨rfl, rfl⟩)
  have sb : SlB [.cells (confC (.slice none 0 0) g b tp nr me) 39, .cells #[I64 step, (.slice none 0 0)] 42, .cells #[I64 0, I64 0, I64 0] 43] (.slice none 0 0) ([] : List Bd) := (.inl ⟨rfl, rfl⟩)
  refine ac_of_body tabOk has27 ?_
  unfold BodyOk
  conv => whnf
  refine ac_mono (sum_s tt si sb (by simp) (by simp) g b tp nr me step 53 ofV (ofV_c _)) ?_
  rintro v h' ⟨rfl, rfl⟩
  cases hf : fitsF ([] : List Int) g b tp nr me step ([] : List Bd) with
  | true =>
    conv => whnf
    refine ⟨rfl, fin_turnedK rfl ?_⟩
    conv => whnf
    exact ⟨rfl, rfl⟩
  | false =>
    conv => whnf
    refine ⟨rfl, fin_turnedK rfl ?_⟩
    conv => whnf
    exact ⟨rfl, rfl⟩
theorem P_s (tt : TypeId) {h : List Obj} {ms bs : Value} {l : List Int} {bl : List Bd} (hs : SlI h ms l) (hb : SlB h bs bl) (hl : l.length ≤ 1000000000000) (hl1 : bl.length ≤ 1000000000000) (g b tp nr me step : Int) :
    AC Tryd.prog (GM tt) 27 [.agg (confC ms g b tp nr me), .agg #[I64 step, bs]] h (fun v h' => v = sumV (fitsF l g b tp nr me step bl) (sumF ofV l bl) ∧ h' = h) := by
  have hcl : closedV (sumV (fitsF l g b tp nr me step bl) (sumF ofV l bl)) = true := by cases fitsF l g b tp nr me step bl <;> rfl
  rcases hs with ⟨rfl, rfl⟩ | ⟨m, off, cap, c, t, rfl, h2, h4, h5⟩
  · rcases hb with ⟨rfl, rfl⟩ | ⟨m1, off1, cap1, c1, t1, rfl, k2, k4, k5⟩
    · refine ac_readF [] (P_nn tt g b tp nr me step) (by simp [r3, r2, r1, r0]) rfl cold_0 ?_
      rintro v h' ⟨rfl, rfl⟩
      exact ⟨hcl, rfl, rfl, rfl⟩
    · refine ac_readF [m1] (P_nr tt c1 t1 off1 cap1 bl k4 k5 hl1 g b tp nr me step) (by simp [r3, r2, r1, r0, rA, nu]) rfl (cold_p k2) ?_
      rintro v h' ⟨rfl, rfl⟩
      exact ⟨hcl, rfl, rfl, rfl⟩
  · rcases hb with ⟨rfl, rfl⟩ | ⟨m1, off1, cap1, c1, t1, rfl, k2, k4, k5⟩
    · refine ac_readF [m] (P_rn tt c t off cap l h4 h5 hl g b tp nr me step) (by simp [r3, r2, r1, r0, rA, nu]) rfl (cold_p h2) ?_
      rintro v h' ⟨rfl, rfl⟩
      exact ⟨hcl, rfl, rfl, rfl⟩
    · refine ac_readF [m, m1] (P_rr tt c t off cap l h4 h5 hl c1 t1 off1 cap1 bl k4 k5 hl1 g b tp nr me step) (by simp [r3, r2, r1, r0, rA, nu]) rfl (cold_2 h2 k2) ?_
      rintro v h' ⟨rfl, rfl⟩
      exact ⟨hcl, rfl, rfl, rfl⟩
theorem L_rr (tt : TypeId) (c0 : Array Value) (t0 : TypeId) (off cap : Nat) (l : List Int) (hw : WinI c0 off l) (hcap : l.length ≤ cap) (hl : l.length ≤ 1000000000000) (c1 : Array Value) (t1 : TypeId) (off1 cap1 : Nat) (bl : List Bd) (hw1 : WinB c1 off1 bl) (hcap1 : bl.length ≤ cap1) (hl1 : bl.length ≤ 1000000000000) (g b tp nr me step : Int) :
    AC Tryd.prog (GM tt) 29 [.agg (confC (slc 0 off l.length cap) g b tp nr me), .agg #[I64 step, (slc 1 off1 bl.length cap1)]] [.pending c0 t0, .pending c1 t1] (fun v h => v = sumV (fitsF l g b tp nr me step bl) (sumF ofL l bl) ∧ h = [.pending c0 t0, .pending c1 t1]) := by
  have si : SlI [.pending c0 t0, .pending c1 t1, .cells (confC (slc 0 off l.length cap) g b tp nr me) 39, .cells #[I64 step, (slc 1 off1 bl.length cap1)] 42, .cells #[I64 0, I64 0, I64 0] 43] (slc 0 off l.length cap) l := (.inr ⟨0, off, cap, c0, t0, rfl, .inl rfl, hw, hcap⟩)
  have sb : SlB [.pending c0 t0, .pending c1 t1, .cells (confC (slc 0 off l.length cap) g b tp nr me) 39, .cells #[I64 step, (slc 1 off1 bl.length cap1)] 42, .cells #[I64 0, I64 0, I64 0] 43] (slc 1 off1 bl.length cap1) bl := (.inr ⟨1, off1, cap1, c1, t1, rfl, .inl rfl, hw1, hcap1⟩)
  refine ac_of_body tabOk has29 ?_
  unfold BodyOk
  conv => whnf
  refine ac_mono (sum_s tt si sb hl hl1 g b tp nr me step 55 ofL (ofL_c _)) ?_
  rintro v h' ⟨rfl, rfl⟩
  cases hf : fitsF l g b tp nr me step bl with
  | true =>
    conv => whnf
    refine ⟨rfl, fin_turnedK rfl ?_⟩
    conv => whnf
    exact ⟨rfl, rfl⟩
  | false =>
    conv => whnf
    refine ⟨rfl, fin_turnedK rfl ?_⟩
    conv => whnf
    exact ⟨rfl, rfl⟩
theorem L_rn (tt : TypeId) (c0 : Array Value) (t0 : TypeId) (off cap : Nat) (l : List Int) (hw : WinI c0 off l) (hcap : l.length ≤ cap) (hl : l.length ≤ 1000000000000) (g b tp nr me step : Int) :
    AC Tryd.prog (GM tt) 29 [.agg (confC (slc 0 off l.length cap) g b tp nr me), .agg #[I64 step, (.slice none 0 0)]] [.pending c0 t0] (fun v h => v = sumV (fitsF l g b tp nr me step ([] : List Bd)) (sumF ofL l ([] : List Bd)) ∧ h = [.pending c0 t0]) := by
  have si : SlI [.pending c0 t0, .cells (confC (slc 0 off l.length cap) g b tp nr me) 39, .cells #[I64 step, (.slice none 0 0)] 42, .cells #[I64 0, I64 0, I64 0] 43] (slc 0 off l.length cap) l := (.inr ⟨0, off, cap, c0, t0, rfl, .inl rfl, hw, hcap⟩)
  have sb : SlB [.pending c0 t0, .cells (confC (slc 0 off l.length cap) g b tp nr me) 39, .cells #[I64 step, (.slice none 0 0)] 42, .cells #[I64 0, I64 0, I64 0] 43] (.slice none 0 0) ([] : List Bd) := (.inl ⟨rfl, rfl⟩)
  refine ac_of_body tabOk has29 ?_
  unfold BodyOk
  conv => whnf
  refine ac_mono (sum_s tt si sb hl (by simp) g b tp nr me step 55 ofL (ofL_c _)) ?_
  rintro v h' ⟨rfl, rfl⟩
  cases hf : fitsF l g b tp nr me step ([] : List Bd) with
  | true =>
    conv => whnf
    refine ⟨rfl, fin_turnedK rfl ?_⟩
    conv => whnf
    exact ⟨rfl, rfl⟩
  | false =>
    conv => whnf
    refine ⟨rfl, fin_turnedK rfl ?_⟩
    conv => whnf
    exact ⟨rfl, rfl⟩
theorem L_nr (tt : TypeId) (c1 : Array Value) (t1 : TypeId) (off1 cap1 : Nat) (bl : List Bd) (hw1 : WinB c1 off1 bl) (hcap1 : bl.length ≤ cap1) (hl1 : bl.length ≤ 1000000000000) (g b tp nr me step : Int) :
    AC Tryd.prog (GM tt) 29 [.agg (confC (.slice none 0 0) g b tp nr me), .agg #[I64 step, (slc 0 off1 bl.length cap1)]] [.pending c1 t1] (fun v h => v = sumV (fitsF ([] : List Int) g b tp nr me step bl) (sumF ofL ([] : List Int) bl) ∧ h = [.pending c1 t1]) := by
  have si : SlI [.pending c1 t1, .cells (confC (.slice none 0 0) g b tp nr me) 39, .cells #[I64 step, (slc 0 off1 bl.length cap1)] 42, .cells #[I64 0, I64 0, I64 0] 43] (.slice none 0 0) ([] : List Int) := (.inl ⟨rfl, rfl⟩)
  have sb : SlB [.pending c1 t1, .cells (confC (.slice none 0 0) g b tp nr me) 39, .cells #[I64 step, (slc 0 off1 bl.length cap1)] 42, .cells #[I64 0, I64 0, I64 0] 43] (slc 0 off1 bl.length cap1) bl := (.inr ⟨0, off1, cap1, c1, t1, rfl, .inl rfl, hw1, hcap1⟩)
  refine ac_of_body tabOk has29 ?_
  unfold BodyOk
  conv => whnf
  refine ac_mono (sum_s tt si sb (by simp) hl1 g b tp nr me step 55 ofL (ofL_c _)) ?_
  rintro v h' ⟨rfl, rfl⟩
  cases hf : fitsF ([] : List Int) g b tp nr me step bl with
  | true =>
    conv => whnf
    refine ⟨rfl, fin_turnedK rfl ?_⟩
    conv => whnf
    exact ⟨rfl, rfl⟩
  | false =>
    conv => whnf
    refine ⟨rfl, fin_turnedK rfl ?_⟩
    conv => whnf
    exact ⟨rfl, rfl⟩
theorem L_nn (tt : TypeId) (g b tp nr me step : Int) :
    AC Tryd.prog (GM tt) 29 [.agg (confC (.slice none 0 0) g b tp nr me), .agg #[I64 step, (.slice none 0 0)]] [] (fun v h => v = sumV (fitsF ([] : List Int) g b tp nr me step ([] : List Bd)) (sumF ofL ([] : List Int) ([] : List Bd)) ∧ h = []) := by
  have si : SlI [.cells (confC (.slice none 0 0) g b tp nr me) 39, .cells #[I64 step, (.slice none 0 0)] 42, .cells #[I64 0, I64 0, I64 0] 43] (.slice none 0 0) ([] : List Int) := (.inl ⟨rfl, rfl⟩)
  have sb : SlB [.cells (confC (.slice none 0 0) g b tp nr me) 39, .cells #[I64 step, (.slice none 0 0)] 42, .cells #[I64 0, I64 0, I64 0] 43] (.slice none 0 0) ([] : List Bd) := (.inl ⟨rfl, rfl⟩)
  refine ac_of_body tabOk has29 ?_
  unfold BodyOk
  conv => whnf
  refine ac_mono (sum_s tt si sb (by simp) (by simp) g b tp nr me step 55 ofL (ofL_c _)) ?_
  rintro v h' ⟨rfl, rfl⟩
  cases hf : fitsF ([] : List Int) g b tp nr me step ([] : List Bd) with
  | true =>
    conv => whnf
    refine ⟨rfl, fin_turnedK rfl ?_⟩
    conv => whnf
    exact ⟨rfl, rfl⟩
  | false =>
    conv => whnf
    refine ⟨rfl, fin_turnedK rfl ?_⟩
    conv => whnf
    exact ⟨rfl, rfl⟩
theorem L_s (tt : TypeId) {h : List Obj} {ms bs : Value} {l : List Int} {bl : List Bd} (hs : SlI h ms l) (hb : SlB h bs bl) (hl : l.length ≤ 1000000000000) (hl1 : bl.length ≤ 1000000000000) (g b tp nr me step : Int) :
    AC Tryd.prog (GM tt) 29 [.agg (confC ms g b tp nr me), .agg #[I64 step, bs]] h (fun v h' => v = sumV (fitsF l g b tp nr me step bl) (sumF ofL l bl) ∧ h' = h) := by
  have hcl : closedV (sumV (fitsF l g b tp nr me step bl) (sumF ofL l bl)) = true := by cases fitsF l g b tp nr me step bl <;> rfl
  rcases hs with ⟨rfl, rfl⟩ | ⟨m, off, cap, c, t, rfl, h2, h4, h5⟩
  · rcases hb with ⟨rfl, rfl⟩ | ⟨m1, off1, cap1, c1, t1, rfl, k2, k4, k5⟩
    · refine ac_readF [] (L_nn tt g b tp nr me step) (by simp [r3, r2, r1, r0]) rfl cold_0 ?_
      rintro v h' ⟨rfl, rfl⟩
      exact ⟨hcl, rfl, rfl, rfl⟩
    · refine ac_readF [m1] (L_nr tt c1 t1 off1 cap1 bl k4 k5 hl1 g b tp nr me step) (by simp [r3, r2, r1, r0, rA, nu]) rfl (cold_p k2) ?_
      rintro v h' ⟨rfl, rfl⟩
      exact ⟨hcl, rfl, rfl, rfl⟩
  · rcases hb with ⟨rfl, rfl⟩ | ⟨m1, off1, cap1, c1, t1, rfl, k2, k4, k5⟩
    · refine ac_readF [m] (L_rn tt c t off cap l h4 h5 hl g b tp nr me step) (by simp [r3, r2, r1, r0, rA, nu]) rfl (cold_p h2) ?_
      rintro v h' ⟨rfl, rfl⟩
      exact ⟨hcl, rfl, rfl, rfl⟩
    · refine ac_readF [m, m1] (L_rr tt c t off cap l h4 h5 hl c1 t1 off1 cap1 bl k4 k5 hl1 g b tp nr me step) (by simp [r3, r2, r1, r0, rA, nu]) rfl (cold_2 h2 k2) ?_
      rintro v h' ⟨rfl, rfl⟩
      exact ⟨hcl, rfl, rfl, rfl⟩
theorem Mid_rr (tt : TypeId) (c0 : Array Value) (t0 : TypeId) (off cap : Nat) (l : List Int) (hw : WinI c0 off l) (hcap : l.length ≤ cap) (hl : l.length ≤ 1000000000000) (c1 : Array Value) (t1 : TypeId) (off1 cap1 : Nat) (bl : List Bd) (hw1 : WinB c1 off1 bl) (hcap1 : bl.length ≤ cap1) (hl1 : bl.length ≤ 1000000000000) (g b tp nr me step : Int) :
    AC Tryd.prog (GM tt) 31 [.agg (confC (slc 0 off l.length cap) g b tp nr me), .agg #[I64 step, (slc 1 off1 bl.length cap1)]] [.pending c0 t0, .pending c1 t1] (fun v h => v = sumV (fitsF l g b tp nr me step bl) (sumF ofX l bl) ∧ h = [.pending c0 t0, .pending c1 t1]) := by
  have si : SlI [.pending c0 t0, .pending c1 t1, .cells (confC (slc 0 off l.length cap) g b tp nr me) 39, .cells #[I64 step, (slc 1 off1 bl.length cap1)] 42, .cells #[I64 0, I64 0, I64 0] 43] (slc 0 off l.length cap) l := (.inr ⟨0, off, cap, c0, t0, rfl, .inl rfl, hw, hcap⟩)
  have sb : SlB [.pending c0 t0, .pending c1 t1, .cells (confC (slc 0 off l.length cap) g b tp nr me) 39, .cells #[I64 step, (slc 1 off1 bl.length cap1)] 42, .cells #[I64 0, I64 0, I64 0] 43] (slc 1 off1 bl.length cap1) bl := (.inr ⟨1, off1, cap1, c1, t1, rfl, .inl rfl, hw1, hcap1⟩)
  refine ac_of_body tabOk has31 ?_
  unfold BodyOk
  conv => whnf
  refine ac_mono (sum_s tt si sb hl hl1 g b tp nr me step 58 ofX (ofX_c _)) ?_
  rintro v h' ⟨rfl, rfl⟩
  cases hf : fitsF l g b tp nr me step bl with
  | true =>
    conv => whnf
    refine ⟨rfl, fin_turnedK rfl ?_⟩
    conv => whnf
    exact ⟨rfl, rfl⟩
  | false =>
    conv => whnf
    refine ⟨rfl, fin_turnedK rfl ?_⟩
    conv => whnf
    exact ⟨rfl, rfl⟩
theorem Mid_rn (tt : TypeId) (c0 : Array Value) (t0 : TypeId) (off cap : Nat) (l : List Int) (hw : WinI c0 off l) (hcap : l.length ≤ cap) (hl : l.length ≤ 1000000000000) (g b tp nr me step : Int) :
    AC Tryd.prog (GM tt) 31 [.agg (confC (slc 0 off l.length cap) g b tp nr me), .agg #[I64 step, (.slice none 0 0)]] [.pending c0 t0] (fun v h => v = sumV (fitsF l g b tp nr me step ([] : List Bd)) (sumF ofX l ([] : List Bd)) ∧ h = [.pending c0 t0]) := by
  have si : SlI [.pending c0 t0, .cells (confC (slc 0 off l.length cap) g b tp nr me) 39, .cells #[I64 step, (.slice none 0 0)] 42, .cells #[I64 0, I64 0, I64 0] 43] (slc 0 off l.length cap) l := (.inr ⟨0, off, cap, c0, t0, rfl, .inl rfl, hw, hcap⟩)
  have sb : SlB [.pending c0 t0, .cells (confC (slc 0 off l.length cap) g b tp nr me) 39, .cells #[I64 step, (.slice none 0 0)] 42, .cells #[I64 0, I64 0, I64 0] 43] (.slice none 0 0) ([] : List Bd) := (.inl ⟨rfl, rfl⟩)
  refine ac_of_body tabOk has31 ?_
  unfold BodyOk
  conv => whnf
  refine ac_mono (sum_s tt si sb hl (by simp) g b tp nr me step 58 ofX (ofX_c _)) ?_
  rintro v h' ⟨rfl, rfl⟩
  cases hf : fitsF l g b tp nr me step ([] : List Bd) with
  | true =>
    conv => whnf
    refine ⟨rfl, fin_turnedK rfl ?_⟩
    conv => whnf
    exact ⟨rfl, rfl⟩
  | false =>
    conv => whnf
    refine ⟨rfl, fin_turnedK rfl ?_⟩
    conv => whnf
    exact ⟨rfl, rfl⟩
theorem Mid_nr (tt : TypeId) (c1 : Array Value) (t1 : TypeId) (off1 cap1 : Nat) (bl : List Bd) (hw1 : WinB c1 off1 bl) (hcap1 : bl.length ≤ cap1) (hl1 : bl.length ≤ 1000000000000) (g b tp nr me step : Int) :
    AC Tryd.prog (GM tt) 31 [.agg (confC (.slice none 0 0) g b tp nr me), .agg #[I64 step, (slc 0 off1 bl.length cap1)]] [.pending c1 t1] (fun v h => v = sumV (fitsF ([] : List Int) g b tp nr me step bl) (sumF ofX ([] : List Int) bl) ∧ h = [.pending c1 t1]) := by
  have si : SlI [.pending c1 t1, .cells (confC (.slice none 0 0) g b tp nr me) 39, .cells #[I64 step, (slc 0 off1 bl.length cap1)] 42, .cells #[I64 0, I64 0, I64 0] 43] (.slice none 0 0) ([] : List Int) := (.inl ⟨rfl, rfl⟩)
  have sb : SlB [.pending c1 t1, .cells (confC (.slice none 0 0) g b tp nr me) 39, .cells #[I64 step, (slc 0 off1 bl.length cap1)] 42, .cells #[I64 0, I64 0, I64 0] 43] (slc 0 off1 bl.length cap1) bl := (.inr ⟨0, off1, cap1, c1, t1, rfl, .inl rfl, hw1, hcap1⟩)
  refine ac_of_body tabOk has31 ?_
  unfold BodyOk
  conv => whnf
  refine ac_mono (sum_s tt si sb (by simp) hl1 g b tp nr me step 58 ofX (ofX_c _)) ?_
  rintro v h' ⟨rfl, rfl⟩
  cases hf : fitsF ([] : List Int) g b tp nr me step bl with
  | true =>
    conv => whnf
    refine ⟨rfl, fin_turnedK rfl ?_⟩
    conv => whnf
    exact ⟨rfl, rfl⟩
  | false =>
    conv => whnf
    refine ⟨rfl, fin_turnedK rfl ?_⟩
    conv => whnf
    exact ⟨rfl, rfl⟩
theorem Mid_nn (tt : TypeId) (g b tp nr me step : Int) :
    AC Tryd.prog (GM tt) 31 [.agg (confC (.slice none 0 0) g b tp nr me), .agg #[I64 step, (.slice none 0 0)]] [] (fun v h => v = sumV (fitsF ([] : List Int) g b tp nr me step ([] : List Bd)) (sumF ofX ([] : List Int) ([] : List Bd)) ∧ h = []) := by
  have si : SlI [.cells (confC (.slice none 0 0) g b tp nr me) 39, .cells #[I64 step, (.slice none 0 0)] 42, .cells #[I64 0, I64 0, I64 0] 43] (.slice none 0 0) ([] : List Int) := (.inl ⟨rfl, rfl⟩)
  have sb : SlB [.cells (confC (.slice none 0 0) g b tp nr me) 39, .cells #[I64 step, (.slice none 0 0)] 42, .cells #[I64 0, I64 0, I64 0] 43] (.slice none 0 0) ([] : List Bd) := (.inl ⟨rfl, rfl⟩)
  refine ac_of_body tabOk has31 ?_
  unfold BodyOk
  conv => whnf
  refine ac_mono (sum_s tt si sb (by simp) (by simp) g b tp nr me step 58 ofX (ofX_c _)) ?_
  rintro v h' ⟨rfl, rfl⟩
  cases hf : fitsF ([] : List Int) g b tp nr me step ([] : List Bd) with
  | true =>
    conv => whnf
    refine ⟨rfl, fin_turnedK rfl ?_⟩
    conv => whnf
    exact ⟨rfl, rfl⟩
  | false =>
    conv => whnf
    refine ⟨rfl, fin_turnedK rfl ?_⟩
    conv => whnf
    exact ⟨rfl, rfl⟩
theorem Mid_s (tt : TypeId) {h : List Obj} {ms bs : Value} {l : List Int} {bl : List Bd} (hs : SlI h ms l) (hb : SlB h bs bl) (hl : l.length ≤ 1000000000000) (hl1 : bl.length ≤ 1000000000000) (g b tp nr me step : Int) :
    AC Tryd.prog (GM tt) 31 [.agg (confC ms g b tp nr me), .agg #[I64 step, bs]] h (fun v h' => v = sumV (fitsF l g b tp nr me step bl) (sumF ofX l bl) ∧ h' = h) := by
  have hcl : closedV (sumV (fitsF l g b tp nr me step bl) (sumF ofX l bl)) = true := by cases fitsF l g b tp nr me step bl <;> rfl
  rcases hs with ⟨rfl, rfl⟩ | ⟨m, off, cap, c, t, rfl, h2, h4, h5⟩
  · rcases hb with ⟨rfl, rfl⟩ | ⟨m1, off1, cap1, c1, t1, rfl, k2, k4, k5⟩
    · refine ac_readF [] (Mid_nn tt g b tp nr me step) (by simp [r3, r2, r1, r0]) rfl cold_0 ?_
      rintro v h' ⟨rfl, rfl⟩
      exact ⟨hcl, rfl, rfl, rfl⟩
    · refine ac_readF [m1] (Mid_nr tt c1 t1 off1 cap1 bl k4 k5 hl1 g b tp nr me step) (by simp [r3, r2, r1, r0, rA, nu]) rfl (cold_p k2) ?_
      rintro v h' ⟨rfl, rfl⟩
      exact ⟨hcl, rfl, rfl, rfl⟩
  · rcases hb with ⟨rfl, rfl⟩ | ⟨m1, off1, cap1, c1, t1, rfl, k2, k4, k5⟩
    · refine ac_readF [m] (Mid_rn tt c t off cap l h4 h5 hl g b tp nr me step) (by simp [r3, r2, r1, r0, rA, nu]) rfl (cold_p h2) ?_
      rintro v h' ⟨rfl, rfl⟩
      exact ⟨hcl, rfl, rfl, rfl⟩
    · refine ac_readF [m, m1] (Mid_rr tt c t off cap l h4 h5 hl c1 t1 off1 cap1 bl k4 k5 hl1 g b tp nr me step) (by simp [r3, r2, r1, r0, rA, nu]) rfl (cold_2 h2 k2) ?_
      rintro v h' ⟨rfl, rfl⟩
      exact ⟨hcl, rfl, rfl, rfl⟩
theorem winI_1 (x : Int) : WinI #[I64 x] 0 [x] := by
  intro j y hj
  match j, hj with
  | 0, hj => cases hj; rfl
  | j + 1, hj => simp at hj
theorem winB_1 (b : Bd) : WinB #[I64 b.a, I64 b.b, I64 b.c, I64 b.x, I64 b.y, I64 b.z] 0 [b] := by
  intro j y hj q v hq
  match j, hj with
  | 0, hj =>
    cases hj
    simpa using hq
  | j + 1, hj => simp at hj
theorem Mwakes_c (tt : TypeId) : AC Tryd.prog (GM tt) 26 [] [] (fun v h => v = .bool true ∧ h = []) := by
  refine ac_of_body tabOk has26 ?_
  unfold BodyOk
  conv => whnf
  have hf : fitsF [2] 1 9 9 1 0 0 [(⟨1, 0, 0, 0, 3, 0⟩ : Bd)] = true := by decide
  have hp : sumF ofV [2] [(⟨1, 0, 0, 0, 3, 0⟩ : Bd)] = (0, 6, 0) := by decide
  have hx : sumF ofX [2] [(⟨1, 0, 0, 0, 3, 0⟩ : Bd)] = (2, 0, 0) := by decide
  have hl : sumF ofL [2] [(⟨1, 0, 0, 0, 3, 0⟩ : Bd)] = (0, 0, 6) := by decide
  refine ac_mono (P_s tt (l := [2]) (bl := [(⟨1, 0, 0, 0, 3, 0⟩ : Bd)]) (.inr ⟨0, 0, 1, #[I64 2], 3, rfl, .inr ⟨by decide, _, rfl⟩, winI_1 2, by decide⟩) (.inr ⟨2, 0, 1, #[I64 1, I64 0, I64 0, I64 0, I64 3, I64 0], 61, rfl, .inr ⟨by decide, _, rfl⟩, winB_1 (⟨1, 0, 0, 0, 3, 0⟩ : Bd), by decide⟩) (by decide) (by decide) 1 9 9 1 0 0) ?_
  rintro v h' ⟨rfl, rfl⟩
  rw [hf, hp]
  conv => whnf
  refine ac_mono (L_s tt (l := [2]) (bl := [(⟨1, 0, 0, 0, 3, 0⟩ : Bd)]) (.inr ⟨0, 0, 1, #[I64 2], 3, rfl, .inr ⟨by decide, _, rfl⟩, winI_1 2, by decide⟩) (.inr ⟨2, 0, 1, #[I64 1, I64 0, I64 0, I64 0, I64 3, I64 0], 61, rfl, .inr ⟨by decide, _, rfl⟩, winB_1 (⟨1, 0, 0, 0, 3, 0⟩ : Bd), by decide⟩) (by decide) (by decide) 1 9 9 1 0 0) ?_
  rintro v h' ⟨rfl, rfl⟩
  rw [hf, hl]
  conv => whnf
  refine ac_mono (Mid_s tt (l := [2]) (bl := [(⟨1, 0, 0, 0, 3, 0⟩ : Bd)]) (.inr ⟨0, 0, 1, #[I64 2], 3, rfl, .inr ⟨by decide, _, rfl⟩, winI_1 2, by decide⟩) (.inr ⟨2, 0, 1, #[I64 1, I64 0, I64 0, I64 0, I64 3, I64 0], 61, rfl, .inr ⟨by decide, _, rfl⟩, winB_1 (⟨1, 0, 0, 0, 3, 0⟩ : Bd), by decide⟩) (by decide) (by decide) 1 9 9 1 0 0) ?_
  rintro v h' ⟨rfl, rfl⟩
  rw [hf, hx]
  conv => whnf
  refine ac_mono (P_s tt (l := [2]) (bl := []) (.inr ⟨0, 0, 1, #[I64 2], 3, rfl, .inr ⟨by decide, _, rfl⟩, winI_1 2, by decide⟩) (.inl ⟨rfl, rfl⟩) (by decide) (by decide) 1 9 9 1 0 0) ?_
  rintro v h' ⟨rfl, rfl⟩
  rw [fits_nil2]
  conv => whnf
  refine ac_pure (Lost_c (GM tt) 1 2 3 4 4 4) rfl ?_
  rintro v h' ⟨rfl, rfl⟩
  refine ⟨rfl, rfl, ?_⟩
  conv => whnf
  refine ac_mono (Alike_s tt (l := [2]) (.inr ⟨0, 0, 1, #[I64 2], 3, rfl, .inr ⟨by decide, _, rfl⟩, winI_1 2, by decide⟩) (by decide) 1 9 9 1 0) ?_
  rintro v h' ⟨rfl, rfl⟩
  rw [show (okConf (([2] : List Int).length : Int) [2] 1 9 9 1 0 && alikeF [2]) = true by decide]
  conv => whnf
  refine ac_mono (Alike_s tt (l := []) (.inl ⟨rfl, rfl⟩) (by decide) 0 0 0 0 0) ?_
  rintro v h' ⟨rfl, rfl⟩
  conv => whnf
  refine ⟨rfl, fin_turnedK rfl ?_⟩
  conv => whnf
  exact ⟨rfl, rfl⟩
end Go.Proofs.YtjpjnjidchdlbaaDoor
