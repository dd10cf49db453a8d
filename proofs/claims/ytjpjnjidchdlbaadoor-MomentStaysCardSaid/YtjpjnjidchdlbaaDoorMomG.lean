/-
  Fits; what is summed up (no condition).
-/
import Derived.Test.YtjpjnjidchdlbaaDoorMomF
import Derived.Test.YtjpjnjidchdlbaaDoorEngZ
namespace Go.Proofs.YtjpjnjidchdlbaaDoor
set_option linter.unusedSimpArgs false
set_option linter.unusedVariables false
open Go
set_option maxRecDepth 100000
set_option maxHeartbeats 4000000
theorem has66 : Has Tryd.prog 66 Tryd.f66 := ⟨Tryd.func66, by kernel_rfl, by kernel_rfl⟩
theorem has37 : Has Tryd.prog 37 Tryd.f37 := ⟨Tryd.func37, by kernel_rfl, by kernel_rfl⟩
theorem has53 : Has Tryd.prog 53 Tryd.f53 := ⟨Tryd.func53, by kernel_rfl, by kernel_rfl⟩
theorem has55 : Has Tryd.prog 55 Tryd.f55 := ⟨Tryd.func55, by kernel_rfl, by kernel_rfl⟩
theorem has58 : Has Tryd.prog 58 Tryd.f58 := ⟨Tryd.func58, by kernel_rfl, by kernel_rfl⟩
theorem Right_s (G) (step : Int) {h : List Obj} {bs : Value} {l : List Bd} (hs : SlB h bs l) (hl : l.length ≤ 1000000000000) :
    AC Tryd.prog G 76 [.agg #[I64 step, bs]] h (fun v h' => v = .bool (okState step l) ∧ h' = h) := by
  rcases hs with ⟨rfl, rfl⟩ | ⟨m, off, cap, c, t, rfl, h2, h4, h5⟩
  · refine ac_readF [] (Right_n G step) (by simp [r3, r2, r1, r0]) rfl cold_0 ?_
    rintro v h' ⟨rfl, rfl⟩
    exact ⟨rfl, rfl, rfl, rfl⟩
  · refine ac_readF [m] (Right_r G step c t off cap l h4 hl) (by simp [r3, r2, r1, r0, rA, nu]) rfl (cold_p h2) ?_
    rintro v h' ⟨rfl, rfl⟩
    exact ⟨rfl, rfl, rfl, rfl⟩
theorem RRight_s (G) (step : Int) {h : List Obj} {bs : Value} {l : List Bd} (hs : SlB h bs l) (hl : l.length ≤ 1000000000000) :
    AC Tryd.prog G 60 [.agg #[I64 step, bs]] h (fun v h' => v = .bool (okState step l) ∧ h' = h) := by
  rcases hs with ⟨rfl, rfl⟩ | ⟨m, off, cap, c, t, rfl, h2, h4, h5⟩
  · refine ac_readF [] (RRight_n G step) (by simp [r3, r2, r1, r0]) rfl cold_0 ?_
    rintro v h' ⟨rfl, rfl⟩
    exact ⟨rfl, rfl, rfl, rfl⟩
  · refine ac_readF [m] (RRight_r G step c t off cap l h4 hl) (by simp [r3, r2, r1, r0, rA, nu]) rfl (cold_p h2) ?_
    rintro v h' ⟨rfl, rfl⟩
    exact ⟨rfl, rfl, rfl, rfl⟩
/-- do both fit? -/
def fitsF (l : List Int) (g b tp nr me step : Int) (bl : List Bd) : Bool := decide (l.length = bl.length) && (okConf (l.length : Int) l g b tp nr me && okState step bl)
theorem cold_2 {h : List Obj} {m m' : Nat} {c c' : Array Value} {t t' : TypeId} (h2 : h[m]? = some (.pending c t) ∨ ((∀ x ∈ c.toList, cleanV x = true) ∧ ∃ g, h[m]? = some (.cells c t g)))
    (h3 : h[m']? = some (.pending c' t') ∨ ((∀ x ∈ c'.toList, cleanV x = true) ∧ ∃ g, h[m']? = some (.cells c' t' g))) :
    ∀ (i : Nat) (o : Obj), [Obj.pending c t, .pending c' t'][i]? = some o → hot o = false ∧ (∀ v ∈ cellsOf o, s1 2 v) ∧ ∃ o', h[[m, m'].getD i 0]? = some o' ∧ ObjLe (rO (nu 2 h.length [m, m']) o) o' := by
  intro i o hi
  exact cold_le (h := h) (sg := [m, m']) (h0 := [.pending c t, .pending c' t']) (show ColdOk h [m, m'] [.pending c t, .pending c' t'] from ⟨h2, h3, trivial⟩) hi
theorem okState_nil (step : Int) : okState step [] = false := by unfold okState; simp
theorem chk_eq (b : Bool) : (((if b = true then 0 else 110 : Int)) == 0) = b := by cases b <;> rfl
theorem len_beq (a b : Nat) : (((a : Int)) == (b : Int)) = decide (a = b) := by
  by_cases h : a = b
  · rw [h, decide_eq_true rfl]; simp
  · rw [decide_eq_false h]; simp; omega
theorem Fits_rr (tt : TypeId) (c0 : Array Value) (t0 : TypeId) (off cap : Nat) (l : List Int) (hw : WinI c0 off l) (hcap : l.length ≤ cap) (hl : l.length ≤ 1000000000000) (c1 : Array Value) (t1 : TypeId) (off1 cap1 : Nat) (bl : List Bd) (hw1 : WinB c1 off1 bl) (hcap1 : bl.length ≤ cap1) (hl1 : bl.length ≤ 1000000000000) (g b tp nr me step : Int) :
    AC Tryd.prog (GM tt) 66 [.agg (confC (slc 0 off l.length cap) g b tp nr me), .agg #[I64 step, (slc 1 off1 bl.length cap1)]] [.pending c0 t0, .pending c1 t1] (fun v h => v = .bool (fitsF l g b tp nr me step bl) ∧ h = [.pending c0 t0, .pending c1 t1]) := by
  have si : SlI [.pending c0 t0, .pending c1 t1, .cells (confC (slc 0 off l.length cap) g b tp nr me) 39, .cells #[I64 step, (slc 1 off1 bl.length cap1)] 42] (slc 0 off l.length cap) l := (.inr ⟨0, off, cap, c0, t0, rfl, .inl rfl, hw, hcap⟩)
  have sb : SlB [.pending c0 t0, .pending c1 t1, .cells (confC (slc 0 off l.length cap) g b tp nr me) 39, .cells #[I64 step, (slc 1 off1 bl.length cap1)] 42] (slc 1 off1 bl.length cap1) bl := (.inr ⟨1, off1, cap1, c1, t1, rfl, .inl rfl, hw1, hcap1⟩)
  refine ac_of_body tabOk has66 ?_
  unfold BodyOk
  conv => whnf
  rw [len_beq]
  refine ways (fun h1 => ?_) (fun h1 => ?_) <;> conv => whnf
  rotate_left
  · refine ⟨rfl, fin_turnedK rfl ?_⟩
    conv => whnf
    refine ⟨?_, rfl⟩
    unfold fitsF
    rw [show decide (l.length = bl.length) = false from h1, Bool.false_and]
  have e1 : decide (l.length = bl.length) = true := h1
  refine ac_mono (Check_s tt si hl g b tp nr me) ?_
  rintro v h' ⟨rfl, rfl⟩
  conv => whnf
  rw [chk_eq]
  refine ways (fun h2 => ?_) (fun h2 => ?_) <;> conv => whnf
  rotate_left
  · refine ⟨rfl, fin_turnedK rfl ?_⟩
    conv => whnf
    refine ⟨?_, rfl⟩
    unfold fitsF
    rw [h2, Bool.false_and, Bool.and_false]
  refine ac_mono (Right_s (GM tt) step sb hl1) ?_
  rintro v h' ⟨rfl, rfl⟩
  conv => whnf
  refine ⟨rfl, fin_turnedK rfl ?_⟩
  conv => whnf
  refine ⟨?_, rfl⟩
  unfold fitsF
  rw [e1, h2]
  rfl
theorem RFits_rr (tt : TypeId) (c0 : Array Value) (t0 : TypeId) (off cap : Nat) (l : List Int) (hw : WinI c0 off l) (hcap : l.length ≤ cap) (hl : l.length ≤ 1000000000000) (c1 : Array Value) (t1 : TypeId) (off1 cap1 : Nat) (bl : List Bd) (hw1 : WinB c1 off1 bl) (hcap1 : bl.length ≤ cap1) (hl1 : bl.length ≤ 1000000000000) (g b tp nr me step : Int) :
    AC Tryd.prog (GM tt) 37 [.agg (confC (slc 0 off l.length cap) g b tp nr me), .agg #[I64 step, (slc 1 off1 bl.length cap1)]] [.pending c0 t0, .pending c1 t1] (fun v h => v = .bool (fitsF l g b tp nr me step bl) ∧ h = [.pending c0 t0, .pending c1 t1]) := by
  have si : SlI [.pending c0 t0, .pending c1 t1, .cells (confC (slc 0 off l.length cap) g b tp nr me) 39, .cells #[I64 step, (slc 1 off1 bl.length cap1)] 42] (slc 0 off l.length cap) l := (.inr ⟨0, off, cap, c0, t0, rfl, .inl rfl, hw, hcap⟩)
  have sb : SlB [.pending c0 t0, .pending c1 t1, .cells (confC (slc 0 off l.length cap) g b tp nr me) 39, .cells #[I64 step, (slc 1 off1 bl.length cap1)] 42] (slc 1 off1 bl.length cap1) bl := (.inr ⟨1, off1, cap1, c1, t1, rfl, .inl rfl, hw1, hcap1⟩)
  refine ac_of_body tabOk has37 ?_
  unfold BodyOk
  conv => whnf
  refine ac_mono (RCheck_s tt si hl g b tp nr me) ?_
  rintro v h' ⟨rfl, rfl⟩
  conv => whnf
  rw [chk_eq]
  refine ways (fun h2 => ?_) (fun h2 => ?_) <;> conv => whnf
  rotate_left
  · refine ⟨rfl, fin_turnedK rfl ?_⟩
    conv => whnf
    refine ⟨?_, rfl⟩
    unfold fitsF
    rw [h2, Bool.false_and, Bool.and_false]
  refine ac_mono (RRight_s (GM tt) step sb hl1) ?_
  rintro v h' ⟨rfl, rfl⟩
  conv => whnf
  refine ways (fun h3 => ?_) (fun h3 => ?_) <;> conv => whnf
  · refine ⟨rfl, fin_turnedK rfl ?_⟩
    conv => whnf
    refine ⟨?_, rfl⟩
    unfold fitsF
    rw [h2, h3]
    simp [len_beq]
  · refine ⟨rfl, fin_turnedK rfl ?_⟩
    conv => whnf
    refine ⟨?_, rfl⟩
    unfold fitsF
    rw [h3, Bool.and_false, Bool.and_false]
theorem Fits_rn (tt : TypeId) (c0 : Array Value) (t0 : TypeId) (off cap : Nat) (l : List Int) (hw : WinI c0 off l) (hcap : l.length ≤ cap) (hl : l.length ≤ 1000000000000) (g b tp nr me step : Int) :
    AC Tryd.prog (GM tt) 66 [.agg (confC (slc 0 off l.length cap) g b tp nr me), .agg #[I64 step, (.slice none 0 0)]] [.pending c0 t0] (fun v h => v = .bool (fitsF l g b tp nr me step ([] : List Bd)) ∧ h = [.pending c0 t0]) := by
  have si : SlI [.pending c0 t0, .cells (confC (slc 0 off l.length cap) g b tp nr me) 39, .cells #[I64 step, (.slice none 0 0)] 42] (slc 0 off l.length cap) l := (.inr ⟨0, off, cap, c0, t0, rfl, .inl rfl, hw, hcap⟩)
  have sb : SlB [.pending c0 t0, .cells (confC (slc 0 off l.length cap) g b tp nr me) 39, .cells #[I64 step, (.slice none 0 0)] 42] (.slice none 0 0) ([] : List Bd) := (.inl ⟨rfl, rfl⟩)
  refine ac_of_body tabOk has66 ?_
  unfold BodyOk
  conv => whnf
  refine ways (fun h1 => ?_) (fun h1 => ?_) <;> conv => whnf
  rotate_left
  · refine ⟨rfl, fin_turnedK rfl ?_⟩
    conv => whnf
    refine ⟨?_, rfl⟩
    unfold fitsF
    rw [show decide (l.length = ([] : List Bd).length) = false from (len_beq _ _).symm.trans h1, Bool.false_and]
  have e1 : decide (l.length = ([] : List Bd).length) = true := (len_beq _ _).symm.trans h1
  refine ac_mono (Check_s tt si hl g b tp nr me) ?_
  rintro v h' ⟨rfl, rfl⟩
  conv => whnf
  rw [chk_eq]
  refine ways (fun h2 => ?_) (fun h2 => ?_) <;> conv => whnf
  rotate_left
  · refine ⟨rfl, fin_turnedK rfl ?_⟩
    conv => whnf
    refine ⟨?_, rfl⟩
    unfold fitsF
    rw [h2, Bool.false_and, Bool.and_false]
  refine ac_mono (Right_s (GM tt) step sb (by simp)) ?_
  rintro v h' ⟨rfl, rfl⟩
  conv => whnf
  refine ⟨rfl, fin_turnedK rfl ?_⟩
  conv => whnf
  refine ⟨?_, rfl⟩
  unfold fitsF
  rw [e1, h2]
  rfl
theorem RFits_rn (tt : TypeId) (c0 : Array Value) (t0 : TypeId) (off cap : Nat) (l : List Int) (hw : WinI c0 off l) (hcap : l.length ≤ cap) (hl : l.length ≤ 1000000000000) (g b tp nr me step : Int) :
    AC Tryd.prog (GM tt) 37 [.agg (confC (slc 0 off l.length cap) g b tp nr me), .agg #[I64 step, (.slice none 0 0)]] [.pending c0 t0] (fun v h => v = .bool (fitsF l g b tp nr me step ([] : List Bd)) ∧ h = [.pending c0 t0]) := by
  have si : SlI [.pending c0 t0, .cells (confC (slc 0 off l.length cap) g b tp nr me) 39, .cells #[I64 step, (.slice none 0 0)] 42] (slc 0 off l.length cap) l := (.inr ⟨0, off, cap, c0, t0, rfl, .inl rfl, hw, hcap⟩)
  have sb : SlB [.pending c0 t0, .cells (confC (slc 0 off l.length cap) g b tp nr me) 39, .cells #[I64 step, (.slice none 0 0)] 42] (.slice none 0 0) ([] : List Bd) := (.inl ⟨rfl, rfl⟩)
  refine ac_of_body tabOk has37 ?_
  unfold BodyOk
  conv => whnf
  refine ac_mono (RCheck_s tt si hl g b tp nr me) ?_
  rintro v h' ⟨rfl, rfl⟩
  conv => whnf
  rw [chk_eq]
  refine ways (fun h2 => ?_) (fun h2 => ?_) <;> conv => whnf
  rotate_left
  · refine ⟨rfl, fin_turnedK rfl ?_⟩
    conv => whnf
    refine ⟨?_, rfl⟩
    unfold fitsF
    rw [h2, Bool.false_and, Bool.and_false]
  refine ac_mono (RRight_s (GM tt) step sb (by simp)) ?_
  rintro v h' ⟨rfl, rfl⟩
  conv => whnf
  refine ways (fun h3 => ?_) (fun h3 => ?_) <;> conv => whnf
  · rw [okState_nil] at h3; cases h3
  · refine ⟨rfl, fin_turnedK rfl ?_⟩
    conv => whnf
    refine ⟨?_, rfl⟩
    unfold fitsF
    rw [h3, Bool.and_false, Bool.and_false]
theorem Fits_nr (tt : TypeId) (c1 : Array Value) (t1 : TypeId) (off1 cap1 : Nat) (bl : List Bd) (hw1 : WinB c1 off1 bl) (hcap1 : bl.length ≤ cap1) (hl1 : bl.length ≤ 1000000000000) (g b tp nr me step : Int) :
    AC Tryd.prog (GM tt) 66 [.agg (confC (.slice none 0 0) g b tp nr me), .agg #[I64 step, (slc 0 off1 bl.length cap1)]] [.pending c1 t1] (fun v h => v = .bool (fitsF ([] : List Int) g b tp nr me step bl) ∧ h = [.pending c1 t1]) := by
  have si : SlI [.pending c1 t1, .cells (confC (.slice none 0 0) g b tp nr me) 39, .cells #[I64 step, (slc 0 off1 bl.length cap1)] 42] (.slice none 0 0) ([] : List Int) := (.inl ⟨rfl, rfl⟩)
  have sb : SlB [.pending c1 t1, .cells (confC (.slice none 0 0) g b tp nr me) 39, .cells #[I64 step, (slc 0 off1 bl.length cap1)] 42] (slc 0 off1 bl.length cap1) bl := (.inr ⟨0, off1, cap1, c1, t1, rfl, .inl rfl, hw1, hcap1⟩)
  refine ac_of_body tabOk has66 ?_
  unfold BodyOk
  conv => whnf
  refine ways (fun h1 => ?_) (fun h1 => ?_) <;> conv => whnf
  rotate_left
  · refine ⟨rfl, fin_turnedK rfl ?_⟩
    conv => whnf
    refine ⟨?_, rfl⟩
    unfold fitsF
    rw [show decide (([] : List Int).length = bl.length) = false from (len_beq _ _).symm.trans h1, Bool.false_and]
  have e1 : decide (([] : List Int).length = bl.length) = true := (len_beq _ _).symm.trans h1
  refine ac_mono (Check_s tt si (by simp) g b tp nr me) ?_
  rintro v h' ⟨rfl, rfl⟩
  conv => whnf
  refine ⟨rfl, fin_turnedK rfl ?_⟩
  conv => whnf
  refine ⟨?_, rfl⟩
  unfold fitsF
  rw [show okConf (([] : List Int).length : Int) [] g b tp nr me = false from rfl, Bool.false_and, Bool.and_false]
theorem RFits_nr (tt : TypeId) (c1 : Array Value) (t1 : TypeId) (off1 cap1 : Nat) (bl : List Bd) (hw1 : WinB c1 off1 bl) (hcap1 : bl.length ≤ cap1) (hl1 : bl.length ≤ 1000000000000) (g b tp nr me step : Int) :
    AC Tryd.prog (GM tt) 37 [.agg (confC (.slice none 0 0) g b tp nr me), .agg #[I64 step, (slc 0 off1 bl.length cap1)]] [.pending c1 t1] (fun v h => v = .bool (fitsF ([] : List Int) g b tp nr me step bl) ∧ h = [.pending c1 t1]) := by
  have si : SlI [.pending c1 t1, .cells (confC (.slice none 0 0) g b tp nr me) 39, .cells #[I64 step, (slc 0 off1 bl.length cap1)] 42] (.slice none 0 0) ([] : List Int) := (.inl ⟨rfl, rfl⟩)
  have sb : SlB [.pending c1 t1, .cells (confC (.slice none 0 0) g b tp nr me) 39, .cells #[I64 step, (slc 0 off1 bl.length cap1)] 42] (slc 0 off1 bl.length cap1) bl := (.inr ⟨0, off1, cap1, c1, t1, rfl, .inl rfl, hw1, hcap1⟩)
  refine ac_of_body tabOk has37 ?_
  unfold BodyOk
  conv => whnf
  refine ac_mono (RCheck_s tt si (by simp) g b tp nr me) ?_
  rintro v h' ⟨rfl, rfl⟩
  conv => whnf
  refine ⟨rfl, fin_turnedK rfl ?_⟩
  conv => whnf
  refine ⟨?_, rfl⟩
  unfold fitsF
  rw [show okConf (([] : List Int).length : Int) [] g b tp nr me = false from rfl, Bool.false_and, Bool.and_false]
theorem Fits_nn (tt : TypeId) (g b tp nr me step : Int) :
    AC Tryd.prog (GM tt) 66 [.agg (confC (.slice none 0 0) g b tp nr me), .agg #[I64 step, (.slice none 0 0)]] [] (fun v h => v = .bool (fitsF ([] : List Int) g b tp nr me step ([] : List Bd)) ∧ h = []) := by
  have si : SlI [.cells (confC (.slice none 0 0) g b tp nr me) 39, .cells #[I64 step, (.slice none 0 0)] 42] (.slice none 0 0) ([] : List Int) := (.inl ⟨rfl, rfl⟩)
  have sb : SlB [.cells (confC (.slice none 0 0) g b tp nr me) 39, .cells #[I64 step, (.slice none 0 0)] 42] (.slice none 0 0) ([] : List Bd) := (.inl ⟨rfl, rfl⟩)
  refine ac_of_body tabOk has66 ?_
  unfold BodyOk
  conv => whnf
  have e1 : decide (([] : List Int).length = ([] : List Bd).length) = true := rfl
  refine ac_mono (Check_s tt si (by simp) g b tp nr me) ?_
  rintro v h' ⟨rfl, rfl⟩
  conv => whnf
  refine ⟨rfl, fin_turnedK rfl ?_⟩
  conv => whnf
  refine ⟨?_, rfl⟩
  unfold fitsF
  rw [show okConf (([] : List Int).length : Int) [] g b tp nr me = false from rfl, Bool.false_and, Bool.and_false]
theorem RFits_nn (tt : TypeId) (g b tp nr me step : Int) :
    AC Tryd.prog (GM tt) 37 [.agg (confC (.slice none 0 0) g b tp nr me), .agg #[I64 step, (.slice none 0 0)]] [] (fun v h => v = .bool (fitsF ([] : List Int) g b tp nr me step ([] : List Bd)) ∧ h = []) := by
  have si : SlI [.cells (confC (.slice none 0 0) g b tp nr me) 39, .cells #[I64 step, (.slice none 0 0)] 42] (.slice none 0 0) ([] : List Int) := (.inl ⟨rfl, rfl⟩)
  have sb : SlB [.cells (confC (.slice none 0 0) g b tp nr me) 39, .cells #[I64 step, (.slice none 0 0)] 42] (.slice none 0 0) ([] : List Bd) := (.inl ⟨rfl, rfl⟩)
  refine ac_of_body tabOk has37 ?_
  unfold BodyOk
  conv => whnf
  refine ac_mono (RCheck_s tt si (by simp) g b tp nr me) ?_
  rintro v h' ⟨rfl, rfl⟩
  conv => whnf
  refine ⟨rfl, fin_turnedK rfl ?_⟩
  conv => whnf
  refine ⟨?_, rfl⟩
  unfold fitsF
  rw [show okConf (([] : List Int).length : Int) [] g b tp nr me = false from rfl, Bool.false_and, Bool.and_false]
theorem Fits_s (tt : TypeId) {h : List Obj} {ms bs : Value} {l : List Int} {bl : List Bd} (hs : SlI h ms l) (hb : SlB h bs bl) (hl : l.length ≤ 1000000000000) (hl1 : bl.length ≤ 1000000000000) (g b tp nr me step : Int) :
    AC Tryd.prog (GM tt) 66 [.agg (confC ms g b tp nr me), .agg #[I64 step, bs]] h (fun v h' => v = .bool (fitsF l g b tp nr me step bl) ∧ h' = h) := by
  rcases hs with ⟨rfl, rfl⟩ | ⟨m, off, cap, c, t, rfl, h2, h4, h5⟩
  · rcases hb with ⟨rfl, rfl⟩ | ⟨m1, off1, cap1, c1, t1, rfl, k2, k4, k5⟩
    · refine ac_readF [] (Fits_nn tt g b tp nr me step) (by simp [r3, r2, r1, r0]) rfl cold_0 ?_
      rintro v h' ⟨rfl, rfl⟩
      exact ⟨rfl, rfl, rfl, rfl⟩
    · refine ac_readF [m1] (Fits_nr tt c1 t1 off1 cap1 bl k4 k5 hl1 g b tp nr me step) (by simp [r3, r2, r1, r0, rA, nu]) rfl (cold_p k2) ?_
      rintro v h' ⟨rfl, rfl⟩
      exact ⟨rfl, rfl, rfl, rfl⟩
  · rcases hb with ⟨rfl, rfl⟩ | ⟨m1, off1, cap1, c1, t1, rfl, k2, k4, k5⟩
    · refine ac_readF [m] (Fits_rn tt c t off cap l h4 h5 hl g b tp nr me step) (by simp [r3, r2, r1, r0, rA, nu]) rfl (cold_p h2) ?_
      rintro v h' ⟨rfl, rfl⟩
      exact ⟨rfl, rfl, rfl, rfl⟩
    · refine ac_readF [m, m1] (Fits_rr tt c t off cap l h4 h5 hl c1 t1 off1 cap1 bl k4 k5 hl1 g b tp nr me step) (by simp [r3, r2, r1, r0, rA, nu]) rfl (cold_2 h2 k2) ?_
      rintro v h' ⟨rfl, rfl⟩
      exact ⟨rfl, rfl, rfl, rfl⟩
theorem RFits_s (tt : TypeId) {h : List Obj} {ms bs : Value} {l : List Int} {bl : List Bd} (hs : SlI h ms l) (hb : SlB h bs bl) (hl : l.length ≤ 1000000000000) (hl1 : bl.length ≤ 1000000000000) (g b tp nr me step : Int) :
    AC Tryd.prog (GM tt) 37 [.agg (confC ms g b tp nr me), .agg #[I64 step, bs]] h (fun v h' => v = .bool (fitsF l g b tp nr me step bl) ∧ h' = h) := by
  rcases hs with ⟨rfl, rfl⟩ | ⟨m, off, cap, c, t, rfl, h2, h4, h5⟩
  · rcases hb with ⟨rfl, rfl⟩ | ⟨m1, off1, cap1, c1, t1, rfl, k2, k4, k5⟩
    · refine ac_readF [] (RFits_nn tt g b tp nr me step) (by simp [r3, r2, r1, r0]) rfl cold_0 ?_
      rintro v h' ⟨rfl, rfl⟩
      exact ⟨rfl, rfl, rfl, rfl⟩
    · refine ac_readF [m1] (RFits_nr tt c1 t1 off1 cap1 bl k4 k5 hl1 g b tp nr me step) (by simp [r3, r2, r1, r0, rA, nu]) rfl (cold_p k2) ?_
      rintro v h' ⟨rfl, rfl⟩
      exact ⟨rfl, rfl, rfl, rfl⟩
  · rcases hb with ⟨rfl, rfl⟩ | ⟨m1, off1, cap1, c1, t1, rfl, k2, k4, k5⟩
    · refine ac_readF [m] (RFits_rn tt c t off cap l h4 h5 hl g b tp nr me step) (by simp [r3, r2, r1, r0, rA, nu]) rfl (cold_p h2) ?_
      rintro v h' ⟨rfl, rfl⟩
      exact ⟨rfl, rfl, rfl, rfl⟩
    · refine ac_readF [m, m1] (RFits_rr tt c t off cap l h4 h5 hl c1 t1 off1 cap1 bl k4 k5 hl1 g b tp nr me step) (by simp [r3, r2, r1, r0, rA, nu]) rfl (cold_2 h2 k2) ?_
      rintro v h' ⟨rfl, rfl⟩
      exact ⟨rfl, rfl, rfl, rfl⟩
abbrev I3 := Int × Int × Int
abbrev A3t (s : I3) : Value := A3 s.1 s.2.1 s.2.2
def ofV (b : Bd) : I3 := (b.x, b.y, b.z)
def ofX (b : Bd) : I3 := (b.a, b.b, b.c)
def ofL (b : Bd) : I3 := (sel (ok6 b.a b.b b.c b.x b.y b.z) (cr b.b b.c b.y b.z), sel (ok6 b.a b.b b.c b.x b.y b.z) (cr b.c b.a b.z b.x), sel (ok6 b.a b.b b.c b.x b.y b.z) (cr b.a b.b b.x b.y))
theorem ofV_c (G) (b : Bd) : AC Tryd.prog G 53 [V6 b] [] (fun v h => v = A3t (ofV b) ∧ h = []) := by
  refine ac_of_body tabOk has53 ?_
  unfold BodyOk
  conv => whnf
  refine ⟨rfl, fin_turnedK rfl ?_⟩
  conv => whnf
  exact ⟨rfl, rfl⟩
theorem ofX_c (G) (b : Bd) : AC Tryd.prog G 58 [V6 b] [] (fun v h => v = A3t (ofX b) ∧ h = []) := by
  refine ac_of_body tabOk has58 ?_
  unfold BodyOk
  conv => whnf
  refine ⟨rfl, fin_turnedK rfl ?_⟩
  conv => whnf
  exact ⟨rfl, rfl⟩
theorem ofL_c (G) (b : Bd) : AC Tryd.prog G 55 [V6 b] [] (fun v h => v = A3t (ofL b) ∧ h = []) := by
  refine ac_of_body tabOk has55 ?_
  unfold BodyOk
  conv => whnf
  refine ac_pure (Cross_c G b.a b.b b.c b.x b.y b.z) rfl ?_
  rintro v h' ⟨rfl, rfl⟩
  refine ⟨rfl, rfl, ?_⟩
  conv => whnf
  refine ⟨rfl, fin_turnedK rfl ?_⟩
  conv => whnf
  exact ⟨rfl, rfl⟩
end Go.Proofs.YtjpjnjidchdlbaaDoor
