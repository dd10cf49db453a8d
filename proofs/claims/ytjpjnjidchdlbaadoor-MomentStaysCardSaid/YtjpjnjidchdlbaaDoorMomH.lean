/-
  moment.sum: what is summed up over masses and bodies (no condition).
-/
import Derived.Test.YtjpjnjidchdlbaaDoorMomG
namespace Go.Proofs.YtjpjnjidchdlbaaDoor
set_option linter.unusedSimpArgs false
set_option linter.unusedVariables false
open Go
set_option maxRecDepth 100000
set_option maxHeartbeats 4000000
theorem has52 : Has Tryd.prog 52 Tryd.f52 := ⟨Tryd.func52, by kernel_rfl, by kernel_rfl⟩
theorem has67 : Has Tryd.prog 67 Tryd.f67 := ⟨Tryd.func67, by kernel_rfl, by kernel_rfl⟩
theorem has77 : Has Tryd.prog 77 Tryd.f77 := ⟨Tryd.func77, by kernel_rfl, by kernel_rfl⟩
theorem aw_stateM {P : Program} {G : List (Nat × Obj)} {ro : Option Nat} {c : Code} {s : St} {K : Exit → St → Prop} (h : ∀ s0, s0 = s → AW P G ro c s0 K) : AW P G ro c s K := h s rfl
def accF (of : Bd → I3) (s : I3) (p : Int × Bd) : I3 :=
  (wrapS .i64 (s.1 + wrapS .i64 (p.1 * (of p.2).1)), wrapS .i64 (s.2.1 + wrapS .i64 (p.1 * (of p.2).2.1)), wrapS .i64 (s.2.2 + wrapS .i64 (p.1 * (of p.2).2.2)))
def sumF (of : Bd → I3) (l : List Int) (bl : List Bd) : I3 := (l.zip bl).foldl (accF of) (0, 0, 0)
theorem sumF_succ (of : Bd → I3) {l : List Int} {bl : List Bd} {i : Nat} {m : Int} {b : Bd} (hm : l[i]? = some m) (hb : bl[i]? = some b) : sumF of (l.take (i + 1)) (bl.take (i + 1)) = accF of (sumF of (l.take i) (bl.take i)) (m, b) := by
  have h1 : i < l.length := (List.getElem?_eq_some_iff.1 hm).1
  have h2 : i < bl.length := (List.getElem?_eq_some_iff.1 hb).1
  have e1 : l[i] = m := (List.getElem?_eq_some_iff.1 hm).2
  have e2 : bl[i] = b := (List.getElem?_eq_some_iff.1 hb).2
  unfold sumF
  rw [List.take_succ_eq_append_getElem h1, List.take_succ_eq_append_getElem h2, List.zip_append (by simp; omega), List.foldl_append, e1, e2]
  rfl
theorem fits_nil1 (g b tp nr me step : Int) (bl : List Bd) : fitsF [] g b tp nr me step bl = false := by
  unfold fitsF
  rw [show okConf (([] : List Int).length : Int) [] g b tp nr me = false from rfl, Bool.false_and, Bool.and_false]
theorem fits_nil2 (l : List Int) (g b tp nr me step : Int) : fitsF l g b tp nr me step [] = false := by
  unfold fitsF
  rw [okState_nil, Bool.and_false, Bool.and_false]
/-- what a sum hands back -/
def sumV (ok : Bool) (s : I3) : Value := match ok with
  | true => .tuple #[A3t s, I64 0]
  | false => .tuple #[A3 0 0 0, I64 2]
theorem sum_rr (tt : TypeId) (c0 : Array Value) (t0 : TypeId) (off cap : Nat) (l : List Int) (hw : WinI c0 off l) (hcap : l.length ≤ cap) (hl : l.length ≤ 1000000000000) (c1 : Array Value) (t1 : TypeId) (off1 cap1 : Nat) (bl : List Bd) (hw1 : WinB c1 off1 bl) (hcap1 : bl.length ≤ cap1) (hl1 : bl.length ≤ 1000000000000) (g b tp nr me step : Int) (kf : Nat) (of : Bd → I3) (hof : ∀ b, AC Tryd.prog (GM tt) kf [V6 b] [] (fun v h => v = A3t (of b) ∧ h = [])) :
    AC Tryd.prog (GM tt) 52 [.agg (confC (slc 0 off l.length cap) g b tp nr me), .agg #[I64 step, (slc 1 off1 bl.length cap1)], .func (.func kf) #[] #[]] [.pending c0 t0, .pending c1 t1] (fun v h => v = sumV (fitsF l g b tp nr me step bl) (sumF of l bl) ∧ h = [.pending c0 t0, .pending c1 t1]) := by
  have si : SlI [.pending c0 t0, .pending c1 t1, .cells (confC (slc 0 off l.length cap) g b tp nr me) 39, .cells #[I64 step, (slc 1 off1 bl.length cap1)] 42, .cells #[.func (.func kf) #[] #[]] 74, .cells #[I64 0, I64 0, I64 0] 43] (slc 0 off l.length cap) l := (.inr ⟨0, off, cap, c0, t0, rfl, .inl rfl, hw, hcap⟩)
  have sb : SlB [.pending c0 t0, .pending c1 t1, .cells (confC (slc 0 off l.length cap) g b tp nr me) 39, .cells #[I64 step, (slc 1 off1 bl.length cap1)] 42, .cells #[.func (.func kf) #[] #[]] 74, .cells #[I64 0, I64 0, I64 0] 43] (slc 1 off1 bl.length cap1) bl := (.inr ⟨1, off1, cap1, c1, t1, rfl, .inl rfl, hw1, hcap1⟩)
  refine ac_of_body tabOk has52 ?_
  unfold BodyOk
  conv => whnf
  refine ac_mono (Fits_s tt si sb hl hl1 g b tp nr me step) ?_
  rintro v h' ⟨rfl, rfl⟩
  conv => whnf
  refine ways (fun h1 => ?_) (fun h1 => ?_) <;> conv => whnf
  · refine ⟨rfl, fin_turnedK rfl ?_⟩
    conv => whnf
    rw [notF h1]
    exact ⟨rfl, rfl⟩
  have hfit := notT h1
  have hlen : l.length = bl.length := by
    unfold fitsF at hfit
    simp only [Bool.and_eq_true, decide_eq_true_eq] at hfit
    exact hfit.1
  rw [hfit]
  refine ac_of_body tabOk has67 ?_
  unfold BodyOk
  conv => whnf
  refine ⟨rfl, fin_all [_, _, _, _, _, _] [_, _] rfl rfl rfl rfl rfl ?_⟩
  conv => whnf
  refine aw_rangeK tabOk ?_
  conv => whnf
  intro ln fn
  refine ac_of_body tabOk has77 ?_
  unfold BodyOk
  conv => whnf
  refine aw_stateM fun s0 hs0 => ?_
  refine aw_invT tabOk [[true, true, true, false, false, false, false, true, true, true, false, false, false, false, false, false], [false, false, false, false, false, false, false, false]] (fun m s' => ∃ (i : Nat) (s : I3), m = l.length - i ∧ i ≤ l.length ∧ sumF of (l.take i) (bl.take i) = s ∧
    s' = ⟨[[.func (.yield ln) #[] #[], ptr 6 0, ptr 7 0, .chan none, .chan none, .chan none, .chan none, (slc 0 off l.length cap), I64 (l.length : Int), I64 (i : Int), .chan none, .chan none, .chan none, .chan none, .chan none, .chan none],
      [.chan none, .chan none, .chan none, .chan none, .chan none, .chan none, .chan none, .chan none]],
      s0.h.set 5 (.cells #[I64 s.1, I64 s.2.1, I64 s.2.2] 43), s0.d⟩) l.length ?_ ⟨0, (0, 0, 0), rfl, Nat.zero_le _, rfl, ?_⟩
  rotate_left
  · subst hs0
    rfl
  rintro m s' ⟨i, s, rfl, hi, hs, rfl⟩
  subst hs0
  conv => whnf
  refine ways (fun h2 => ?_) (fun h2 => ?_) <;> conv => whnf
  · have hlt : i < l.length := by have := of_decide_eq_true h2; omega
    obtain ⟨x, hx⟩ : ∃ x, l[i]? = some x := ⟨_, List.getElem?_eq_getElem hlt⟩
    obtain ⟨y, hy⟩ : ∃ y, bl[i]? = some y := ⟨_, List.getElem?_eq_getElem (by omega)⟩
    refine way1 (by rw [decide_eq_true_iff]; omega) ?_
    conv => whnf
    refine nthK_of (l := c0.toList) (hw.at hx) ?_
    conv => whnf
    refine way1 (by rw [decide_eq_true_iff]; omega) ?_
    conv => whnf
    refine hw1.body hy ?_
    conv => whnf
    refine ao_yieldK 9 3 rfl rfl (by conv => whnf) ?_
    conv => whnf
    repeat' first
      | (refine run_ok tabOk _ _ _ ?_; conv => whnf)
      | (refine And.intro rfl (And.intro rfl ?_); conv => whnf)
      | (refine And.intro rfl ?_; conv => whnf)
    refine ac_pure (hof y) rfl ?_
    rintro v h' ⟨rfl, rfl⟩
    refine ⟨rfl, rfl, ?_⟩
    conv => whnf
    refine aw_rounds tabOk 4 ?_
    conv => whnf
    repeat' first
      | (refine run_ok tabOk _ _ _ ?_; conv => whnf)
      | (refine And.intro rfl (And.intro rfl ?_); conv => whnf)
      | (refine And.intro rfl ?_; conv => whnf)
    rw [show wrapS .i64 ((i : Int) + 1) = ((i + 1 : Nat) : Int) by rw [wrapI (by omega) (by omega)]; omega]
    exact ⟨l.length - (i + 1), by omega, i + 1, accF of s (x, y), rfl, by omega, by rw [sumF_succ of hx hy, hs], rfl⟩
  · have hin : i = l.length := by have := of_decide_eq_false h2; omega
    subst hin
    rw [List.take_length, hlen, List.take_length] at hs
    subst hs
    refine And.intro rfl (fin_turnedK rfl ?_)
    conv => whnf
    repeat' first
      | (refine And.intro (Eq.refl true) ?_)
      | (refine And.intro rfl (And.intro (fun h => by cases h) ?_); conv => whnf)
      | (refine And.intro rfl (And.intro rfl ?_); conv => whnf)
      | (refine And.intro rfl ?_; conv => whnf)
    all_goals (refine fin_turnedK rfl ?_; conv => whnf)
    exact ⟨rfl, rfl⟩
theorem sum_rn (tt : TypeId) (c0 : Array Value) (t0 : TypeId) (off cap : Nat) (l : List Int) (hw : WinI c0 off l) (hcap : l.length ≤ cap) (hl : l.length ≤ 1000000000000) (g b tp nr me step : Int) (kf : Nat) (of : Bd → I3) (hof : ∀ b, AC Tryd.prog (GM tt) kf [V6 b] [] (fun v h => v = A3t (of b) ∧ h = [])) :
    AC Tryd.prog (GM tt) 52 [.agg (confC (slc 0 off l.length cap) g b tp nr me), .agg #[I64 step, (.slice none 0 0)], .func (.func kf) #[] #[]] [.pending c0 t0] (fun v h => v = sumV (fitsF l g b tp nr me step ([] : List Bd)) (sumF of l ([] : List Bd)) ∧ h = [.pending c0 t0]) := by
  have si : SlI [.pending c0 t0, .cells (confC (slc 0 off l.length cap) g b tp nr me) 39, .cells #[I64 step, (.slice none 0 0)] 42, .cells #[.func (.func kf) #[] #[]] 74, .cells #[I64 0, I64 0, I64 0] 43] (slc 0 off l.length cap) l := (.inr ⟨0, off, cap, c0, t0, rfl, .inl rfl, hw, hcap⟩)
  have sb : SlB [.pending c0 t0, .cells (confC (slc 0 off l.length cap) g b tp nr me) 39, .cells #[I64 step, (.slice none 0 0)] 42, .cells #[.func (.func kf) #[] #[]] 74, .cells #[I64 0, I64 0, I64 0] 43] (.slice none 0 0) ([] : List Bd) := (.inl ⟨rfl, rfl⟩)
  refine ac_of_body tabOk has52 ?_
  unfold BodyOk
  conv => whnf
  refine ac_mono (Fits_s tt si sb hl (by simp) g b tp nr me step) ?_
  rintro v h' ⟨rfl, rfl⟩
  conv => whnf
  rw [fits_nil2]
  conv => whnf
  refine ⟨rfl, fin_turnedK rfl ?_⟩
  conv => whnf
  exact ⟨rfl, rfl⟩
theorem sum_nr (tt : TypeId) (c1 : Array Value) (t1 : TypeId) (off1 cap1 : Nat) (bl : List Bd) (hw1 : WinB c1 off1 bl) (hcap1 : bl.length ≤ cap1) (hl1 : bl.length ≤ 1000000000000) (g b tp nr me step : Int) (kf : Nat) (of : Bd → I3) (hof : ∀ b, AC Tryd.prog (GM tt) kf [V6 b] [] (fun v h => v = A3t (of b) ∧ h = [])) :
    AC Tryd.prog (GM tt) 52 [.agg (confC (.slice none 0 0) g b tp nr me), .agg #[I64 step, (slc 0 off1 bl.length cap1)], .func (.func kf) #[] #[]] [.pending c1 t1] (fun v h => v = sumV (fitsF ([] : List Int) g b tp nr me step bl) (sumF of ([] : List Int) bl) ∧ h = [.pending c1 t1]) := by
  have si : SlI [.pending c1 t1, .cells (confC (.slice none 0 0) g b tp nr me) 39, .cells #[I64 step, (slc 0 off1 bl.length cap1)] 42, .cells #[.func (.func kf) #[] #[]] 74, .cells #[I64 0, I64 0, I64 0] 43] (.slice none 0 0) ([] : List Int) := (.inl ⟨rfl, rfl⟩)
  have sb : SlB [.pending c1 t1, .cells (confC (.slice none 0 0) g b tp nr me) 39, .cells #[I64 step, (slc 0 off1 bl.length cap1)] 42, .cells #[.func (.func kf) #[] #[]] 74, .cells #[I64 0, I64 0, I64 0] 43] (slc 0 off1 bl.length cap1) bl := (.inr ⟨0, off1, cap1, c1, t1, rfl, .inl rfl, hw1, hcap1⟩)
  refine ac_of_body tabOk has52 ?_
  unfold BodyOk
  conv => whnf
  refine ac_mono (Fits_s tt si sb (by simp) hl1 g b tp nr me step) ?_
  rintro v h' ⟨rfl, rfl⟩
  conv => whnf
  rw [fits_nil1]
  conv => whnf
  refine ⟨rfl, fin_turnedK rfl ?_⟩
  conv => whnf
  exact ⟨rfl, rfl⟩
theorem sum_nn (tt : TypeId) (g b tp nr me step : Int) (kf : Nat) (of : Bd → I3) (hof : ∀ b, AC Tryd.prog (GM tt) kf [V6 b] [] (fun v h => v = A3t (of b) ∧ h = [])) :
    AC Tryd.prog (GM tt) 52 [.agg (confC (.slice none 0 0) g b tp nr me), .agg #[I64 step, (.slice none 0 0)], .func (.func kf) #[] #[]] [] (fun v h => v = sumV (fitsF ([] : List Int) g b tp nr me step ([] : List Bd)) (sumF of ([] : List Int) ([] : List Bd)) ∧ h = []) := by
  have si : SlI [.cells (confC (.slice none 0 0) g b tp nr me) 39, .cells #[I64 step, (.slice none 0 0)] 42, .cells #[.func (.func kf) #[] #[]] 74, .cells #[I64 0, I64 0, I64 0] 43] (.slice none 0 0) ([] : List Int) := (.inl ⟨rfl, rfl⟩)
  have sb : SlB [.cells (confC (.slice none 0 0) g b tp nr me) 39, .cells #[I64 step, (.slice none 0 0)] 42, .cells #[.func (.func kf) #[] #[]] 74, .cells #[I64 0, I64 0, I64 0] 43] (.slice none 0 0) ([] : List Bd) := (.inl ⟨rfl, rfl⟩)
  refine ac_of_body tabOk has52 ?_
  unfold BodyOk
  conv => whnf
  refine ac_mono (Fits_s tt si sb (by simp) (by simp) g b tp nr me step) ?_
  rintro v h' ⟨rfl, rfl⟩
  conv => whnf
  rw [fits_nil1]
  conv => whnf
  refine ⟨rfl, fin_turnedK rfl ?_⟩
  conv => whnf
  exact ⟨rfl, rfl⟩
end Go.Proofs.YtjpjnjidchdlbaaDoor
