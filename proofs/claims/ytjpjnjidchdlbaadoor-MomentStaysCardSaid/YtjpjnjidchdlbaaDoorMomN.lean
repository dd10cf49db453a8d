/-
  The reference's P, L, Mid (no condition).
-/
import Derived.Test.YtjpjnjidchdlbaaDoorMomI
namespace Go.Proofs.YtjpjnjidchdlbaaDoor
set_option linter.unusedSimpArgs false
set_option linter.unusedVariables false
open Go
set_option maxRecDepth 100000
set_option maxHeartbeats 4000000
theorem has28 : Has Tryd.prog 28 Tryd.f28 := ⟨Tryd.func28, by kernel_rfl, by kernel_rfl⟩
theorem has30 : Has Tryd.prog 30 Tryd.f30 := ⟨Tryd.func30, by kernel_rfl, by kernel_rfl⟩
theorem has32 : Has Tryd.prog 32 Tryd.f32 := ⟨Tryd.func32, by kernel_rfl, by kernel_rfl⟩
theorem has25 : Has Tryd.prog 25 Tryd.f25 := ⟨Tryd.func25, by kernel_rfl, by kernel_rfl⟩
theorem WinB.part {c : Array Value} {off : Nat} {l : List Bd} (h : WinB c off l) {k : Nat} {b : Bd} (hb : l[k]? = some b) {q : Nat} (hq : q + 3 ≤ 6) {K : List Value → Prop} (hk : K ((b.cells.drop q).take 3)) :
    dropK c.toList (off + Int.toNat (k : Int) * 6 + q) fun r => takeK r 3 K := by
  have e : ∀ i, i < 3 → (c.toList.drop (off + Int.toNat (k : Int) * 6 + q))[i]? = b.cells[q + i]? := by
    intro i hi
    rw [List.getElem?_drop]
    obtain ⟨v, hv⟩ : ∃ v, b.cells[q + i]? = some v := ⟨_, List.getElem?_eq_getElem (show q + i < 6 by omega)⟩
    rw [hv, Nat.add_assoc]
    exact h.at hb hv
  have hlen : off + Int.toNat (k : Int) * 6 + q + 2 < c.toList.length := by
    obtain ⟨v, hv⟩ : ∃ v, b.cells[q + 2]? = some v := ⟨_, List.getElem?_eq_getElem (show q + 2 < 6 by omega)⟩
    have := (List.getElem?_eq_some_iff.1 (h.at hb hv)).1
    omega
  have ht : (c.toList.drop (off + Int.toNat (k : Int) * 6 + q)).take 3 = (b.cells.drop q).take 3 := by
    apply List.ext_getElem?
    intro i
    by_cases hi : i < 3
    · rw [List.getElem?_take, if_pos hi, e i hi, List.getElem?_take, if_pos hi, List.getElem?_drop]
    · rw [List.getElem?_eq_none (by simp; omega), List.getElem?_eq_none (by simp; omega)]
  rw [dropK_iff]
  refine ⟨by omega, ?_⟩
  rw [takeK_iff]
  refine ⟨by rw [List.length_drop]; omega, ?_⟩
  rw [ht]
  exact hk
theorem plus_q (G) {h0 : List Obj} {s : St} {d : Option Nat} {K : St → Prop} (a b c n x y z : Int) (hk : putK s d (A3 (wrapS .i64 (a + wrapS .i64 (n * x))) (wrapS .i64 (b + wrapS .i64 (n * y))) (wrapS .i64 (c + wrapS .i64 (n * z)))) K) :
    Quiet Tryd.prog G h0 54 [A3 a b c, I64 n, A3 x y z] fun v => putK s d v K := by
  refine quiet_of (plus_c G a b c n x y z) rfl ?_
  rintro v h' ⟨rfl, rfl⟩
  exact ⟨rfl, rfl, hk⟩
theorem RCross_q (G) {h0 : List Obj} {s : St} {d : Option Nat} {K : St → Prop} (a b c x y z : Int) (hk : putK s d (.tuple #[V3 (sel (ok6 a b c x y z) (cr b c y z)) (sel (ok6 a b c x y z) (cr c a z x)) (sel (ok6 a b c x y z) (cr a b x y)), I64 (err (ok6 a b c x y z))]) K) :
    Quiet Tryd.prog G h0 57 [V3 a b c, V3 x y z] fun v => putK s d v K := by
  refine quiet_of (RCross_c G a b c x y z) rfl ?_
  rintro v h' ⟨rfl, rfl⟩
  exact ⟨rfl, rfl, hk⟩
theorem GreatS_r (G) (step : Int) (c0 : Array Value) (t0 : TypeId) (off cap l : Nat) : AC Tryd.prog G 25 [.agg #[I64 step, slc 0 off l cap]] [.pending c0 t0] (fun v h => v = .bool (decide ((l : Int) > 20)) ∧ h = [.pending c0 t0]) := by
  refine ac_of_body tabOk has25 ?_
  unfold BodyOk
  conv => whnf
  refine ⟨rfl, fin_turnedK rfl ?_⟩
  conv => whnf
  exact ⟨rfl, rfl⟩
theorem GreatS_n (G) (step : Int) : AC Tryd.prog G 25 [.agg #[I64 step, .slice none 0 0]] [] (fun v h => v = .bool (decide ((0 : Int) > 20)) ∧ h = []) := by
  refine ac_of_body tabOk has25 ?_
  unfold BodyOk
  conv => whnf
  refine ⟨rfl, fin_turnedK rfl ?_⟩
  conv => whnf
  exact ⟨rfl, rfl⟩
theorem RP_rr (tt : TypeId) (c0 : Array Value) (t0 : TypeId) (off cap : Nat) (l : List Int) (hw : WinI c0 off l) (hcap : l.length ≤ cap) (hl : l.length ≤ 1000000000000) (c1 : Array Value) (t1 : TypeId) (off1 cap1 : Nat) (bl : List Bd) (hw1 : WinB c1 off1 bl) (hcap1 : bl.length ≤ cap1) (hl1 : bl.length ≤ 1000000000000) (g b tp nr me step : Int) :
    AC Tryd.prog (GM tt) 28 [.agg (confC (slc 0 off l.length cap) g b tp nr me), .agg #[I64 step, (slc 1 off1 bl.length cap1)]] [.pending c0 t0, .pending c1 t1] (fun v h => v = sumV (fitsF l g b tp nr me step bl) (sumF ofV l bl) ∧ h = [.pending c0 t0, .pending c1 t1]) := by
  have si : SlI [.pending c0 t0, .pending c1 t1, .cells (confC (slc 0 off l.length cap) g b tp nr me) 39, .cells #[I64 step, (slc 1 off1 bl.length cap1)] 42, .cells #[I64 0, I64 0, I64 0] 43, .cells #[I64 0, I64 0, I64 0] 43] (slc 0 off l.length cap) l := (.inr ⟨0, off, cap, c0, t0, rfl, .inl rfl, hw, hcap⟩)
  have sb : SlB [.pending c0 t0, .pending c1 t1, .cells (confC (slc 0 off l.length cap) g b tp nr me) 39, .cells #[I64 step, (slc 1 off1 bl.length cap1)] 42, .cells #[I64 0, I64 0, I64 0] 43, .cells #[I64 0, I64 0, I64 0] 43] (slc 1 off1 bl.length cap1) bl := (.inr ⟨1, off1, cap1, c1, t1, rfl, .inl rfl, hw1, hcap1⟩)
  refine ac_of_body tabOk has28 ?_
  unfold BodyOk
  conv => whnf
  refine ac_mono (RFits_s tt si sb hl hl1 g b tp nr me step) ?_
  rintro v h' ⟨rfl, rfl⟩
  conv => whnf
  refine ways (fun h1 => ?_) (fun h1 => ?_) <;> conv => whnf
  · refine ⟨rfl, fin_turnedK rfl ?_⟩
    conv => whnf
    rw [notF h1]
    exact ⟨rfl, rfl⟩
  have hfit := notT h1
  have hlen : l.length = bl.length := by
    unfold fitsF at hfit
    simp only [Bool.and_eq_true, decide_eq_true_eq] at hfit
    exact hfit.1
  rw [hfit]
  refine aw_inv tabOk [[false, false, true, true, true, false, true, true, false, false, false, false, false, false, false, false], [false, false, false, false, false, false, false, false, false, false, false, false, false, false, false, false], [false, false]] (fun m s' => ∃ (i : Nat) (s : I3), m = bl.length - i ∧ i ≤ bl.length ∧ sumF ofV (l.take i) (bl.take i) = s ∧
    s' = ⟨[[.chan none, .chan none, ptr 2 0, ptr 3 0, ptr 4 0, .chan none, ptr 5 0, I64 (i : Int), .chan none, .chan none, .chan none, .chan none, .chan none, .chan none, .chan none, .chan none],
      [.chan none, .chan none, .chan none, .chan none, .chan none, .chan none, .chan none, .chan none, .chan none, .chan none, .chan none, .chan none, .chan none, .chan none, .chan none, .chan none],
      [.chan none, .chan none]],
      [.pending c0 t0, .pending c1 t1, .cells (confC (slc 0 off l.length cap) g b tp nr me) 39, .cells #[I64 step, (slc 1 off1 bl.length cap1)] 42, .cells #[I64 0, I64 0, I64 0] 43, .cells #[I64 s.1, I64 s.2.1, I64 s.2.2] 43], []⟩) bl.length ?_ ⟨0, (0, 0, 0), rfl, Nat.zero_le _, rfl, rfl⟩
  rintro m s' ⟨i, s, rfl, hi, hs, rfl⟩
  conv => whnf
  refine ways (fun h2 => ?_) (fun h2 => ?_) <;> conv => whnf
  · have hlt : i < bl.length := by have := of_decide_eq_true h2; omega
    obtain ⟨x, hx⟩ : ∃ x, l[i]? = some x := ⟨_, List.getElem?_eq_getElem (by omega)⟩
    obtain ⟨y, hy⟩ : ∃ y, bl[i]? = some y := ⟨_, List.getElem?_eq_getElem hlt⟩
    have hil : decide (0 ≤ (i : Int) ∧ (i : Int) < ((l.length : Nat) : Int)) = true := by rw [decide_eq_true_iff]; omega
    have hib : decide (0 ≤ (i : Int) ∧ (i : Int) < ((bl.length : Nat) : Int)) = true := by rw [decide_eq_true_iff]; omega
    refine ad_of tabOk (by kernel_rfl) [(0, false), (1, false), (2, false), (3, false), (4, false), (5, false), (6, false), (7, false), (8, false), (9, false), (10, false), (11, false), (12, false), (13, true)] (by kernel_rfl) ?_
    conv => whnf
    refine way1 hil ?_
    conv => whnf
    refine nthK_of (l := c0.toList) (hw.at hx) ?_
    conv => whnf
    refine way1 hib ?_
    conv => whnf
    refine hw1.part hy (q := 3) (by decide) ?_
    conv => whnf
    refine plus_q (GM tt) s.1 s.2.1 s.2.2 x y.x y.y y.z ?_
    conv => whnf
    rw [show wrapS .i64 ((i : Int) + 1) = ((i + 1 : Nat) : Int) by rw [wrapI (by omega) (by omega)]; omega]
    exact ⟨bl.length - (i + 1), by omega, i + 1, accF ofV s (x, y), rfl, by omega, by rw [sumF_succ ofV hx hy, hs], rfl⟩
  · have hin : i = bl.length := by have := of_decide_eq_false h2; omega
    subst hin
    rw [List.take_length, ← hlen, List.take_length] at hs
    subst hs
    refine ⟨rfl, fin_turnedK rfl ?_⟩
    conv => whnf
    exact ⟨rfl, rfl⟩
theorem RP_rn (tt : TypeId) (c0 : Array Value) (t0 : TypeId) (off cap : Nat) (l : List Int) (hw : WinI c0 off l) (hcap : l.length ≤ cap) (hl : l.length ≤ 1000000000000) (g b tp nr me step : Int) :
    AC Tryd.prog (GM tt) 28 [.agg (confC (slc 0 off l.length cap) g b tp nr me), .agg #[I64 step, (.slice none 0 0)]] [.pending c0 t0] (fun v h => v = sumV (fitsF l g b tp nr me step ([] : List Bd)) (sumF ofV l ([] : List Bd)) ∧ h = [.pending c0 t0]) := by
  have si : SlI [.pending c0 t0, .cells (confC (slc 0 off l.length cap) g b tp nr me) 39, .cells #[I64 step, (.slice none 0 0)] 42, .cells #[I64 0, I64 0, I64 0] 43, .cells #[I64 0, I64 0, I64 0] 43] (slc 0 off l.length cap) l := (.inr ⟨0, off, cap, c0, t0, rfl, .inl rfl, hw, hcap⟩)
  have sb : SlB [.pending c0 t0, .cells (confC (slc 0 off l.length cap) g b tp nr me) 39, .cells #[I64 step, (.slice none 0 0)] 42, .cells #[I64 0, I64 0, I64 0] 43, .cells #[I64 0, I64 0, I64 0] 43] (.slice none 0 0) ([] : List Bd) := (.inl ⟨rfl, rfl⟩)
  refine ac_of_body tabOk has28 ?_
  unfold BodyOk
  conv => whnf
  refine ac_mono (RFits_s tt si sb hl (by simp) g b tp nr me step) ?_
  rintro v h' ⟨rfl, rfl⟩
  conv => whnf
  rw [fits_nil2]
  conv => whnf
  refine ⟨rfl, fin_turnedK rfl ?_⟩
  conv => whnf
  exact ⟨rfl, rfl⟩
theorem RP_nr (tt : TypeId) (c1 : Array Value) (t1 : TypeId) (off1 cap1 : Nat) (bl : List Bd) (hw1 : WinB c1 off1 bl) (hcap1 : bl.length ≤ cap1) (hl1 : bl.length ≤ 1000000000000) (g b tp nr me step : Int) :
    AC Tryd.prog (GM tt) 28 [.agg (confC (.slice none 0 0) g b tp nr me), .agg #[I64 step, (slc 0 off1 bl.length cap1)]] [.pending c1 t1] (fun v h => v = sumV (fitsF ([] : List Int) g b tp nr me step bl) (sumF ofV ([] : List Int) bl) ∧ h = [.pending c1 t1]) := by
  have si : SlI [.pending c1 t1, .cells (confC (.slice none 0 0) g b tp nr me) 39, .cells #[I64 step, (slc 0 off1 bl.length cap1)] 42, .cells #[I64 0, I64 0, I64 0] 43, .cells #[I64 0, I64 0, I64 0] 43] (.slice none 0 0) ([] : List Int) := (.inl ⟨rfl, rfl⟩)
  have sb : SlB [.pending c1 t1, .cells (confC (.slice none 0 0) g b tp nr me) 39, .cells #[I64 step, (slc 0 off1 bl.length cap1)] 42, .cells #[I64 0, I64 0, I64 0] 43, .cells #[I64 0, I64 0, I64 0] 43] (slc 0 off1 bl.length cap1) bl := (.inr ⟨0, off1, cap1, c1, t1, rfl, .inl rfl, hw1, hcap1⟩)
  refine ac_of_body tabOk has28 ?_
  unfold BodyOk
  conv => whnf
  refine ac_mono (RFits_s tt si sb (by simp) hl1 g b tp nr me step) ?_
  rintro v h' ⟨rfl, rfl⟩
  conv => whnf
  rw [fits_nil1]
  conv => whnf
  refine ⟨rfl, fin_turnedK rfl ?_⟩
  conv => whnf
  exact ⟨rfl, rfl⟩
theorem RP_nn (tt : TypeId) (g b tp nr me step : Int) :
    AC Tryd.prog (GM tt) 28 [.agg (confC (.slice none 0 0) g b tp nr me), .agg #[I64 step, (.slice none 0 0)]] [] (fun v h => v = sumV (fitsF ([] : List Int) g b tp nr me step ([] : List Bd)) (sumF ofV ([] : List Int) ([] : List Bd)) ∧ h = []) := by
  have si : SlI [.cells (confC (.slice none 0 0) g b tp nr me) 39, .cells #[I64 step, (.slice none 0 0)] 42, .cells #[I64 0, I64 0, I64 0] 43, .cells #[I64 0, I64 0, I64 0] 43] (.slice none 0 0) ([] : List Int) := (.inl ⟨rfl, rfl⟩)
  have sb : SlB [.cells (confC (.slice none 0 0) g b tp nr me) 39, .cells #[I64 step, (.slice none 0 0)] 42, .cells #[I64 0, I64 0, I64 0] 43, .cells #[I64 0, I64 0, I64 0] 43] (.slice none 0 0) ([] : List Bd) := (.inl ⟨rfl, rfl⟩)
  refine ac_of_body tabOk has28 ?_
  unfold BodyOk
  conv => whnf
  refine ac_mono (RFits_s tt si sb (by simp) (by simp) g b tp nr me step) ?_
  rintro v h' ⟨rfl, rfl⟩
  conv => whnf
  rw [fits_nil1]
  conv => whnf
  refine ⟨rfl, fin_turnedK rfl ?_⟩
  conv => whnf
  exact ⟨rfl, rfl⟩
theorem RP_s (tt : TypeId) {h : List Obj} {ms bs : Value} {l : List Int} {bl : List Bd} (hs : SlI h ms l) (hb : SlB h bs bl) (hl : l.length ≤ 1000000000000) (hl1 : bl.length ≤ 1000000000000) (g b tp nr me step : Int) :
    AC Tryd.prog (GM tt) 28 [.agg (confC ms g b tp nr me), .agg #[I64 step, bs]] h (fun v h' => v = sumV (fitsF l g b tp nr me step bl) (sumF ofV l bl) ∧ h' = h) := by
  have hcl : closedV (sumV (fitsF l g b tp nr me step bl) (sumF ofV l bl)) = true := by cases fitsF l g b tp nr me step bl <;> rfl
  rcases hs with ⟨rfl, rfl⟩ | ⟨m, off, cap, c, t, rfl, h2, h4, h5⟩
  · rcases hb with ⟨rfl, rfl⟩ | ⟨m1, off1, cap1, c1, t1, rfl, k2, k4, k5⟩
    · refine ac_readF [] (RP_nn tt g b tp nr me step) (by simp [r3, r2, r1, r0]) rfl cold_0 ?_
      rintro v h' ⟨rfl, rfl⟩
      exact ⟨hcl, rfl, rfl, rfl⟩
    · refine ac_readF [m1] (RP_nr tt c1 t1 off1 cap1 bl k4 k5 hl1 g b tp nr me step) (by simp [r3, r2, r1, r0, rA, nu]) rfl (cold_p k2) ?_
      rintro v h' ⟨rfl, rfl⟩
      exact ⟨hcl, rfl, rfl, rfl⟩
  · rcases hb with ⟨rfl, rfl⟩ | ⟨m1, off1, cap1, c1, t1, rfl, k2, k4, k5⟩
    · refine ac_readF [m] (RP_rn tt c t off cap l h4 h5 hl g b tp nr me step) (by simp [r3, r2, r1, r0, rA, nu]) rfl (cold_p h2) ?_
      rintro v h' ⟨rfl, rfl⟩
      exact ⟨hcl, rfl, rfl, rfl⟩
    · refine ac_readF [m, m1] (RP_rr tt c t off cap l h4 h5 hl c1 t1 off1 cap1 bl k4 k5 hl1 g b tp nr me step) (by simp [r3, r2, r1, r0, rA, nu]) rfl (cold_2 h2 k2) ?_
      rintro v h' ⟨rfl, rfl⟩
      exact ⟨hcl, rfl, rfl, rfl⟩
theorem RL_rr (tt : TypeId) (c0 : Array Value) (t0 : TypeId) (off cap : Nat) (l : List Int) (hw : WinI c0 off l) (hcap : l.length ≤ cap) (hl : l.length ≤ 1000000000000) (c1 : Array Value) (t1 : TypeId) (off1 cap1 : Nat) (bl : List Bd) (hw1 : WinB c1 off1 bl) (hcap1 : bl.length ≤ cap1) (hl1 : bl.length ≤ 1000000000000) (g b tp nr me step : Int) :
    AC Tryd.prog (GM tt) 30 [.agg (confC (slc 0 off l.length cap) g b tp nr me), .agg #[I64 step, (slc 1 off1 bl.length cap1)]] [.pending c0 t0, .pending c1 t1] (fun v h => v = sumV (fitsF l g b tp nr me step bl) (sumF ofL l bl) ∧ h = [.pending c0 t0, .pending c1 t1]) := by
  have si : SlI [.pending c0 t0, .pending c1 t1, .cells (confC (slc 0 off l.length cap) g b tp nr me) 39, .cells #[I64 step, (slc 1 off1 bl.length cap1)] 42, .cells #[I64 0, I64 0, I64 0] 43, .cells #[I64 0, I64 0, I64 0] 43] (slc 0 off l.length cap) l := (.inr ⟨0, off, cap, c0, t0, rfl, .inl rfl, hw, hcap⟩)
  have sb : SlB [.pending c0 t0, .pending c1 t1, .cells (confC (slc 0 off l.length cap) g b tp nr me) 39, .cells #[I64 step, (slc 1 off1 bl.length cap1)] 42, .cells #[I64 0, I64 0, I64 0] 43, .cells #[I64 0, I64 0, I64 0] 43] (slc 1 off1 bl.length cap1) bl := (.inr ⟨1, off1, cap1, c1, t1, rfl, .inl rfl, hw1, hcap1⟩)
  refine ac_of_body tabOk has30 ?_
  unfold BodyOk
  conv => whnf
  refine ac_mono (RFits_s tt si sb hl hl1 g b tp nr me step) ?_
  rintro v h' ⟨rfl, rfl⟩
  conv => whnf
  refine ways (fun h1 => ?_) (fun h1 => ?_) <;> conv => whnf
  · refine ⟨rfl, fin_turnedK rfl ?_⟩
    conv => whnf
    rw [notF h1]
    exact ⟨rfl, rfl⟩
  have hfit := notT h1
  have hlen : l.length = bl.length := by
    unfold fitsF at hfit
    simp only [Bool.and_eq_true, decide_eq_true_eq] at hfit
    exact hfit.1
  rw [hfit]
  refine aw_invT tabOk [[false, false, true, true, true, false, true, true, false, false, false, false, false, false, false, false], [false, false, false, false, false, false, false, false, false, false, false, false, false, false, false, false], [false, false, false, false, false, false, false, false, false, false, false, false, false, false, false]] (fun m s' => ∃ (i : Nat) (s : I3), m = bl.length - i ∧ i ≤ bl.length ∧ sumF ofL (l.take i) (bl.take i) = s ∧
    s' = ⟨[[.chan none, .chan none, ptr 2 0, ptr 3 0, ptr 4 0, .chan none, ptr 5 0, I64 (i : Int), .chan none, .chan none, .chan none, .chan none, .chan none, .chan none, .chan none, .chan none],
      [.chan none, .chan none, .chan none, .chan none, .chan none, .chan none, .chan none, .chan none, .chan none, .chan none, .chan none, .chan none, .chan none, .chan none, .chan none, .chan none],
      [.chan none, .chan none, .chan none, .chan none, .chan none, .chan none, .chan none, .chan none, .chan none, .chan none, .chan none, .chan none, .chan none, .chan none, .chan none]],
      [.pending c0 t0, .pending c1 t1, .cells (confC (slc 0 off l.length cap) g b tp nr me) 39, .cells #[I64 step, (slc 1 off1 bl.length cap1)] 42, .cells #[I64 0, I64 0, I64 0] 43, .cells #[I64 s.1, I64 s.2.1, I64 s.2.2] 43], []⟩) bl.length ?_ ⟨0, (0, 0, 0), rfl, Nat.zero_le _, rfl, rfl⟩
  rintro m s' ⟨i, s, rfl, hi, hs, rfl⟩
  conv => whnf
  refine ways (fun h2 => ?_) (fun h2 => ?_) <;> conv => whnf
  · have hlt : i < bl.length := by have := of_decide_eq_true h2; omega
    obtain ⟨x, hx⟩ : ∃ x, l[i]? = some x := ⟨_, List.getElem?_eq_getElem (by omega)⟩
    obtain ⟨y, hy⟩ : ∃ y, bl[i]? = some y := ⟨_, List.getElem?_eq_getElem hlt⟩
    have hil : decide (0 ≤ (i : Int) ∧ (i : Int) < ((l.length : Nat) : Int)) = true := by rw [decide_eq_true_iff]; omega
    have hib : decide (0 ≤ (i : Int) ∧ (i : Int) < ((bl.length : Nat) : Int)) = true := by rw [decide_eq_true_iff]; omega
    refine ad_of tabOk (by kernel_rfl) [(16, false), (0, false), (1, false), (2, false), (3, false), (4, false), (5, false), (6, false), (7, false), (8, false), (9, false), (10, false), (11, false), (12, false), (13, false), (14, false), (15, false), (17, false), (18, false)] (by kernel_rfl) ?_
    conv => whnf
    refine way1 hib ?_
    conv => whnf
    refine hw1.part hy (q := 0) (by decide) ?_
    conv => whnf
    refine way1 hib ?_
    conv => whnf
    refine hw1.part hy (q := 3) (by decide) ?_
    conv => whnf
    refine RCross_q (GM tt) y.a y.b y.c y.x y.y y.z ?_
    conv => whnf
    refine ⟨Lies.same _ _, ?_⟩
    conv => whnf
    refine ad_of tabOk (by kernel_rfl) [(0, false), (1, false), (2, false), (3, false), (4, false), (5, false), (6, false), (7, false), (8, true)] (by kernel_rfl) ?_
    conv => whnf
    refine way1 hil ?_
    conv => whnf
    refine nthK_of (l := c0.toList) (hw.at hx) ?_
    conv => whnf
    refine plus_q (GM tt) s.1 s.2.1 s.2.2 x (ofL y).1 (ofL y).2.1 (ofL y).2.2 ?_
    conv => whnf
    repeat' first
      | (refine And.intro rfl (And.intro rfl ?_); conv => whnf)
      | (refine And.intro rfl ?_; conv => whnf)
    rw [show wrapS .i64 ((i : Int) + 1) = ((i + 1 : Nat) : Int) by rw [wrapI (by omega) (by omega)]; omega]
    exact ⟨bl.length - (i + 1), by omega, i + 1, accF ofL s (x, y), rfl, by omega, by rw [sumF_succ ofL hx hy, hs], rfl⟩
  · have hin : i = bl.length := by have := of_decide_eq_false h2; omega
    subst hin
    rw [List.take_length, ← hlen, List.take_length] at hs
    subst hs
    refine ⟨rfl, fin_turnedK rfl ?_⟩
    conv => whnf
    exact ⟨rfl, rfl⟩
theorem RL_rn (tt : TypeId) (c0 : Array Value) (t0 : TypeId) (off cap : Nat) (l : List Int) (hw : WinI c0 off l) (hcap : l.length ≤ cap) (hl : l.length ≤ 1000000000000) (g b tp nr me step : Int) :
    AC Tryd.prog (GM tt) 30 [.agg (confC (slc 0 off l.length cap) g b tp nr me), .agg #[I64 step, (.slice none 0 0)]] [.pending c0 t0] (fun v h => v = sumV (fitsF l g b tp nr me step ([] : List Bd)) (sumF ofL l ([] : List Bd)) ∧ h = [.pending c0 t0]) := by
  have si : SlI [.pending c0 t0, .cells (confC (slc 0 off l.length cap) g b tp nr me) 39, .cells #[I64 step, (.slice none 0 0)] 42, .cells #[I64 0, I64 0, I64 0] 43, .cells #[I64 0, I64 0, I64 0] 43] (slc 0 off l.length cap) l := (.inr ⟨0, off, cap, c0, t0, rfl, .inl rfl, hw, hcap⟩)
  have sb : SlB [.pending c0 t0, .cells (confC (slc 0 off l.length cap) g b tp nr me) 39, .cells #[I64 step, (.slice none 0 0)] 42, .cells #[I64 0, I64 0, I64 0] 43, .cells #[I64 0, I64 0, I64 0] 43] (.slice none 0 0) ([] : List Bd) := (.inl ⟨rfl, rfl⟩)
  refine ac_of_body tabOk has30 ?_
  unfold BodyOk
  conv => whnf
  refine ac_mono (RFits_s tt si sb hl (by simp) g b tp nr me step) ?_
  rintro v h' ⟨rfl, rfl⟩
  conv => whnf
  rw [fits_nil2]
  conv => whnf
  refine ⟨rfl, fin_turnedK rfl ?_⟩
  conv => whnf
  exact ⟨rfl, rfl⟩
theorem RL_nr (tt : TypeId) (c1 : Array Value) (t1 : TypeId) (off1 cap1 : Nat) (bl : List Bd) (hw1 : WinB c1 off1 bl) (hcap1 : bl.length ≤ cap1) (hl1 : bl.length ≤ 1000000000000) (g b tp nr me step : Int) :
    AC Tryd.prog (GM tt) 30 [.agg (confC (.slice none 0 0) g b tp nr me), .agg #[I64 step, (slc 0 off1 bl.length cap1)]] [.pending c1 t1] (fun v h => v = sumV (fitsF ([] : List Int) g b tp nr me step bl) (sumF ofL ([] : List Int) bl) ∧ h = [.pending c1 t1]) := by
  have si : SlI [.pending c1 t1, .cells (confC (.slice none 0 0) g b tp nr me) 39, .cells #[I64 step, (slc 0 off1 bl.length cap1)] 42, .cells #[I64 0, I64 0, I64 0] 43, .cells #[I64 0, I64 0, I64 0] 43] (.slice none 0 0) ([] : List Int) := (.inl ⟨rfl, rfl⟩)
  have sb : SlB [.pending c1 t1, .cells (confC (.slice none 0 0) g b tp nr me) 39, .cells #[I64 step, (slc 0 off1 bl.length cap1)] 42, .cells #[I64 0, I64 0, I64 0] 43, .cells #[I64 0, I64 0, I64 0] 43] (slc 0 off1 bl.length cap1) bl := (.inr ⟨0, off1, cap1, c1, t1, rfl, .inl rfl, hw1, hcap1⟩)
  refine ac_of_body tabOk has30 ?_
  unfold BodyOk
  conv => whnf
  refine ac_mono (RFits_s tt si sb (by simp) hl1 g b tp nr me step) ?_
  rintro v h' ⟨rfl, rfl⟩
  conv => whnf
  rw [fits_nil1]
  conv => whnf
  refine ⟨rfl, fin_turnedK rfl ?_⟩
  conv => whnf
  exact ⟨rfl, rfl⟩
theorem RL_nn (tt : TypeId) (g b tp nr me step : Int) :
    AC Tryd.prog (GM tt) 30 [.agg (confC (.slice none 0 0) g b tp nr me), .agg #[I64 step, (.slice none 0 0)]] [] (fun v h => v = sumV (fitsF ([] : List Int) g b tp nr me step ([] : List Bd)) (sumF ofL ([] : List Int) ([] : List Bd)) ∧ h = []) := by
  have si : SlI [.cells (confC (.slice none 0 0) g b tp nr me) 39, .cells #[I64 step, (.slice none 0 0)] 42, .cells #[I64 0, I64 0, I64 0] 43, .cells #[I64 0, I64 0, I64 0] 43] (.slice none 0 0) ([] : List Int) := (.inl ⟨rfl, rfl⟩)
  have sb : SlB [.cells (confC (.slice none 0 0) g b tp nr me) 39, .cells #[I64 step, (.slice none 0 0)] 42, .cells #[I64 0, I64 0, I64 0] 43, .cells #[I64 0, I64 0, I64 0] 43] (.slice none 0 0) ([] : List Bd) := (.inl ⟨rfl, rfl⟩)
  refine ac_of_body tabOk has30 ?_
  unfold BodyOk
  conv => whnf
  refine ac_mono (RFits_s tt si sb (by simp) (by simp) g b tp nr me step) ?_
  rintro v h' ⟨rfl, rfl⟩
  conv => whnf
  rw [fits_nil1]
  conv => whnf
  refine ⟨rfl, fin_turnedK rfl ?_⟩
  conv => whnf
  exact ⟨rfl, rfl⟩
theorem RL_s (tt : TypeId) {h : List Obj} {ms bs : Value} {l : List Int} {bl : List Bd} (hs : SlI h ms l) (hb : SlB h bs bl) (hl : l.length ≤ 1000000000000) (hl1 : bl.length ≤ 1000000000000) (g b tp nr me step : Int) :
    AC Tryd.prog (GM tt) 30 [.agg (confC ms g b tp nr me), .agg #[I64 step, bs]] h (fun v h' => v = sumV (fitsF l g b tp nr me step bl) (sumF ofL l bl) ∧ h' = h) := by
  have hcl : closedV (sumV (fitsF l g b tp nr me step bl) (sumF ofL l bl)) = true := by cases fitsF l g b tp nr me step bl <;> rfl
  rcases hs with ⟨rfl, rfl⟩ | ⟨m, off, cap, c, t, rfl, h2, h4, h5⟩
  · rcases hb with ⟨rfl, rfl⟩ | ⟨m1, off1, cap1, c1, t1, rfl, k2, k4, k5⟩
    · refine ac_readF [] (RL_nn tt g b tp nr me step) (by simp [r3, r2, r1, r0]) rfl cold_0 ?_
      rintro v h' ⟨rfl, rfl⟩
      exact ⟨hcl, rfl, rfl, rfl⟩
    · refine ac_readF [m1] (RL_nr tt c1 t1 off1 cap1 bl k4 k5 hl1 g b tp nr me step) (by simp [r3, r2, r1, r0, rA, nu]) rfl (cold_p k2) ?_
      rintro v h' ⟨rfl, rfl⟩
      exact ⟨hcl, rfl, rfl, rfl⟩
  · rcases hb with ⟨rfl, rfl⟩ | ⟨m1, off1, cap1, c1, t1, rfl, k2, k4, k5⟩
    · refine ac_readF [m] (RL_rn tt c t off cap l h4 h5 hl g b tp nr me step) (by simp [r3, r2, r1, r0, rA, nu]) rfl (cold_p h2) ?_
      rintro v h' ⟨rfl, rfl⟩
      exact ⟨hcl, rfl, rfl, rfl⟩
    · refine ac_readF [m, m1] (RL_rr tt c t off cap l h4 h5 hl c1 t1 off1 cap1 bl k4 k5 hl1 g b tp nr me step) (by simp [r3, r2, r1, r0, rA, nu]) rfl (cold_2 h2 k2) ?_
      rintro v h' ⟨rfl, rfl⟩
      exact ⟨hcl, rfl, rfl, rfl⟩
theorem RMid_rr (tt : TypeId) (c0 : Array Value) (t0 : TypeId) (off cap : Nat) (l : List Int) (hw : WinI c0 off l) (hcap : l.length ≤ cap) (hl : l.length ≤ 1000000000000) (c1 : Array Value) (t1 : TypeId) (off1 cap1 : Nat) (bl : List Bd) (hw1 : WinB c1 off1 bl) (hcap1 : bl.length ≤ cap1) (hl1 : bl.length ≤ 1000000000000) (g b tp nr me step : Int) :
    AC Tryd.prog (GM tt) 32 [.agg (confC (slc 0 off l.length cap) g b tp nr me), .agg #[I64 step, (slc 1 off1 bl.length cap1)]] [.pending c0 t0, .pending c1 t1] (fun v h => v = sumV (fitsF l g b tp nr me step bl) (sumF ofX l bl) ∧ h = [.pending c0 t0, .pending c1 t1]) := by
  have si : SlI [.pending c0 t0, .pending c1 t1, .cells (confC (slc 0 off l.length cap) g b tp nr me) 39, .cells #[I64 step, (slc 1 off1 bl.length cap1)] 42, .cells #[I64 0, I64 0, I64 0] 43, .cells #[I64 0, I64 0, I64 0] 43] (slc 0 off l.length cap) l := (.inr ⟨0, off, cap, c0, t0, rfl, .inl rfl, hw, hcap⟩)
  have sb : SlB [.pending c0 t0, .pending c1 t1, .cells (confC (slc 0 off l.length cap) g b tp nr me) 39, .cells #[I64 step, (slc 1 off1 bl.length cap1)] 42, .cells #[I64 0, I64 0, I64 0] 43, .cells #[I64 0, I64 0, I64 0] 43] (slc 1 off1 bl.length cap1) bl := (.inr ⟨1, off1, cap1, c1, t1, rfl, .inl rfl, hw1, hcap1⟩)
  refine ac_of_body tabOk has32 ?_
  unfold BodyOk
  conv => whnf
  refine ac_mono (RFits_s tt si sb hl hl1 g b tp nr me step) ?_
  rintro v h' ⟨rfl, rfl⟩
  conv => whnf
  refine ways (fun h1 => ?_) (fun h1 => ?_) <;> conv => whnf
  · refine ⟨rfl, fin_turnedK rfl ?_⟩
    conv => whnf
    rw [notF h1]
    exact ⟨rfl, rfl⟩
  have hfit := notT h1
  have hlen : l.length = bl.length := by
    unfold fitsF at hfit
    simp only [Bool.and_eq_true, decide_eq_true_eq] at hfit
    exact hfit.1
  rw [hfit]
  refine aw_inv tabOk [[false, false, true, true, true, false, true, true, false, false, false, false, false, false, false, false], [false, false, false, false, false, false, false, false, false, false, false, false, false, false, false, false], [false, false]] (fun m s' => ∃ (i : Nat) (s : I3), m = bl.length - i ∧ i ≤ bl.length ∧ sumF ofX (l.take i) (bl.take i) = s ∧
    s' = ⟨[[.chan none, .chan none, ptr 2 0, ptr 3 0, ptr 4 0, .chan none, ptr 5 0, I64 (i : Int), .chan none, .chan none, .chan none, .chan none, .chan none, .chan none, .chan none, .chan none],
      [.chan none, .chan none, .chan none, .chan none, .chan none, .chan none, .chan none, .chan none, .chan none, .chan none, .chan none, .chan none, .chan none, .chan none, .chan none, .chan none],
      [.chan none, .chan none]],
      [.pending c0 t0, .pending c1 t1, .cells (confC (slc 0 off l.length cap) g b tp nr me) 39, .cells #[I64 step, (slc 1 off1 bl.length cap1)] 42, .cells #[I64 0, I64 0, I64 0] 43, .cells #[I64 s.1, I64 s.2.1, I64 s.2.2] 43], []⟩) bl.length ?_ ⟨0, (0, 0, 0), rfl, Nat.zero_le _, rfl, rfl⟩
  rintro m s' ⟨i, s, rfl, hi, hs, rfl⟩
  conv => whnf
  refine ways (fun h2 => ?_) (fun h2 => ?_) <;> conv => whnf
  · have hlt : i < bl.length := by have := of_decide_eq_true h2; omega
    obtain ⟨x, hx⟩ : ∃ x, l[i]? = some x := ⟨_, List.getElem?_eq_getElem (by omega)⟩
    obtain ⟨y, hy⟩ : ∃ y, bl[i]? = some y := ⟨_, List.getElem?_eq_getElem hlt⟩
    have hil : decide (0 ≤ (i : Int) ∧ (i : Int) < ((l.length : Nat) : Int)) = true := by rw [decide_eq_true_iff]; omega
    have hib : decide (0 ≤ (i : Int) ∧ (i : Int) < ((bl.length : Nat) : Int)) = true := by rw [decide_eq_true_iff]; omega
    refine ad_of tabOk (by kernel_rfl) [(0, false), (1, false), (2, false), (3, false), (4, false), (5, false), (6, false), (7, false), (8, false), (9, false), (10, false), (11, false), (12, false), (13, true)] (by kernel_rfl) ?_
    conv => whnf
    refine way1 hil ?_
    conv => whnf
    refine nthK_of (l := c0.toList) (hw.at hx) ?_
    conv => whnf
    refine way1 hib ?_
    conv => whnf
    refine hw1.part hy (q := 0) (by decide) ?_
    conv => whnf
    refine plus_q (GM tt) s.1 s.2.1 s.2.2 x y.a y.b y.c ?_
    conv => whnf
    rw [show wrapS .i64 ((i : Int) + 1) = ((i + 1 : Nat) : Int) by rw [wrapI (by omega) (by omega)]; omega]
    exact ⟨bl.length - (i + 1), by omega, i + 1, accF ofX s (x, y), rfl, by omega, by rw [sumF_succ ofX hx hy, hs], rfl⟩
  · have hin : i = bl.length := by have := of_decide_eq_false h2; omega
    subst hin
    rw [List.take_length, ← hlen, List.take_length] at hs
    subst hs
    refine ⟨rfl, fin_turnedK rfl ?_⟩
    conv => whnf
    exact ⟨rfl, rfl⟩
theorem RMid_rn (tt : TypeId) (c0 : Array Value) (t0 : TypeId) (off cap : Nat) (l : List Int) (hw : WinI c0 off l) (hcap : l.length ≤ cap) (hl : l.length ≤ 1000000000000) (g b tp nr me step : Int) :
    AC Tryd.prog (GM tt) 32 [.agg (confC (slc 0 off l.length cap) g b tp nr me), .agg #[I64 step, (.slice none 0 0)]] [.pending c0 t0] (fun v h => v = sumV (fitsF l g b tp nr me step ([] : List Bd)) (sumF ofX l ([] : List Bd)) ∧ h = [.pending c0 t0]) := by
  have si : SlI [.pending c0 t0, .cells (confC (slc 0 off l.length cap) g b tp nr me) 39, .cells #[I64 step, (.slice none 0 0)] 42, .cells #[I64 0, I64 0, I64 0] 43, .cells #[I64 0, I64 0, I64 0] 43] (slc 0 off l.length cap) l := (.inr ⟨0, off, cap, c0, t0, rfl, .inl rfl, hw, hcap⟩)
  have sb : SlB [.pending c0 t0, .cells (confC (slc 0 off l.length cap) g b tp nr me) 39, .cells #[I64 step, (.slice none 0 0)] 42, .cells #[I64 0, I64 0, I64 0] 43, .cells #[I64 0, I64 0, I64 0] 43] (.slice none 0 0) ([] : List Bd) := (.inl ⟨rfl, rfl⟩)
  refine ac_of_body tabOk has32 ?_
  unfold BodyOk
  conv => whnf
  refine ac_mono (RFits_s tt si sb hl (by simp) g b tp nr me step) ?_
  rintro v h' ⟨rfl, rfl⟩
  conv => whnf
  rw [fits_nil2]
  conv => whnf
  refine ⟨rfl, fin_turnedK rfl ?_⟩
  conv => whnf
  exact ⟨rfl, rfl⟩
theorem RMid_nr (tt : TypeId) (c1 : Array Value) (t1 : TypeId) (off1 cap1 : Nat) (bl : List Bd) (hw1 : WinB c1 off1 bl) (hcap1 : bl.length ≤ cap1) (hl1 : bl.length ≤ 1000000000000) (g b tp nr me step : Int) :
    AC Tryd.prog (GM tt) 32 [.agg (confC (.slice none 0 0) g b tp nr me), .agg #[I64 step, (slc 0 off1 bl.length cap1)]] [.pending c1 t1] (fun v h => v = sumV (fitsF ([] : List Int) g b tp nr me step bl) (sumF ofX ([] : List Int) bl) ∧ h = [.pending c1 t1]) := by
  have si : SlI [.pending c1 t1, .cells (confC (.slice none 0 0) g b tp nr me) 39, .cells #[I64 step, (slc 0 off1 bl.length cap1)] 42, .cells #[I64 0, I64 0, I64 0] 43, .cells #[I64 0, I64 0, I64 0] 43] (.slice none 0 0) ([] : List Int) := (.inl ⟨rfl, rfl⟩)
  have sb : SlB [.pending c1 t1, .cells (confC (.slice none 0 0) g b tp nr me) 39, .cells #[I64 step, (slc 0 off1 bl.length cap1)] 42, .cells #[I64 0, I64 0, I64 0] 43, .cells #[I64 0, I64 0, I64 0] 43] (slc 0 off1 bl.length cap1) bl := (.inr ⟨0, off1, cap1, c1, t1, rfl, .inl rfl, hw1, hcap1⟩)
  refine ac_of_body tabOk has32 ?_
  unfold BodyOk
  conv => whnf
  refine ac_mono (RFits_s tt si sb (by simp) hl1 g b tp nr me step) ?_
  rintro v h' ⟨rfl, rfl⟩
  conv => whnf
  rw [fits_nil1]
  conv => whnf
  refine ⟨rfl, fin_turnedK rfl ?_⟩
  conv => whnf
  exact ⟨rfl, rfl⟩
theorem RMid_nn (tt : TypeId) (g b tp nr me step : Int) :
    AC Tryd.prog (GM tt) 32 [.agg (confC (.slice none 0 0) g b tp nr me), .agg #[I64 step, (.slice none 0 0)]] [] (fun v h => v = sumV (fitsF ([] : List Int) g b tp nr me step ([] : List Bd)) (sumF ofX ([] : List Int) ([] : List Bd)) ∧ h = []) := by
  have si : SlI [.cells (confC (.slice none 0 0) g b tp nr me) 39, .cells #[I64 step, (.slice none 0 0)] 42, .cells #[I64 0, I64 0, I64 0] 43, .cells #[I64 0, I64 0, I64 0] 43] (.slice none 0 0) ([] : List Int) := (.inl ⟨rfl, rfl⟩)
  have sb : SlB [.cells (confC (.slice none 0 0) g b tp nr me) 39, .cells #[I64 step, (.slice none 0 0)] 42, .cells #[I64 0, I64 0, I64 0] 43, .cells #[I64 0, I64 0, I64 0] 43] (.slice none 0 0) ([] : List Bd) := (.inl ⟨rfl, rfl⟩)
  refine ac_of_body tabOk has32 ?_
  unfold BodyOk
  conv => whnf
  refine ac_mono (RFits_s tt si sb (by simp) (by simp) g b tp nr me step) ?_
  rintro v h' ⟨rfl, rfl⟩
  conv => whnf
  rw [fits_nil1]
  conv => whnf
  refine ⟨rfl, fin_turnedK rfl ?_⟩
  conv => whnf
  exact ⟨rfl, rfl⟩
theorem RMid_s (tt : TypeId) {h : List Obj} {ms bs : Value} {l : List Int} {bl : List Bd} (hs : SlI h ms l) (hb : SlB h bs bl) (hl : l.length ≤ 1000000000000) (hl1 : bl.length ≤ 1000000000000) (g b tp nr me step : Int) :
    AC Tryd.prog (GM tt) 32 [.agg (confC ms g b tp nr me), .agg #[I64 step, bs]] h (fun v h' => v = sumV (fitsF l g b tp nr me step bl) (sumF ofX l bl) ∧ h' = h) := by
  have hcl : closedV (sumV (fitsF l g b tp nr me step bl) (sumF ofX l bl)) = true := by cases fitsF l g b tp nr me step bl <;> rfl
  rcases hs with ⟨rfl, rfl⟩ | ⟨m, off, cap, c, t, rfl, h2, h4, h5⟩
  · rcases hb with ⟨rfl, rfl⟩ | ⟨m1, off1, cap1, c1, t1, rfl, k2, k4, k5⟩
    · refine ac_readF [] (RMid_nn tt g b tp nr me step) (by simp [r3, r2, r1, r0]) rfl cold_0 ?_
      rintro v h' ⟨rfl, rfl⟩
      exact ⟨hcl, rfl, rfl, rfl⟩
    · refine ac_readF [m1] (RMid_nr tt c1 t1 off1 cap1 bl k4 k5 hl1 g b tp nr me step) (by simp [r3, r2, r1, r0, rA, nu]) rfl (cold_p k2) ?_
      rintro v h' ⟨rfl, rfl⟩
      exact ⟨hcl, rfl, rfl, rfl⟩
  · rcases hb with ⟨rfl, rfl⟩ | ⟨m1, off1, cap1, c1, t1, rfl, k2, k4, k5⟩
    · refine ac_readF [m] (RMid_rn tt c t off cap l h4 h5 hl g b tp nr me step) (by simp [r3, r2, r1, r0, rA, nu]) rfl (cold_p h2) ?_
      rintro v h' ⟨rfl, rfl⟩
      exact ⟨hcl, rfl, rfl, rfl⟩
    · refine ac_readF [m, m1] (RMid_rr tt c t off cap l h4 h5 hl c1 t1 off1 cap1 bl k4 k5 hl1 g b tp nr me step) (by simp [r3, r2, r1, r0, rA, nu]) rfl (cold_2 h2 k2) ?_
      rintro v h' ⟨rfl, rfl⟩
      exact ⟨hcl, rfl, rfl, rfl⟩
end Go.Proofs.YtjpjnjidchdlbaaDoor
