/-
  StateTurned: what the law computes (no condition).
-/
import Derived.Test.YtjpjnjidchdlbaaStN
namespace Go.Proofs.Ytjpjnjidchdlbaa
set_option linter.unusedSimpArgs false
set_option linter.unusedVariables false
open Go
set_option maxRecDepth 100000
set_option maxHeartbeats 4000000
theorem neg_neg_w {x : Int} (h1 : -1073741824 ≤ x) (h2 : x ≤ 1073741824) : wrapS .i64 (0 - wrapS .i64 (0 - x)) = x := by
  rw [wrapI (n := 0 - x) (by omega) (by omega), wrapI (by omega) (by omega)]
  omega
theorem negB_neg {b : Bd} (h : badB 1048576 65536 b = false) : negB (negB b) = b := by
  have h := good_iff h
  cases b
  simp only [negB]
  simp only at h
  rw [neg_neg_w (by omega) (by omega), neg_neg_w (by omega) (by omega), neg_neg_w (by omega) (by omega)]
theorem bad_neg {b : Bd} (h : badB 1048576 65536 b = false) : badB 1048576 65536 (negB b) = false := by
  have h := good_iff h
  cases hb : badB 1048576 65536 (negB b) with
  | false => rfl
  | true =>
    have h2 := (bad_iff (negB b)).1 hb
    simp only [negB] at h2
    rw [wrapI (n := 0 - b.x) (by omega) (by omega), wrapI (n := 0 - b.y) (by omega) (by omega), wrapI (n := 0 - b.z) (by omega) (by omega)] at h2
    omega
theorem ok_step {step : Int} {l : List Bd} (h : okState step l = true) : -1073741824 ≤ step ∧ step ≤ 1073741824 := by
  unfold okState at h
  simp only [Bool.and_eq_true, decide_eq_true_iff] at h
  omega
theorem map_negneg {step : Int} {l : List Bd} (h : okState step l = true) : (l.map negB).map negB = l := by
  rw [List.map_map]
  conv => rhs; rw [← List.map_id l]
  refine List.map_congr_left fun b hb => ?_
  obtain ⟨i, hi⟩ := List.getElem?_of_mem hb
  exact negB_neg (ok_bad h hi)
theorem okState_neg {step : Int} {l : List Bd} (h : okState step l = true) : okState (wrapS .i64 (0 - step)) (l.map negB) = true := by
  have hs := ok_step h
  have h2 := h
  unfold okState at h2 ⊢
  simp only [Bool.and_eq_true, decide_eq_true_iff, Bool.not_eq_true', List.length_map] at h2 ⊢
  rw [wrapI (by omega) (by omega)]
  refine ⟨by omega, by omega, h2.2.2.1, h2.2.2.2.1, ?_⟩
  rw [List.any_eq_false]
  intro b hb
  obtain ⟨c, hc, rfl⟩ := List.mem_map.1 hb
  obtain ⟨i, hi⟩ := List.getElem?_of_mem hc
  rw [bad_neg (ok_bad h hi)]
  exact Bool.false_ne_true
theorem leastP_neg (l : List Bd) : ∀ i, leastP (l.map negB) i = leastP l i
  | 0 => rfl
  | i + 1 => by
    cases hx : l[i]? with
    | none =>
      have h2 : (l.map negB)[i]? = none := by rw [List.getElem?_map, hx]; rfl
      unfold leastP
      rw [hx, h2, leastP_neg l i]
    | some x =>
      have h2 : (l.map negB)[i]? = some (negB x) := by rw [List.getElem?_map, hx]; rfl
      rw [leastP_succ hx, leastP_succ h2, leastP_neg l i, ← List.map_take]
      unfold inL
      rw [List.foldl_map]
      rfl
theorem leastF_neg {step : Int} {l : List Bd} (h : okState step l = true) : leastF (wrapS .i64 (0 - step)) (l.map negB) = leastF step l := by
  unfold leastF
  rw [okState_neg h, h, List.length_map]
  exact leastP_neg l _
theorem Turned8_n (G) (step : Int) : AC Try.prog G 8 [.agg #[I64 step, .slice none 0 0]] [] (fun v h => v = .bool true ∧ h = []) := by
  refine ac_of_body tabOk has8 ?_
  unfold BodyOk
  conv => whnf
  refine ac_mono (RRight_s G step (l := []) (.inl ⟨rfl, rfl⟩) (by decide)) ?_
  rintro v h' ⟨rfl, rfl⟩
  rw [okState_nil]
  conv => whnf
  refine ac_pure (wakes_c G) rfl ?_
  rintro v h' ⟨rfl, rfl⟩
  refine ⟨rfl, rfl, ?_⟩
  conv => whnf
  refine ⟨rfl, fin_turnedK rfl ?_⟩
  conv => whnf
  exact ⟨rfl, rfl⟩
theorem Turned8_r (G) (step : Int) (c0 : Array Value) (t0 : TypeId) (off cap : Nat) (l : List Bd) (hw : WinB c0 off l) (hcap : l.length ≤ cap) : AC Try.prog G 8 [.agg #[I64 step, slc 0 off l.length cap]] [.pending c0 t0] (fun v h => v = .bool true ∧ h = [.pending c0 t0]) := by
  refine ac_of_body tabOk has8 ?_
  unfold BodyOk
  conv => whnf
  refine ways (fun h1 => ?_) (fun h1 => ?_) <;> conv => whnf
  · refine ac_pure (wakes_c G) rfl ?_
    rintro v h' ⟨rfl, rfl⟩
    refine ⟨rfl, rfl, ?_⟩
    conv => whnf
    refine ⟨rfl, fin_turnedK rfl ?_⟩
    conv => whnf
    exact ⟨rfl, rfl⟩
  have hl9 : l.length ≤ 9 := by have := of_decide_eq_false h1; omega
  refine ac_mono (RRight_s G step (l := l) (.inr ⟨0, off, cap, c0, t0, rfl, .inl rfl, hw, hcap⟩) (by omega)) ?_
  rintro v h' ⟨rfl, rfl⟩
  conv => whnf
  refine ways (fun h2 => ?_) (fun h2 => ?_) <;> conv => whnf
  · refine ac_pure (wakes_c G) rfl ?_
    rintro v h' ⟨rfl, rfl⟩
    refine ⟨rfl, rfl, ?_⟩
    conv => whnf
    refine ⟨rfl, fin_turnedK rfl ?_⟩
    conv => whnf
    exact ⟨rfl, rfl⟩
  have h2 : okState step l = true := by simpa using h2
  have hlen := ok_len h2
  refine ac_mono (Turn29_s G step (m := 2) rfl (l := l) (.inr ⟨0, off, cap, c0, t0, rfl, .inl rfl, hw, hcap⟩) hlen (by omega)) ?_
  rintro v h' ⟨ct, cp, rfl, rfl, ht1, ht2, ht3⟩
  conv => whnf
  refine ac_mono (Least_s G step (l := l) (.inr ⟨0, off, cap, c0, t0, rfl, .inl rfl, hw, hcap⟩) (by omega)) ?_
  rintro v h' ⟨rfl, rfl⟩
  conv => whnf
  refine ac_mono (Least_s G (wrapS .i64 (0 - step)) (l := l.map negB) (.inr ⟨2, 0, cp, ct, 56, rfl, .inr ⟨ht1, (0, 0), rfl⟩, ht2, ht3⟩) (by rw [List.length_map]; omega)) ?_
  rintro v h' ⟨rfl, rfl⟩
  rw [leastF_neg h2]
  conv => whnf
  refine ad_fresh [46, 1048] tabOk (by kernel_rfl) [(0, false), (1, false), (2, false), (3, false), (4, false), (5, false), (6, false), (7, false), (8, false), (9, false), (10, false), (11, false), (12, false), (13, false), (15, false), (14, false), (16, false), (17, false), (18, false), (19, false), (20, false), (21, false), (22, false), (23, false), (24, false), (25, false), (26, false), (27, false), (28, false), (29, false), (30, false), (31, false), (32, false), (33, false), (34, false), (35, false), (36, false)] (by kernel_rfl) ?_
  conv => whnf
  refine way0 (by rw [List.length_map]; simp) ?_
  conv => whnf
  intro h hp
  refine ac_mono (Right_s G (wrapS .i64 (0 - step)) (l := l.map negB) (.inr ⟨2, 0, cp, ct, 56, rfl, .inr ⟨ht1, (0, 0), hp _ _ rfl⟩, ht2, ht3⟩) (by rw [List.length_map]; omega)) ?_
  rintro v h' ⟨rfl, rfl⟩
  refine ⟨rfl, rfl, ?_⟩
  rw [okState_neg h2]
  clear hp
  conv => whnf
  intro h hp
  refine ac_mono (Turn29_s G (wrapS .i64 (0 - step)) (m := h.length) rfl (l := l.map negB) (.inr ⟨2, 0, cp, ct, 56, rfl, .inr ⟨ht1, (0, 0), hp _ _ rfl⟩, ht2, ht3⟩) (by rw [List.length_map]; omega) (by rw [List.length_map]; omega)) ?_
  rintro v h' ⟨c2, cp2, rfl, rfl, u1, u2, u3⟩
  refine ⟨.cells c2 56, fun n => .agg #[I64 (wrapS .i64 (0 - wrapS .i64 (0 - step))), slc n 0 ((l.map negB).map negB).length cp2], rfl, rfl, ?_⟩
  clear hp
  conv => whnf
  refine ac_mono (RSame_s G (wrapS .i64 (0 - wrapS .i64 (0 - step))) step (l := (l.map negB).map negB) (l1 := l) ⟨4, 0, cp2, c2, 56, rfl, .inr ⟨u1, (0, 0), rfl⟩, u2, u3⟩ ⟨0, off, cap, c0, t0, rfl, .inl rfl, hw, hcap⟩ (by rw [List.length_map, List.length_map]; omega)) ?_
  rintro v h' ⟨b, rfl, hb, rfl⟩
  refine ⟨rfl, rfl, ?_⟩
  have hs := ok_step h2
  have hbt : b = true := hb.2 ⟨neg_neg_w hs.1 hs.2, map_negneg h2⟩
  subst hbt
  conv => whnf
  refine way0 (by simp) ?_
  conv => whnf
  refine way0 (by simp) ?_
  conv => whnf
  refine way0 (by simp) ?_
  conv => whnf
  refine aw_inv tabOk [[false, true, false, true, false, false, false, false, true, false, false, false, false, false, false, false], [false, false, false, false, false, false, false, false, false, false, false, false, false, false, false, false], [false, false, false, false, false, false, false, false, false, false, false, false, false, false, false, false], [false, false, false, false, false, false, false, false, false, false, false, false, false, false, false, false], [false, false, false, false, false, false, false, false, false, false, false, false, false, false, false, false], [false, false, false, false, false, false, false, false, false, false, false, false, false, false, false, false], [false, false, false, false, false, false, false, false, false, false, false, false, false, false, false, false], [false, false, false, false, false, false]] (fun m s' => ∃ (i : Nat), m = l.length - i ∧ i ≤ l.length ∧ s' = ⟨[[.chan none, ptr 1 0, .chan none, ptr 3 0, .chan none, .chan none, .chan none, .chan none, I64 (i : Int), .chan none, .chan none, .chan none, .chan none, .chan none, .chan none, .chan none],
      [.chan none, .chan none, .chan none, .chan none, .chan none, .chan none, .chan none, .chan none, .chan none, .chan none, .chan none, .chan none, .chan none, .chan none, .chan none, .chan none],
      [.chan none, .chan none, .chan none, .chan none, .chan none, .chan none, .chan none, .chan none, .chan none, .chan none, .chan none, .chan none, .chan none, .chan none, .chan none, .chan none],
      [.chan none, .chan none, .chan none, .chan none, .chan none, .chan none, .chan none, .chan none, .chan none, .chan none, .chan none, .chan none, .chan none, .chan none, .chan none, .chan none],
      [.chan none, .chan none, .chan none, .chan none, .chan none, .chan none, .chan none, .chan none, .chan none, .chan none, .chan none, .chan none, .chan none, .chan none, .chan none, .chan none],
      [.chan none, .chan none, .chan none, .chan none, .chan none, .chan none, .chan none, .chan none, .chan none, .chan none, .chan none, .chan none, .chan none, .chan none, .chan none, .chan none],
      [.chan none, .chan none, .chan none, .chan none, .chan none, .chan none, .chan none, .chan none, .chan none, .chan none, .chan none, .chan none, .chan none, .chan none, .chan none, .chan none],
      [.chan none, .chan none, .chan none, .chan none, .chan none, .chan none]], [.pending c0 t0, .cells #[I64 step, slc 0 off l.length cap] 42, .cells ct 56, .cells #[I64 (wrapS .i64 (0 - step)), slc 2 0 (l.map negB).length cp] 42, .cells c2 56], []⟩) l.length ?_ ⟨0, rfl, Nat.zero_le _, rfl⟩
  rintro m s' ⟨i, rfl, hi, rfl⟩
  conv => whnf
  refine ways (fun h4 => ?_) (fun h4 => ?_) <;> conv => whnf
  · have hlt : i < l.length := by have := of_decide_eq_true h4; omega
    refine exk hlt fun x hx => ?_
    have hx' : (l.map negB)[i]? = some (negB x) := by rw [List.getElem?_map, hx]; rfl
    have hib : decide (0 ≤ (i : Int) ∧ (i : Int) < ((l.length : Nat) : Int)) = true := by rw [decide_eq_true_iff]; omega
    have hib' : decide (0 ≤ (i : Int) ∧ (i : Int) < (((l.map negB).length : Nat) : Int)) = true := by rw [decide_eq_true_iff, List.length_map]; omega
    refine aw_rounds tabOk 4 ?_
    conv => whnf
    refine ad_of tabOk (by kernel_rfl) [(0, false), (1, false), (2, false), (3, false), (4, false), (5, false), (6, false), (7, false), (8, false), (9, false), (10, false), (11, false), (12, false), (13, false), (14, false), (15, false), (16, false), (17, false), (18, false), (19, false), (20, false), (21, false), (22, false), (23, false), (24, false), (25, false), (26, false), (27, false), (28, false), (29, false), (30, false), (31, false), (32, false), (33, false), (34, false), (35, false), (36, false)] (by kernel_rfl) ?_
    conv => whnf
    refine way1 hib' ?_
    conv => whnf
    refine nthK_of (l := ct.toList) (ht2.at hx' (q := 0) rfl) ?_
    conv => whnf
    refine way1 hib ?_
    conv => whnf
    refine nthK_of (l := c0.toList) (hw.at hx (q := 0) rfl) ?_
    conv => whnf
    refine way0 (by simp [negB]) ?_
    conv => whnf
    refine way1 hib' ?_
    conv => whnf
    refine nthK_of (l := ct.toList) (ht2.at hx' (q := 3) rfl) ?_
    conv => whnf
    refine way1 hib ?_
    conv => whnf
    refine nthK_of (l := c0.toList) (hw.at hx (q := 3) rfl) ?_
    conv => whnf
    refine way0 (by simp [negB]) ?_
    conv => whnf
    refine ad_of tabOk (by kernel_rfl) [(0, false), (1, false), (2, false), (3, false), (4, false), (5, false), (6, false), (7, false), (8, false), (9, false), (10, false), (11, false), (12, false), (13, false), (14, false), (15, false), (16, false), (17, false), (18, false), (19, false), (20, false), (21, false), (22, false), (23, false), (24, false), (25, false), (26, false), (27, false), (28, false), (29, false), (30, false), (31, false), (32, false), (33, false), (34, false), (35, false), (36, false)] (by kernel_rfl) ?_
    conv => whnf
    refine way1 hib' ?_
    conv => whnf
    refine nthK_of (l := ct.toList) (ht2.at hx' (q := 1) rfl) ?_
    conv => whnf
    refine way1 hib ?_
    conv => whnf
    refine nthK_of (l := c0.toList) (hw.at hx (q := 1) rfl) ?_
    conv => whnf
    refine way0 (by simp [negB]) ?_
    conv => whnf
    refine way1 hib' ?_
    conv => whnf
    refine nthK_of (l := ct.toList) (ht2.at hx' (q := 4) rfl) ?_
    conv => whnf
    refine way1 hib ?_
    conv => whnf
    refine nthK_of (l := c0.toList) (hw.at hx (q := 4) rfl) ?_
    conv => whnf
    refine way0 (by simp [negB]) ?_
    conv => whnf
    refine ad_of tabOk (by kernel_rfl) [(0, false), (1, false), (2, false), (3, false), (4, false), (5, false), (6, false), (7, false), (8, false), (9, false), (10, false), (11, false), (12, false), (13, false), (14, false), (15, false), (16, false), (17, false), (18, false), (19, false), (20, false), (21, false), (22, false), (23, false), (24, false), (25, false), (26, false), (27, false), (28, false), (29, false), (30, false), (31, false), (32, false), (33, false), (34, false), (35, false), (36, false)] (by kernel_rfl) ?_
    conv => whnf
    refine way1 hib' ?_
    conv => whnf
    refine nthK_of (l := ct.toList) (ht2.at hx' (q := 2) rfl) ?_
    conv => whnf
    refine way1 hib ?_
    conv => whnf
    refine nthK_of (l := c0.toList) (hw.at hx (q := 2) rfl) ?_
    conv => whnf
    refine way0 (by simp [negB]) ?_
    conv => whnf
    refine way1 hib' ?_
    conv => whnf
    refine nthK_of (l := ct.toList) (ht2.at hx' (q := 5) rfl) ?_
    conv => whnf
    refine way1 hib ?_
    conv => whnf
    refine nthK_of (l := c0.toList) (hw.at hx (q := 5) rfl) ?_
    conv => whnf
    refine way0 (by simp [negB]) ?_
    conv => whnf
    rw [show wrapS .i64 ((i : Int) + 1) = ((i + 1 : Nat) : Int) by rw [wrapI (by omega) (by omega)]; omega]
    exact ⟨l.length - (i + 1), by omega, i + 1, rfl, by omega, rfl⟩
  refine ac_pure (wakes_c G) rfl ?_
  rintro v h' ⟨rfl, rfl⟩
  refine ⟨rfl, rfl, ?_⟩
  conv => whnf
  refine ⟨rfl, fin_turnedK rfl ?_⟩
  conv => whnf
  exact ⟨rfl, rfl⟩

end Go.Proofs.Ytjpjnjidchdlbaa
