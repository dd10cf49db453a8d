/-
  MomentTurned, the plain law: sums of a state turned about, and of bodies in another order (no condition).
-/
import Derived.Test.YtjpjnjidchdlbaaDoorMomS
import Derived.Test.YtjpjnjidchdlbaaDoorMomH
namespace Go.Proofs.YtjpjnjidchdlbaaDoor
set_option linter.unusedSimpArgs false
set_option linter.unusedVariables false
open Go
set_option maxRecDepth 100000
set_option maxHeartbeats 4000000
theorem wr_dvd (n : Int) : (18446744073709551616 : Int) ∣ wrapS .i64 n - n := by
  rw [wrapS_eq]; simp only [IntKind.wrap, IntKind.signed, IntKind.bits, Bool.true_and, decide_eq_true_eq]
  split <;> omega
theorem wr_eq {a b : Int} (h : (18446744073709551616 : Int) ∣ a - b) : wrapS .i64 a = wrapS .i64 b := by
  rw [wrapS_eq, wrapS_eq]; simp [IntKind.wrap, IntKind.signed, IntKind.bits]
  omega
def sum1 (g : Bd → Int) : List (Int × Bd) → Int
  | [] => 0
  | p :: t => p.1 * g p.2 + sum1 g t
theorem sum1_append (g : Bd → Int) : ∀ a b, sum1 g (a ++ b) = sum1 g a + sum1 g b
  | [], b => by simp [sum1]
  | p :: t, b => by rw [List.cons_append, sum1, sum1, sum1_append g t b]; omega
theorem sum1_reverse (g : Bd → Int) : ∀ a, sum1 g a.reverse = sum1 g a
  | [] => rfl
  | p :: t => by rw [List.reverse_cons, sum1_append, sum1_reverse g t, sum1, sum1, sum1]; omega
theorem fold_eq (of : Bd → I3) : ∀ (zs : List (Int × Bd)) (s : I3), zs.foldl (accF of) (wrapS .i64 s.1, wrapS .i64 s.2.1, wrapS .i64 s.2.2)
    = (wrapS .i64 (s.1 + sum1 (fun b => (of b).1) zs), wrapS .i64 (s.2.1 + sum1 (fun b => (of b).2.1) zs), wrapS .i64 (s.2.2 + sum1 (fun b => (of b).2.2) zs))
  | [], s => by simp only [List.foldl_nil, sum1, Int.add_zero]
  | p :: t, s => by
    have key : ∀ a m : Int, wrapS .i64 (wrapS .i64 a + wrapS .i64 m) = wrapS .i64 (a + m) := fun a m => wr_eq (by
      have h1 := wr_dvd a
      have h2 := wr_dvd m
      omega)
    rw [List.foldl_cons]
    show t.foldl (accF of) (wrapS .i64 (wrapS .i64 s.1 + wrapS .i64 (p.1 * (of p.2).1)), wrapS .i64 (wrapS .i64 s.2.1 + wrapS .i64 (p.1 * (of p.2).2.1)), wrapS .i64 (wrapS .i64 s.2.2 + wrapS .i64 (p.1 * (of p.2).2.2))) = _
    rw [key, key, key, fold_eq of t (s.1 + p.1 * (of p.2).1, s.2.1 + p.1 * (of p.2).2.1, s.2.2 + p.1 * (of p.2).2.2)]
    simp only [sum1, Int.add_assoc]
theorem sumF_eq (of : Bd → I3) (l : List Int) (bl : List Bd) : sumF of l bl = (wrapS .i64 (sum1 (fun b => (of b).1) (l.zip bl)), wrapS .i64 (sum1 (fun b => (of b).2.1) (l.zip bl)), wrapS .i64 (sum1 (fun b => (of b).2.2) (l.zip bl))) := by
  have := fold_eq of (l.zip bl) (0, 0, 0)
  rw [Int.zero_add, Int.zero_add, Int.zero_add] at this
  exact this
theorem sumF_rev (of : Bd → I3) {l : List Int} {bl : List Bd} (h : l.length = bl.length) : sumF of l.reverse bl.reverse = sumF of l bl := by
  have e : l.reverse.zip bl.reverse = (l.zip bl).reverse := by
    show List.zipWith Prod.mk l.reverse bl.reverse = (List.zipWith Prod.mk l bl).reverse
    rw [List.reverse_zipWith h]
  rw [sumF_eq, sumF_eq, e, sum1_reverse, sum1_reverse, sum1_reverse]
theorem sum1_opp {g : Bd → Int} {f : Bd → Bd} : ∀ (l : List Int) (bl : List Bd), (∀ b ∈ bl, (18446744073709551616 : Int) ∣ g (f b) + g b) → (18446744073709551616 : Int) ∣ sum1 g (l.zip (bl.map f)) + sum1 g (l.zip bl)
  | [], bl, h => by simp [sum1]
  | m :: l, [], h => by simp [sum1]
  | m :: l, b :: bl, h => by
    have ih := sum1_opp l bl fun b hb => h b (List.mem_cons_of_mem _ hb)
    have h1 := Int.dvd_trans (h b List.mem_cons_self) (Int.dvd_mul_left m _)
    rw [List.map_cons, List.zip_cons_cons, List.zip_cons_cons, sum1, sum1]
    show _ ∣ m * g (f b) + sum1 g (l.zip (bl.map f)) + (m * g b + sum1 g (l.zip bl))
    rw [Int.mul_add] at h1
    omega
theorem opp_eq {a b : Int} (h : (18446744073709551616 : Int) ∣ a + b) : wrapS .i64 (0 - wrapS .i64 a) = wrapS .i64 b := wr_eq (by
  have := wr_dvd a
  omega)
/-- both momenta turned about -/
theorem sumF_opp (of : Bd → I3) {l : List Int} {bl : List Bd} (h : ∀ b ∈ bl, (18446744073709551616 : Int) ∣ (of (negB b)).1 + (of b).1 ∧ (18446744073709551616 : Int) ∣ (of (negB b)).2.1 + (of b).2.1 ∧ (18446744073709551616 : Int) ∣ (of (negB b)).2.2 + (of b).2.2) :
    wrapS .i64 (0 - (sumF of l (bl.map negB)).1) = (sumF of l bl).1 ∧ wrapS .i64 (0 - (sumF of l (bl.map negB)).2.1) = (sumF of l bl).2.1 ∧ wrapS .i64 (0 - (sumF of l (bl.map negB)).2.2) = (sumF of l bl).2.2 := by
  rw [sumF_eq, sumF_eq]
  exact ⟨opp_eq (sum1_opp (g := fun b => (of b).1) l bl fun b hb => (h b hb).1), opp_eq (sum1_opp (g := fun b => (of b).2.1) l bl fun b hb => (h b hb).2.1), opp_eq (sum1_opp (g := fun b => (of b).2.2) l bl fun b hb => (h b hb).2.2)⟩
theorem neg_dvd (x : Int) : (18446744073709551616 : Int) ∣ wrapS .i64 (0 - x) + x := by
  have := wr_dvd (0 - x)
  omega
def inB (n x : Int) : Prop := -n ≤ x ∧ x ≤ n
theorem good_body {b : Bd} (h : badB 1048576 65536 b = false) : (inB 1048576 b.a ∧ inB 1048576 b.b ∧ inB 1048576 b.c) ∧ inB 65536 b.x ∧ inB 65536 b.y ∧ inB 65536 b.z := by
  unfold badB vwin3 at h
  rw [vwin_c (by decide) (by decide), vwin_c (by decide) (by decide), vwin_c (by decide) (by decide), vwin_c (by decide) (by decide), vwin_c (by decide) (by decide), vwin_c (by decide) (by decide)] at h
  simp only [Bool.or_eq_false_iff, Bool.not_eq_false', Bool.and_eq_true, decide_eq_true_eq] at h
  unfold inB
  omega
theorem body_good {b : Bd} (h : (inB 1048576 b.a ∧ inB 1048576 b.b ∧ inB 1048576 b.c) ∧ inB 65536 b.x ∧ inB 65536 b.y ∧ inB 65536 b.z) : badB 1048576 65536 b = false := by
  unfold badB vwin3
  rw [vwin_c (by decide) (by decide), vwin_c (by decide) (by decide), vwin_c (by decide) (by decide), vwin_c (by decide) (by decide), vwin_c (by decide) (by decide), vwin_c (by decide) (by decide)]
  simp only [Bool.or_eq_false_iff, Bool.not_eq_false', Bool.and_eq_true, decide_eq_true_eq]
  unfold inB at h
  omega
theorem neg_c {n x : Int} (h : inB n x) (hn : n ≤ 1000000000000) : wrapS .i64 (0 - x) = -x := by
  unfold inB at h
  rw [wrapI (by omega) (by omega)]; omega
theorem okc_in {x : Int} (h : inB 1048576 x) : okc x = true := by
  unfold inB at h
  unfold okc
  rw [decide_eq_false (by omega), decide_eq_false (by omega)]; rfl
theorem inB_le {n m x : Int} (h : inB n x) (hm : n ≤ m) : inB m x := by unfold inB at *; omega
theorem inB_neg {n x : Int} (h : inB n x) : inB n (-x) := by unfold inB at *; omega
theorem fits_bodies {l : List Int} {g b tp nr me step : Int} {bl : List Bd} (h : fitsF l g b tp nr me step bl = true) : (inB 1073741824 step) ∧ ∀ b ∈ bl, badB 1048576 65536 b = false := by
  unfold fitsF okState at h
  simp only [Bool.and_eq_true, decide_eq_true_eq, Bool.not_eq_true'] at h
  refine ⟨⟨by omega, by omega⟩, fun b hb => ?_⟩
  have := h.2.2.2.2.2.2
  rw [List.any_eq_false] at this
  simpa using this b hb
theorem fits_mk {l l' : List Int} {g b tp nr me step step' : Int} {bl bl' : List Bd} (h : fitsF l g b tp nr me step bl = true) (h1 : l'.length = l.length) (h2 : bl'.length = bl.length) (h3 : l'.any badM = l.any badM) (h4 : inB 1073741824 step') (h5 : ∀ b ∈ bl', badB 1048576 65536 b = false) :
    fitsF l' g b tp nr me step' bl' = true := by
  unfold fitsF okConf okState at *
  rw [h1, h2, h3]
  simp only [Bool.and_eq_true, decide_eq_true_eq, Bool.not_eq_true'] at *
  refine ⟨h.1, h.2.1, h4.1, h4.2, h.2.2.2.2.1, h.2.2.2.2.2.1, ?_⟩
  rw [List.any_eq_false]
  intro x hx
  rw [h5 x hx]; decide
theorem fits_neg {l : List Int} {g b tp nr me step : Int} {bl : List Bd} (h : fitsF l g b tp nr me step bl = true) : fitsF l g b tp nr me (wrapS .i64 (0 - step)) (bl.map negB) = true := by
  obtain ⟨h1, h2⟩ := fits_bodies h
  refine fits_mk h rfl (List.length_map _) rfl ?_ fun b hb => ?_
  · rw [neg_c h1 (by decide)]
    exact inB_neg h1
  · obtain ⟨b, hb', rfl⟩ := List.mem_map.1 hb
    obtain ⟨k1, k2, k3, k4⟩ := good_body (h2 b hb')
    refine body_good ⟨k1, ?_, ?_, ?_⟩
    · show inB 65536 (wrapS .i64 (0 - b.x))
      rw [neg_c k2 (by decide)]
      exact inB_neg k2
    · show inB 65536 (wrapS .i64 (0 - b.y))
      rw [neg_c k3 (by decide)]
      exact inB_neg k3
    · show inB 65536 (wrapS .i64 (0 - b.z))
      rw [neg_c k4 (by decide)]
      exact inB_neg k4
theorem fits_rev {l : List Int} {g b tp nr me step : Int} {bl : List Bd} (h : fitsF l g b tp nr me step bl = true) : fitsF l.reverse g b tp nr me step bl.reverse = true := by
  obtain ⟨h1, h2⟩ := fits_bodies h
  exact fits_mk h (by simp) (by simp) (by simp) h1 fun b hb => h2 b (List.mem_reverse.1 hb)
theorem P_opp (l : List Int) (bl : List Bd) : wrapS .i64 (0 - (sumF ofV l (bl.map negB)).1) = (sumF ofV l bl).1 ∧ wrapS .i64 (0 - (sumF ofV l (bl.map negB)).2.1) = (sumF ofV l bl).2.1 ∧ wrapS .i64 (0 - (sumF ofV l (bl.map negB)).2.2) = (sumF ofV l bl).2.2 :=
  sumF_opp ofV fun b _ => ⟨neg_dvd _, neg_dvd _, neg_dvd _⟩
theorem cr_opp (a b x y : Int) : (18446744073709551616 : Int) ∣ cr a b (-x) (-y) + cr a b x y := by
  unfold cr
  have h1 := wr_dvd (wrapS .i64 (a * -y) - wrapS .i64 (b * -x))
  have h2 := wr_dvd (wrapS .i64 (a * y) - wrapS .i64 (b * x))
  have h3 := wr_dvd (a * -y)
  have h4 := wr_dvd (b * -x)
  have h5 := wr_dvd (a * y)
  have h6 := wr_dvd (b * x)
  rw [Int.mul_neg] at h1 h3
  rw [Int.mul_neg] at h1 h4
  rw [Int.mul_neg, Int.mul_neg]
  omega
theorem L_opp {l : List Int} {g b tp nr me step : Int} {bl : List Bd} (h : fitsF l g b tp nr me step bl = true) : wrapS .i64 (0 - (sumF ofL l (bl.map negB)).1) = (sumF ofL l bl).1 ∧ wrapS .i64 (0 - (sumF ofL l (bl.map negB)).2.1) = (sumF ofL l bl).2.1 ∧ wrapS .i64 (0 - (sumF ofL l (bl.map negB)).2.2) = (sumF ofL l bl).2.2 := by
  refine sumF_opp ofL fun b hb => ?_
  obtain ⟨⟨k1, k2, k3⟩, k4, k5, k6⟩ := good_body ((fits_bodies h).2 b hb)
  have q : ∀ {x}, inB 65536 x → inB 1048576 x := fun h => inB_le h (by decide)
  have e1 : ok6 b.a b.b b.c b.x b.y b.z = true := by
    unfold ok6
    rw [okc_in k1, okc_in k2, okc_in k3, okc_in (q k4), okc_in (q k5), okc_in (q k6)]; rfl
  have e2 : ok6 b.a b.b b.c (-b.x) (-b.y) (-b.z) = true := by
    unfold ok6
    rw [okc_in k1, okc_in k2, okc_in k3, okc_in (q (inB_neg k4)), okc_in (q (inB_neg k5)), okc_in (q (inB_neg k6))]; rfl
  have e3 : ofL (negB b) = (sel (ok6 b.a b.b b.c (-b.x) (-b.y) (-b.z)) (cr b.b b.c (-b.y) (-b.z)), sel (ok6 b.a b.b b.c (-b.x) (-b.y) (-b.z)) (cr b.c b.a (-b.z) (-b.x)), sel (ok6 b.a b.b b.c (-b.x) (-b.y) (-b.z)) (cr b.a b.b (-b.x) (-b.y))) := by
    rw [← neg_c k4 (by decide), ← neg_c k5 (by decide), ← neg_c k6 (by decide)]
    rfl
  have e4 : ofL b = (cr b.b b.c b.y b.z, cr b.c b.a b.z b.x, cr b.a b.b b.x b.y) := by unfold ofL; rw [e1]; rfl
  rw [e3, e4, e2]
  exact ⟨cr_opp _ _ _ _, cr_opp _ _ _ _, cr_opp _ _ _ _⟩
end Go.Proofs.YtjpjnjidchdlbaaDoor
