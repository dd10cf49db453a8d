import Derived.Test.YtjpjnjidchdlbaaDoorZB
import Derived.Test.YtjpjnjidchdlbaaDoorMomX
import Derived.Test.YtjpjnjidchdlbaaDoorZA
/-
  Sub; the pulls turned about (no condition).
-/
namespace Go.Proofs.YtjpjnjidchdlbaaDoor
set_option linter.unusedSimpArgs false
set_option linter.unusedVariables false
open Go
set_option maxRecDepth 100000
set_option maxHeartbeats 4000000
theorem has82 : Has Tryd.prog 82 Tryd.f82 := ⟨Tryd.func82, by kernel_rfl, by kernel_rfl⟩

theorem btw_neg (x : Int) {n : Int} : btw (-x) (-n) n = btw x (-n) n := by
  unfold btw
  by_cases h1 : x ≥ -n <;> by_cases h2 : x ≤ n
  · rw [decide_eq_true (by omega : -x ≥ -n), decide_eq_true h1]; show decide (-x ≤ n) = decide (x ≤ n); rw [decide_eq_true h2, decide_eq_true (by omega)]
  · rw [decide_eq_false (by omega : ¬ -x ≥ -n), decide_eq_true h1]; show false = decide (x ≤ n); rw [decide_eq_false h2]
  · rw [decide_eq_true (by omega : -x ≥ -n), decide_eq_false h1]; show decide (-x ≤ n) = false; rw [decide_eq_false (by omega)]
  · rw [decide_eq_false (by omega : ¬ -x ≥ -n), decide_eq_false h1]
theorem sq_neg (x : Int) : -x * -x = x * x := by rw [Int.neg_mul_neg]
theorem may_neg (p0 p1 p2 p3 x p5 : Int) : mayE p0 p1 p2 p3 (-x) p5 = mayE p0 p1 p2 p3 x p5 := by
  have e : mayB p0 p1 p2 p3 (-x) p5 = mayB p0 p1 p2 p3 x p5 := by unfold mayB; rw [btw_neg x (n := 2097152)]
  unfold mayE
  rw [e, sq_neg]
theorem intR_in (a : Nat) : in64 (intR a).1 := by
  unfold intR
  split
  · exact (show in64 0 from ⟨by decide, by decide⟩)
  · show in64 (wrapS .i64 ((wd a 0 : Nat) : Int))
    exact ⟨wrap_lo _, wrap_hi _⟩
theorem half_neg (p0 p1 p2 p3 p5 : Int) {x : Int} (h1 : -9223372036854775808 < x) (h2 : x < 9223372036854775808) : halfI p0 p1 p2 p3 (-x) p5 = halfI p0 p1 p2 p3 x p5 := by
  have e : absN (ofN (-x)) = absN (ofN x) := by rw [of_neg h1 h2, abs_neg (ofN_lt h2)]
  have k := sq_pm (P := mulN (mulN (mulN (mulN 1 (ofN 2)) (ofN p0)) (ofN p2)) (ofN p3)) e
  unfold halfI
  rw [show mulN (prodN [2, p0, p2, p3, -x]) (prodN [2, p0, p2, p3, -x]) = mulN (prodN [2, p0, p2, p3, x]) (prodN [2, p0, p2, p3, x]) from k]
theorem half_none (p0 p1 p2 p3 p5 x : Int) (h : p0 = 0 ∨ x = 0) : halfI p0 p1 p2 p3 x p5 = 0 := by
  have e : prodN [2, p0, p2, p3, x] = 0 := by
    show mulN (mulN (mulN (mulN (mulN 1 (ofN 2)) (ofN p0)) (ofN p2)) (ofN p3)) (ofN x) = 0
    rcases h with h | h
    · rw [h, of_zero, mul_zr, mul_zl, mul_zl, mul_zl]
    · rw [h, of_zero, mul_zr]
  unfold halfI
  rw [e, mul_zl, half_zero (prodN_lt _ _ _ _ _)]
  exact int_zero
theorem wrap_back {n : Int} (h : in64 n) : wrapS .i64 (0 - wrapS .i64 (0 - n)) = n := by
  obtain ⟨h1, h2⟩ := h
  rw [wrapS_eq, wrapS_eq]; simp [IntKind.wrap, IntKind.signed, IntKind.bits]; omega
theorem sgn_none {p0 x : Int} (h : p0 = 0 ∨ x = 0) : sgnB p0 x = false := by
  unfold sgnB
  rcases h with rfl | rfl
  · rfl
  · by_cases h1 : p0 < 0
    · rw [decide_eq_true h1, decide_eq_false (by omega : ¬ p0 > 0)]; rfl
    · rw [decide_eq_false h1]
      by_cases h2 : p0 > 0
      · rw [decide_eq_true h2]; rfl
      · rw [decide_eq_false h2]
theorem sgn_neg {p0 x : Int} (h0 : p0 ≠ 0) (hx : x ≠ 0) : sgnB p0 (-x) = !(sgnB p0 x) := by
  unfold sgnB
  rcases Int.lt_or_gt_of_ne h0 with h | h <;> rcases Int.lt_or_gt_of_ne hx with h' | h'
  · rw [decide_eq_true h, decide_eq_false (by omega : ¬ p0 > 0), decide_eq_true (by omega : -x > 0), decide_eq_false (by omega : ¬ x > 0)]; rfl
  · rw [decide_eq_true h, decide_eq_false (by omega : ¬ p0 > 0), decide_eq_false (by omega : ¬ -x > 0), decide_eq_true (by omega : x > 0)]; rfl
  · rw [decide_eq_false (by omega : ¬ p0 < 0), decide_eq_true h, decide_eq_false (by omega : ¬ -x < 0), decide_eq_true h']; rfl
  · rw [decide_eq_false (by omega : ¬ p0 < 0), decide_eq_true h, decide_eq_true (by omega : -x < 0), decide_eq_false (by omega : ¬ x < 0)]; rfl
/-- the pull along one way, turned about -/
theorem one_odd (p0 p1 p2 p3 p5 : Int) {x : Int} (h1 : -9223372036854775808 < x) (h2 : x < 9223372036854775808) :
    oneN p0 p1 p2 p3 (-x) p5 = (wrapS .i64 (0 - (oneN p0 p1 p2 p3 x p5).1), (oneN p0 p1 p2 p3 x p5).2) := by
  have hi : in64 (halfI p0 p1 p2 p3 x p5) := intR_in _
  unfold oneN
  rw [may_neg, half_neg p0 p1 p2 p3 p5 h1 h2]
  cases hm : !((mayE p0 p1 p2 p3 x p5) == 0) with
  | true => rfl
  | false =>
    by_cases hz : p0 = 0 ∨ x = 0
    · have hz' : p0 = 0 ∨ -x = 0 := by omega
      rw [sgn_none hz, sgn_none hz', half_none p0 p1 p2 p3 p5 x hz]
      rfl
    · rw [sgn_neg (by omega) (by omega)]
      cases sgnB p0 x with
      | true =>
        show (halfI p0 p1 p2 p3 x p5, (0 : Int)) = (wrapS .i64 (0 - wrapS .i64 (0 - halfI p0 p1 p2 p3 x p5)), 0)
        rw [wrap_back hi]
      | false => rfl
theorem sqV_neg (x y z : Int) : sqV (-x) (-y) (-z) = sqV x y z := by
  have e : sqE (-x) (-y) (-z) = sqE x y z := by
    unfold sqE
    rw [btw_neg x (n := 2097152), btw_neg y (n := 2097152), btw_neg z (n := 2097152)]
  unfold sqV
  rw [e, sq_neg, sq_neg, sq_neg]
/-- below the farthest that two bodies lie apart -/
def low62 (x : Int) : Prop := -9223372036854775808 < x ∧ x < 9223372036854775808
theorem pull_odd (p0 p1 p2 p3 : Int) {x y z : Int} (hx : low62 x) (hy : low62 y) (hz : low62 z) :
    pullN p0 p1 p2 p3 (-x) (-y) (-z) = ((wrapS .i64 (0 - (pullN p0 p1 p2 p3 x y z).1.1), wrapS .i64 (0 - (pullN p0 p1 p2 p3 x y z).1.2.1), wrapS .i64 (0 - (pullN p0 p1 p2 p3 x y z).1.2.2)), (pullN p0 p1 p2 p3 x y z).2) := by
  unfold pullN
  rw [sqV_neg, one_odd p0 p1 p2 p3 _ hx.1 hx.2, one_odd p0 p1 p2 p3 _ hy.1 hy.2, one_odd p0 p1 p2 p3 _ hz.1 hz.2]
  cases !((sqV x y z).2 == 0) with
  | true => rfl
  | false =>
    show (match !((oneN p0 p1 p2 p3 x (sqV x y z).1).2 == 0) with | true => _ | false => _) = _
    cases !((oneN p0 p1 p2 p3 x (sqV x y z).1).2 == 0) with
    | true => rfl
    | false =>
      show (match !((oneN p0 p1 p2 p3 y (sqV x y z).1).2 == 0) with | true => _ | false => _) = _
      cases !((oneN p0 p1 p2 p3 y (sqV x y z).1).2 == 0) with
      | true => rfl
      | false =>
        show (match !((oneN p0 p1 p2 p3 z (sqV x y z).1).2 == 0) with | true => _ | false => _) = _
        cases !((oneN p0 p1 p2 p3 z (sqV x y z).1).2 == 0) with
        | true => rfl
        | false => rfl
/-- one body's place less another's, by one way -/
def subK (a b c x y z : Int) : Bool := ok6 a b c x y z && okS (wrapS .i64 (a - x)) (wrapS .i64 (b - y)) (wrapS .i64 (c - z))
theorem RSub_c (G) (a b c x y z : Int) : AC Tryd.prog G 82 [V3 a b c, V3 x y z] [] (fun v h => v = .tuple #[V3 (sel (subK a b c x y z) (wrapS .i64 (a - x))) (sel (subK a b c x y z) (wrapS .i64 (b - y))) (sel (subK a b c x y z) (wrapS .i64 (c - z))), I64 (err (subK a b c x y z))] ∧ h = []) := by
  refine ac_of_body tabOk has82 ?_
  unfold BodyOk
  conv => whnf
  refine ad_fresh [1025] tabOk (by kernel_rfl) [(0, false), (1, false), (2, false), (3, false), (4, false), (5, false), (6, false), (7, false), (8, false), (9, false), (10, false), (11, false), (12, false), (13, false), (14, false), (15, false), (16, false), (17, false), (18, false), (19, false), (20, false), (21, false), (22, false), (23, true), (24, true)] (by kernel_rfl) ?_
  conv => whnf
  refine ac_read [3] (RFine2 G a b c x y z) rfl rfl ⟨⟨by decide, rfl, _, rfl⟩, trivial⟩ ?_
  rintro v h' ⟨rfl, rfl⟩
  refine ⟨rfl, rfl, ?_⟩
  conv => whnf
  refine ⟨rfl, rfl, ?_⟩
  conv => whnf
  refine quiet_of (Rtold_c G (wrapS .i64 (a - x)) (wrapS .i64 (b - y)) (wrapS .i64 (c - z)) (ok6 a b c x y z)) rfl ?_
  rintro v h' ⟨rfl, rfl⟩
  refine ⟨rfl, rfl, ?_⟩
  conv => whnf
  refine ⟨rfl, fin_turnedK rfl ?_⟩
  conv => whnf
  exact ⟨rfl, rfl⟩
end Go.Proofs.YtjpjnjidchdlbaaDoor

/-
  The pulls on one body (no condition).
-/
namespace Go.Proofs.YtjpjnjidchdlbaaDoor
set_option linter.unusedSimpArgs false
set_option linter.unusedVariables false
open Go
set_option maxRecDepth 100000
set_option maxHeartbeats 4000000
theorem has38 : Has Tryd.prog 38 Tryd.f38 := ⟨Tryd.func38, by kernel_rfl, by kernel_rfl⟩
theorem has81 : Has Tryd.prog 81 Tryd.f81 := ⟨Tryd.func81, by kernel_rfl, by kernel_rfl⟩
theorem has73 : Has Tryd.prog 73 Tryd.f73 := ⟨Tryd.func73, by kernel_rfl, by kernel_rfl⟩

def partB (n d : Int) : Bool := match (match (match decide (n ≥ -2097152) with | true => decide (n ≤ 2097152) | false => false) with | true => decide (d ≥ 1) | false => false) with
  | true => decide (d ≤ 2097152)
  | false => false
theorem part_in {n d : Int} (h : partB n d = true) : in64 n ∧ 1 ≤ d ∧ d ≤ 2097152 ∧ -2097152 ≤ n ∧ n ≤ 2097152 := by
  unfold partB at h
  by_cases h1 : n ≥ -2097152
  · rw [decide_eq_true h1] at h
    by_cases h2 : n ≤ 2097152
    · rw [decide_eq_true h2] at h
      by_cases h3 : d ≥ 1
      · rw [decide_eq_true h3] at h
        have h4 : d ≤ 2097152 := of_decide_eq_true h
        exact ⟨⟨by omega, by omega⟩, by omega, h4, by omega, by omega⟩
      · rw [decide_eq_false h3] at h; cases h
    · rw [decide_eq_false h2] at h; cases h
  · rw [decide_eq_false h1] at h; cases h
theorem part38_n (G) (n d : Int) : AC Tryd.prog G 38 [I64 n, I64 d] [] (fun v h => v = .bool (partB n d) ∧ h = []) := by
  refine ac_of_body tabOk has38 ?_
  unfold BodyOk
  conv => whnf
  refine ways (fun h1 => ?_) (fun h1 => ?_) <;> conv => whnf
  rotate_left
  · skip
    refine ⟨rfl, fin_turnedK rfl ?_⟩
    conv => whnf
    exact ⟨by unfold partB; rw [show decide (n ≥ -2097152) = false from h1] <;> rfl, rfl⟩
  refine ways (fun h2 => ?_) (fun h2 => ?_) <;> conv => whnf
  rotate_left
  · skip
    refine ⟨rfl, fin_turnedK rfl ?_⟩
    conv => whnf
    exact ⟨by unfold partB; rw [show decide (n ≥ -2097152) = true from h1]; rw [show decide (n ≤ 2097152) = false from h2] <;> rfl, rfl⟩
  refine ways (fun h3 => ?_) (fun h3 => ?_) <;> conv => whnf
  rotate_left
  · skip
    refine ⟨rfl, fin_turnedK rfl ?_⟩
    conv => whnf
    exact ⟨by unfold partB; rw [show decide (n ≥ -2097152) = true from h1]; rw [show decide (n ≤ 2097152) = true from h2]; rw [show decide (d ≥ 1) = false from h3] <;> rfl, rfl⟩
  refine ⟨rfl, fin_turnedK rfl ?_⟩
  conv => whnf
  exact ⟨by unfold partB; rw [show decide (n ≥ -2097152) = true from h1]; rw [show decide (n ≤ 2097152) = true from h2]; rw [show decide (d ≥ 1) = true from h3], rfl⟩
theorem part81_n (G) (n d : Int) : AC Tryd.prog G 81 [I64 n, I64 d] [] (fun v h => v = .bool (partB n d) ∧ h = []) := by
  refine ac_of_body tabOk has81 ?_
  unfold BodyOk
  conv => whnf
  refine ways (fun h1 => ?_) (fun h1 => ?_) <;> conv => whnf
  rotate_left
  · skip
    refine ⟨rfl, fin_turnedK rfl ?_⟩
    conv => whnf
    exact ⟨by unfold partB; rw [show decide (n ≥ -2097152) = false from h1] <;> rfl, rfl⟩
  refine ways (fun h2 => ?_) (fun h2 => ?_) <;> conv => whnf
  rotate_left
  · skip
    refine ⟨rfl, fin_turnedK rfl ?_⟩
    conv => whnf
    exact ⟨by unfold partB; rw [show decide (n ≥ -2097152) = true from h1]; rw [show decide (n ≤ 2097152) = false from h2] <;> rfl, rfl⟩
  refine ways (fun h3 => ?_) (fun h3 => ?_) <;> conv => whnf
  rotate_left
  · skip
    refine ⟨rfl, fin_turnedK rfl ?_⟩
    conv => whnf
    exact ⟨by unfold partB; rw [show decide (n ≥ -2097152) = true from h1]; rw [show decide (n ≤ 2097152) = true from h2]; rw [show decide (d ≥ 1) = false from h3] <;> rfl, rfl⟩
  refine ⟨rfl, fin_turnedK rfl ?_⟩
  conv => whnf
  exact ⟨by unfold partB; rw [show decide (n ≥ -2097152) = true from h1]; rw [show decide (n ≤ 2097152) = true from h2]; rw [show decide (d ≥ 1) = true from h3], rfl⟩
/-- the pull of one body on another, as it is asked for -/
def pullB (g n d m : Int) (b me : Bd) : (Int × Int × Int) × Int :=
  pullN n d g m (sel (subK b.a b.b b.c me.a me.b me.c) (wrapS .i64 (b.a - me.a))) (sel (subK b.a b.b b.c me.a me.b me.c) (wrapS .i64 (b.b - me.b))) (sel (subK b.a b.b b.c me.a me.b me.c) (wrapS .i64 (b.c - me.c)))
def add3 (s t : Int × Int × Int) : Int × Int × Int := (wrapS .i64 (s.1 + t.1), wrapS .i64 (s.2.1 + t.2.1), wrapS .i64 (s.2.2 + t.2.2))
/-- all pulls on body i from body j on -/
def kR (g n d : Int) (i : Nat) (me : Bd) : Nat → List (Int × Bd) → Int × Int × Int → (Int × Int × Int) × Int
  | _, [], s => (s, 0)
  | j, x :: r, s => match (((j : Nat) : Int) == ((i : Nat) : Int)) with
    | true => kR g n d i me (j + 1) r s
    | false => match !((pullB g n d x.1 x.2 me).2 == 0) with
      | true => ((0, 0, 0), (pullB g n d x.1 x.2 me).2)
      | false => kR g n d i me (j + 1) r (add3 s (pullB g n d x.1 x.2 me).1)
def kickR (g n d : Int) (l : List Int) (bl : List Bd) (i : Nat) (me : Bd) : (Int × Int × Int) × Int := kR g n d i me 0 (l.zip bl) (0, 0, 0)
theorem sel_in (k : Bool) (x : Int) : in64 (sel k (wrapS .i64 x)) := by
  cases k with
  | true => exact ⟨wrap_lo _, wrap_hi _⟩
  | false => exact (show in64 0 from ⟨by decide, by decide⟩)
theorem zip_drop {l : List Int} {bl : List Bd} {j : Nat} {m : Int} {b : Bd} (h1 : l[j]? = some m) (h2 : bl[j]? = some b) : (l.zip bl).drop j = (m, b) :: (l.zip bl).drop (j + 1) := by
  have e : (l.zip bl)[j]? = some (m, b) := by rw [List.getElem?_zip_eq_some]; exact ⟨h1, h2⟩
  have hj : j < (l.zip bl).length := (List.getElem?_eq_some_iff.1 e).1
  rw [List.drop_eq_getElem_cons hj, (List.getElem?_eq_some_iff.1 e).2]
theorem One16_r (tt : TypeId) (c0 : Array Value) (t0 : TypeId) (off cap : Nat) (l : List Int) (hw : WinI c0 off l) (hcap : l.length ≤ cap) (c1 : Array Value) (t1 : TypeId) (off1 cap1 : Nat) (bl : List Bd) (hw1 : WinB c1 off1 bl) (hcap1 : bl.length ≤ cap1) (g b tp nr me step n d : Int) (hfit : fitsF l g b tp nr me step bl = true) (hpart : partB n d = true) {i : Nat} {bi : Bd} (hi : bl[i]? = some bi) :
    AC Tryd.prog (GM tt) 73 [.agg (confC (slc 0 off l.length cap) g b tp nr me), .agg #[I64 step, (slc 1 off1 bl.length cap1)], I64 n, I64 d, I64 (i : Int)] [.pending c0 t0, .pending c1 t1] (fun v h => v = .tuple #[V3 (kickR g n d l bl i bi).1.1 (kickR g n d l bl i bi).1.2.1 (kickR g n d l bl i bi).1.2.2, I64 (kickR g n d l bl i bi).2] ∧ h = [.pending c0 t0, .pending c1 t1]) := by
  obtain ⟨hlen, hl4⟩ := fits_len hfit
  obtain ⟨hn, hd1, hd2, _, _⟩ := part_in hpart
  have hd : in64 d := ⟨by omega, by omega⟩
  have hib : i < bl.length := (List.getElem?_eq_some_iff.1 hi).1
  have hokc : okConf (l.length : Int) l g b tp nr me = true := by
    unfold fitsF at hfit
    simp only [Bool.and_eq_true] at hfit
    exact hfit.2.1
  have hg : in64 g ∧ ∀ m ∈ l, in64 m := by
    unfold okConf win at hokc
    simp only [Bool.and_eq_true, decide_eq_true_eq, Bool.not_eq_true', List.any_eq_false] at hokc
    refine ⟨⟨by omega, by omega⟩, fun m hm => ?_⟩
    have := hokc.2.1 m hm
    unfold badM win at this
    simp only [Bool.not_eq_true, Bool.not_eq_false', Bool.and_eq_true, decide_eq_true_eq] at this
    exact ⟨by omega, by omega⟩
  refine ac_of_body tabOk has73 ?_
  unfold BodyOk
  conv => whnf
  refine ac_mono (RFitsU_s tt (l := l) (bl := bl) (h := [.pending c0 t0, .pending c1 t1, .cells (confC (slc 0 off l.length cap) g b tp nr me) 39, .cells #[I64 step, (slc 1 off1 bl.length cap1)] 42, .cells #[I64 0, I64 0, I64 0] 59]) (.inr ⟨0, off, cap, c0, t0, rfl, .inl rfl, hw, hcap⟩) (.inr ⟨1, off1, cap1, c1, t1, rfl, .inl rfl, hw1, hcap1⟩) g b tp nr me step) ?_
  rintro v h' ⟨rfl, rfl⟩
  conv => whnf
  rw [hfit]
  conv => whnf
  refine way0 (show decide ((i : Int) ≥ (bl.length : Int)) = false from decide_eq_false (by omega)) ?_
  conv => whnf
  refine ac_pure (part81_n (GM tt) n d) rfl ?_
  rintro v h' ⟨rfl, rfl⟩
  refine ⟨rfl, rfl, ?_⟩
  conv => whnf
  rw [hpart]
  conv => whnf
  refine aw_invT tabOk [[false, false, true, true, true, true, true, false, false, false, true, false, true, true, false, false], [false, false, false, false, false, false, false, false, false, false, false, false, false, false, false, false], [false, false, false, false, false, false, false, false, false, false, false, false, false, false, false, false], [false, false, false, false, false, false, false, false, false, false, false, false, false, false, false, false], [false, false, false, false, false, false, false, false, false, false, false, false, false, false, false, false], [false, false, false, false, false, false, false, false, false, false, false, false, false, false, false, false], [false, false, false]] (fun m s' => ∃ (j : Nat) (s : Int × Int × Int), m = bl.length - j ∧ j ≤ bl.length ∧ kR g n d i bi j ((l.zip bl).drop j) s = kickR g n d l bl i bi ∧
    s' = ⟨[[.chan none, .chan none, I64 n, I64 d, I64 (i : Int), ptr 2 0, ptr 3 0, .chan none, .chan none, .chan none, ptr 4 0, .chan none, ptr 5 0, I64 (j : Int), .chan none, .chan none],
      [.chan none, .chan none, .chan none, .chan none, .chan none, .chan none, .chan none, .chan none, .chan none, .chan none, .chan none, .chan none, .chan none, .chan none, .chan none, .chan none],
      [.chan none, .chan none, .chan none, .chan none, .chan none, .chan none, .chan none, .chan none, .chan none, .chan none, .chan none, .chan none, .chan none, .chan none, .chan none, .chan none],
      [.chan none, .chan none, .chan none, .chan none, .chan none, .chan none, .chan none, .chan none, .chan none, .chan none, .chan none, .chan none, .chan none, .chan none, .chan none, .chan none],
      [.chan none, .chan none, .chan none, .chan none, .chan none, .chan none, .chan none, .chan none, .chan none, .chan none, .chan none, .chan none, .chan none, .chan none, .chan none, .chan none],
      [.chan none, .chan none, .chan none, .chan none, .chan none, .chan none, .chan none, .chan none, .chan none, .chan none, .chan none, .chan none, .chan none, .chan none, .chan none, .chan none],
      [.chan none, .chan none, .chan none]],
      [.pending c0 t0, .pending c1 t1, .cells (confC (slc 0 off l.length cap) g b tp nr me) 39, .cells #[I64 step, (slc 1 off1 bl.length cap1)] 42, .cells #[I64 0, I64 0, I64 0] 59, .cells #[I64 s.1, I64 s.2.1, I64 s.2.2] 59], []⟩) bl.length ?_ ⟨0, (0, 0, 0), rfl, Nat.zero_le _, rfl, rfl⟩
  rintro m s' ⟨j, s, rfl, hj, hk, rfl⟩
  conv => whnf
  refine ways (fun h1 => ?_) (fun h1 => ?_) <;> conv => whnf
  · have hjb : j < bl.length := by have := of_decide_eq_true h1; omega
    obtain ⟨bj, hbj⟩ : ∃ x, bl[j]? = some x := ⟨_, List.getElem?_eq_getElem hjb⟩
    obtain ⟨mj, hmj⟩ : ∃ x, l[j]? = some x := ⟨_, List.getElem?_eq_getElem (by omega)⟩
    have hmi : in64 mj := hg.2 mj (List.mem_of_getElem? hmj)
    rw [zip_drop hmj hbj] at hk
    have hk' := hk
    unfold kR at hk'
    refine ways (fun h2 => ?_) (fun h2 => ?_) <;> conv => whnf
    · rw [show wrapS .i64 ((j : Int) + 1) = ((j + 1 : Nat) : Int) from by rw [wrapI (by omega) (by omega)]; omega]
      refine ⟨rfl, rfl, rfl, rfl, bl.length - (j + 1), by omega, j + 1, s, rfl, by omega, ?_, rfl⟩
      rw [show (((j : Nat) : Int) == ((i : Nat) : Int)) = true from h2] at hk'
      exact hk'
    rw [show (((j : Nat) : Int) == ((i : Nat) : Int)) = false from h2] at hk'
    refine ad_of tabOk (by kernel_rfl) [(16, false), (0, false), (1, false), (2, false), (3, false), (4, false), (5, false), (6, false), (7, false), (8, false), (9, false), (10, false), (11, false), (12, false), (13, false), (14, false), (15, false), (17, false), (18, false)] (by kernel_rfl) ?_
    conv => whnf
    refine way1 (by rw [decide_eq_true_iff]; omega) ?_
    conv => whnf
    refine cells_part (xs := [I64 bj.a, I64 bj.b, I64 bj.c]) (fun q v hq => hw1 _ _ hbj q v (getL (m := [I64 bj.x, I64 bj.y, I64 bj.z]) hq)) rfl (Nat.zero_lt_succ 2) ?_
    conv => whnf
    refine way1 (by rw [decide_eq_true_iff]; omega) ?_
    conv => whnf
    refine cells_part (xs := [I64 bi.a, I64 bi.b, I64 bi.c]) (fun q v hq => hw1 _ _ hi q v (getL (m := [I64 bi.x, I64 bi.y, I64 bi.z]) hq)) rfl (Nat.zero_lt_succ 2) ?_
    conv => whnf
    refine quiet_of (RSub_c (GM tt) bj.a bj.b bj.c bi.a bi.b bi.c) rfl ?_
    rintro v h' ⟨rfl, rfl⟩
    refine ⟨rfl, rfl, ?_⟩
    conv => whnf
    refine ⟨⟨.inl rfl, .inl rfl, .inl rfl, .inl rfl, .inl rfl, .inl rfl, trivial⟩, ?_⟩
    conv => whnf
    refine ad_of tabOk (by kernel_rfl) [(14, false), (0, false), (1, false), (2, false), (3, false), (4, false), (5, false), (6, false), (7, false), (8, false), (9, false), (10, false), (11, false), (12, false), (13, false), (15, false), (16, false)] (by kernel_rfl) ?_
    conv => whnf
    refine way1 (by rw [decide_eq_true_iff]; omega) ?_
    conv => whnf
    refine nthK_of (l := c0.toList) (hw.at hmj) ?_
    conv => whnf
    refine quiet_of (Pull_n (GM tt) hn hd hg.1 hmi (sel_in _ _) (sel_in _ _) (sel_in _ _)) rfl ?_
    rintro v h' ⟨rfl, rfl⟩
    refine ⟨rfl, rfl, ?_⟩
    conv => whnf
    refine ⟨⟨.inl rfl, .inl rfl, .inl rfl, .inl rfl, .inl rfl, .inl rfl, .inl rfl, trivial⟩, ?_⟩
    conv => whnf
    refine ways (fun h3 => ?_) (fun h3 => ?_) <;> conv => whnf
    · skip
      refine ⟨rfl, fin_turnedK rfl ?_⟩
      conv => whnf
      rw [show (!((pullB g n d mj bj bi).2 == 0)) = true from h3] at hk'
      exact ⟨by rw [← hk']; rfl, rfl⟩
    rw [show (!((pullB g n d mj bj bi).2 == 0)) = false from h3] at hk'
    refine aw_rounds tabOk 4 ?_
    conv => whnf
    refine ad_of tabOk (by kernel_rfl) [(0, false), (1, false), (2, false), (3, false), (4, false), (5, false), (6, false), (7, false), (8, false), (9, true)] (by kernel_rfl) ?_
    conv => whnf
    refine ad_of tabOk (by kernel_rfl) [(0, false), (1, false), (2, false), (3, false), (4, false), (5, false), (6, false), (7, false), (8, false), (9, true)] (by kernel_rfl) ?_
    conv => whnf
    refine ad_of tabOk (by kernel_rfl) [(0, false), (1, false), (2, false), (3, false), (4, false), (5, false), (6, false), (7, false), (8, false), (9, true)] (by kernel_rfl) ?_
    conv => whnf
    rw [show wrapS .i64 ((j : Int) + 1) = ((j + 1 : Nat) : Int) from by rw [wrapI (by omega) (by omega)]; omega]
    exact ⟨rfl, rfl, rfl, rfl, bl.length - (j + 1), by omega, j + 1, add3 s (pullB g n d mj bj bi).1, rfl, by omega, hk', rfl⟩
  · skip
    refine ⟨rfl, fin_turnedK rfl ?_⟩
    conv => whnf
    have e : j = bl.length := by have := of_decide_eq_false h1; omega
    rw [List.drop_eq_nil_of_le (by rw [List.length_zip]; omega)] at hk
    exact ⟨by rw [← hk]; rfl, rfl⟩
end Go.Proofs.YtjpjnjidchdlbaaDoor

/-
  The pulls on every body (no condition).
-/
namespace Go.Proofs.YtjpjnjidchdlbaaDoor
set_option linter.unusedSimpArgs false
set_option linter.unusedVariables false
open Go
set_option maxRecDepth 100000
set_option maxHeartbeats 4000000
theorem has62 : Has Tryd.prog 62 Tryd.f62 := ⟨Tryd.func62, by kernel_rfl, by kernel_rfl⟩

theorem One16_s (tt : TypeId) {h : List Obj} {ms bs : Value} {l : List Int} {bl : List Bd} (hs : SlI h ms l) (hb : SlB h bs bl) (g b tp nr me step n d : Int) (hfit : fitsF l g b tp nr me step bl = true) (hpart : partB n d = true) {i : Nat} {bi : Bd} (hi : bl[i]? = some bi) :
    AC Tryd.prog (GM tt) 73 [.agg (confC ms g b tp nr me), .agg #[I64 step, bs], I64 n, I64 d, I64 (i : Int)] h (fun v h' => v = .tuple #[V3 (kickR g n d l bl i bi).1.1 (kickR g n d l bl i bi).1.2.1 (kickR g n d l bl i bi).1.2.2, I64 (kickR g n d l bl i bi).2] ∧ h' = h) := by
  rcases hs with ⟨rfl, rfl⟩ | ⟨m, off, cap, c, t, rfl, h2, h4, h5⟩
  · rw [fits_nil1] at hfit; cases hfit
  · rcases hb with ⟨rfl, rfl⟩ | ⟨m1, off1, cap1, c1, t1, rfl, k2, k4, k5⟩
    · rw [fits_nil2] at hfit; cases hfit
    · refine ac_readF [m, m1] (One16_r tt c t off cap l h4 h5 c1 t1 off1 cap1 bl k4 k5 g b tp nr me step n d hfit hpart hi) (by simp [r3, r2, r1, r0, rA, nu]) rfl (cold_2 h2 k2) ?_
      rintro v h' ⟨rfl, rfl⟩
      exact ⟨rfl, rfl, rfl, rfl⟩
def ofK (s : Int × Int × Int) : Vc := ⟨s.1, s.2.1, s.2.2⟩
/-- the vectors vs lie there -/
def WinT (c : Array Value) (off : Nat) (vs : List Vc) : Prop := ∀ j (v : Vc), vs[j]? = some v → ∀ (q : Nat) (x : Value), (vc v)[q]? = some x → c[off + j * 3 + q]? = some x
/-- a row of vectors, or a number that is not 0 -/
def RowPost (ok : List Vc → Prop) (n m : Nat) (h : List Obj) (v : Value) (h' : List Obj) : Prop :=
  (∃ e : Int, e ≠ 0 ∧ v = .tuple #[.slice none 0 0, I64 e] ∧ h' = h) ∨
  ∃ (vs : List Vc) (c : Array Value) (cp : Nat), ok vs ∧ vs.length = n ∧ v = .tuple #[slc m 0 n cp, I64 0] ∧ h' = h ++ [.cells c 59] ∧ (∀ x ∈ c.toList, cleanV x = true) ∧ WinT c 0 vs ∧ n ≤ cp
def kUp (g n d : Int) (l : List Int) (bl : List Bd) (i : Nat) (vs : List Vc) : Prop := ∀ (j : Nat) (bj : Bd), j < i → bl[j]? = some bj → (kickR g n d l bl j bj).2 = 0 ∧ vs[j]? = some (ofK (kickR g n d l bl j bj).1)
theorem kUp_s {g n d : Int} {l : List Int} {bl : List Bd} {i : Nat} {vs : List Vc} {bi : Bd} (h : kUp g n d l bl i vs) (hl : vs.length = i) (hi : bl[i]? = some bi) (h0 : (kickR g n d l bl i bi).2 = 0) : kUp g n d l bl (i + 1) (vs ++ [ofK (kickR g n d l bl i bi).1]) := by
  intro j bj hj hb
  by_cases h1 : j < i
  · obtain ⟨k1, k2⟩ := h j bj h1 hb
    exact ⟨k1, getL k2⟩
  · obtain rfl : j = i := by omega
    rw [hi] at hb
    cases hb
    refine ⟨h0, ?_⟩
    rw [List.getElem?_append_right (by omega), hl, Nat.sub_self]
    rfl
theorem winT_own {vs : List Vc} {rest : List Value} : WinT ⟨flatBT vs ++ rest⟩ 0 vs := by
  intro i b hb q v hq
  have hq6 : q < 3 := (List.getElem?_eq_some_iff.1 hq).1
  have hi : i < vs.length := (List.getElem?_eq_some_iff.1 hb).1
  show (flatBT vs ++ rest).toArray[0 + i * 3 + q]? = some v
  rw [Nat.zero_add, List.getElem?_toArray, List.getElem?_append_left (by rw [flatBT_len]; omega), flatBT_at vs i q hq6, hb]
  exact hq
theorem AccVT.app {m : Nat} {news : List Obj} {w : Value} {acc : List Vc} (H : AccVT m news w acc) (xs : List Obj) : AccVT m (news ++ xs) w acc := by
  rcases H with H | ⟨q, cp, h0, h1, rest, h2, h3⟩
  · exact .inl H
  · exact .inr ⟨q, cp, h0, h1, rest, by rw [List.getElem?_append_left (List.getElem?_eq_some_iff.1 h2).1]; exact h2, h3⟩
theorem Kicks_r (tt : TypeId) (c0 : Array Value) (t0 : TypeId) (off cap : Nat) (l : List Int) (hw : WinI c0 off l) (hcap : l.length ≤ cap) (c1 : Array Value) (t1 : TypeId) (off1 cap1 : Nat) (bl : List Bd) (hw1 : WinB c1 off1 bl) (hcap1 : bl.length ≤ cap1) (g b tp nr me step n d : Int) (hfit : fitsF l g b tp nr me step bl = true) (hpart : partB n d = true) :
    AC Tryd.prog (GM tt) 62 [.agg (confC (slc 0 off l.length cap) g b tp nr me), .agg #[I64 step, (slc 1 off1 bl.length cap1)], I64 n, I64 d] [.pending c0 t0, .pending c1 t1] (RowPost (kUp g n d l bl bl.length) bl.length 2 [.pending c0 t0, .pending c1 t1]) := by
  obtain ⟨hlen, hl4⟩ := fits_len hfit
  have hl1 : 1 ≤ bl.length := by
    rcases Nat.eq_zero_or_pos bl.length with h | h
    · rw [List.length_eq_zero_iff.1 h, fits_nil2] at hfit; cases hfit
    · exact h
  refine ac_of_body tabOk has62 ?_
  unfold BodyOk
  conv => whnf
  refine ac_mono (RFitsU_s tt (l := l) (bl := bl) (h := [.pending c0 t0, .pending c1 t1, .cells (confC (slc 0 off l.length cap) g b tp nr me) 39, .cells #[I64 step, (slc 1 off1 bl.length cap1)] 42]) (.inr ⟨0, off, cap, c0, t0, rfl, .inl rfl, hw, hcap⟩) (.inr ⟨1, off1, cap1, c1, t1, rfl, .inl rfl, hw1, hcap1⟩) g b tp nr me step) ?_
  rintro v h' ⟨rfl, rfl⟩
  conv => whnf
  rw [hfit]
  conv => whnf
  refine aw_inv tabOk [[false, false, true, true, true, true, false, false, false, false, true, true, false, false, false, false], [false, false, false, false, false, false, false, false, false, false, false, false, false, false, false, false], [false, false, false, false, false, false, false, false, false, false]] (fun m s' => ∃ (i : Nat) (acc : List Vc) (w : Value) (news : List Obj), m = bl.length - i ∧ i ≤ bl.length ∧ acc.length = i ∧ AccVT 4 news w acc ∧ kUp g n d l bl i acc ∧
    s' = ⟨[[.chan none, .chan none, I64 n, I64 d, ptr 2 0, ptr 3 0, .chan none, .chan none, .chan none, .chan none, w, I64 (i : Int), .chan none, .chan none, .chan none, .chan none],
      [.chan none, .chan none, .chan none, .chan none, .chan none, .chan none, .chan none, .chan none, .chan none, .chan none, .chan none, .chan none, .chan none, .chan none, .chan none, .chan none],
      [.chan none, .chan none, .chan none, .chan none, .chan none, .chan none, .chan none, .chan none, .chan none, .chan none]],
      (.pending c0 t0) :: (.pending c1 t1) :: (.cells (confC (slc 0 off l.length cap) g b tp nr me) 39) :: (.cells #[I64 step, (slc 1 off1 bl.length cap1)] 42) :: news, []⟩) bl.length ?_ ⟨0, [], .slice none 0 0, [], rfl, Nat.zero_le _, rfl, .inl ⟨rfl, rfl⟩, fun j bj hj _ => absurd hj (Nat.not_lt_zero j), rfl⟩
  rintro m s' ⟨i, acc, w, news, rfl, hi, hal, hV, hu, rfl⟩
  have hV' := hV
  rcases hV with ⟨rfl, rfl⟩ | ⟨q, cp, rfl, hB⟩
  · skip
    conv => whnf
    refine ways (fun h1 => ?_) (fun h1 => ?_) <;> conv => whnf
    · have hib : i < bl.length := by have := of_decide_eq_true h1; omega
      obtain ⟨bi, hi'⟩ : ∃ x, bl[i]? = some x := ⟨_, List.getElem?_eq_getElem hib⟩
      refine ac_mono (One16_s tt (l := l) (bl := bl) (h := (.pending c0 t0) :: (.pending c1 t1) :: (.cells (confC (slc 0 off l.length cap) g b tp nr me) 39) :: (.cells #[I64 step, (slc 1 off1 bl.length cap1)] 42) :: news) (.inr ⟨0, off, cap, c0, t0, rfl, .inl rfl, hw, hcap⟩) (.inr ⟨1, off1, cap1, c1, t1, rfl, .inl rfl, hw1, hcap1⟩) g b tp nr me step n d hfit hpart hi') ?_
      rintro v h' ⟨rfl, rfl⟩
      conv => whnf
      refine cnt_of ?_
      conv => whnf
      refine app_of ?_
      conv => whnf
      refine nthK_of lastL ?_
      conv => whnf
      refine write_last ?_
      conv => whnf
      refine ways (fun h2 => ?_) (fun h2 => ?_) <;> conv => whnf
      · refine ⟨rfl, fin_turnedK rfl ?_⟩
        conv => whnf
        exact .inl ⟨_, by simpa using h2, rfl, rfl⟩
      · refine nthK_of lastL ?_
        conv => whnf
        refine cnt_of ?_
        conv => whnf
        refine app_of ?_
        conv => whnf
        have h0 : (kickR g n d l bl i bi).2 = 0 := by simpa using h2
        refine ao_pushBT (m := 4) rfl [_, _, _, _] rfl (b := ofK (kickR g n d l bl i bi).1) (hV'.app [_]) rfl (by (conv => whnf) <;> rfl) (by (conv => whnf) <;> rfl) (by simp only [List.length_nil]; omega) ?_
        intro news' q' cp' hA'
        conv => whnf
        rw [show wrapS .i64 ((i : Int) + 1) = ((i + 1 : Nat) : Int) from by rw [wrapI (by omega) (by omega)]; omega]
        exact ⟨bl.length - (i + 1), by omega, i + 1, _, _, news', rfl, by omega, by rw [List.length_append, hal]; rfl, .inr ⟨q', cp', rfl, hA'⟩, kUp_s hu hal hi' h0, rfl⟩
    · have e : i = bl.length := by have := of_decide_eq_false h1; omega
      rw [List.length_nil] at hal
      omega
  · skip
    conv => whnf
    refine ways (fun h1 => ?_) (fun h1 => ?_) <;> conv => whnf
    · have hib : i < bl.length := by have := of_decide_eq_true h1; omega
      obtain ⟨bi, hi'⟩ : ∃ x, bl[i]? = some x := ⟨_, List.getElem?_eq_getElem hib⟩
      refine ac_mono (One16_s tt (l := l) (bl := bl) (h := (.pending c0 t0) :: (.pending c1 t1) :: (.cells (confC (slc 0 off l.length cap) g b tp nr me) 39) :: (.cells #[I64 step, (slc 1 off1 bl.length cap1)] 42) :: news) (.inr ⟨0, off, cap, c0, t0, rfl, .inl rfl, hw, hcap⟩) (.inr ⟨1, off1, cap1, c1, t1, rfl, .inl rfl, hw1, hcap1⟩) g b tp nr me step n d hfit hpart hi') ?_
      rintro v h' ⟨rfl, rfl⟩
      conv => whnf
      refine cnt_of ?_
      conv => whnf
      refine app_of ?_
      conv => whnf
      refine nthK_of lastL ?_
      conv => whnf
      refine write_last ?_
      conv => whnf
      refine ways (fun h2 => ?_) (fun h2 => ?_) <;> conv => whnf
      · refine ⟨rfl, fin_turnedK rfl ?_⟩
        conv => whnf
        exact .inl ⟨_, by simpa using h2, rfl, rfl⟩
      · refine nthK_of lastL ?_
        conv => whnf
        refine cnt_of ?_
        conv => whnf
        refine app_of ?_
        conv => whnf
        have h0 : (kickR g n d l bl i bi).2 = 0 := by simpa using h2
        refine ao_pushBT (m := 4) rfl [_, _, _, _] rfl (b := ofK (kickR g n d l bl i bi).1) (hV'.app [_]) rfl (by (conv => whnf) <;> rfl) (by (conv => whnf) <;> rfl) (by omega) ?_
        intro news' q' cp' hA'
        conv => whnf
        rw [show wrapS .i64 ((i : Int) + 1) = ((i + 1 : Nat) : Int) from by rw [wrapI (by omega) (by omega)]; omega]
        exact ⟨bl.length - (i + 1), by omega, i + 1, _, _, news', rfl, by omega, by rw [List.length_append, hal]; rfl, .inr ⟨q', cp', rfl, hA'⟩, kUp_s hu hal hi' h0, rfl⟩
    · have e : i = bl.length := by have := of_decide_eq_false h1; omega
      subst e
      obtain ⟨hpos, rest, hq, hr, hrc⟩ := hB
      have hcl : ∀ x ∈ (⟨flatBT acc ++ rest⟩ : Array Value).toList, cleanV x = true := fun x hx => by
        rcases List.mem_append.1 hx with hx | hx
        · exact flatBT_clean acc x hx
        · exact hrc x hx
      refine ⟨rfl, fin_oneB (q + 4) ⟨_, rfl⟩ (by show 2 ≤ q + 4; omega) (show news[q]? = _ from hq) hcl (u := .tuple #[slc 2 0 acc.length cp, I64 0]) ?_ rfl (.inr ⟨acc, _, cp, hu, hal, by rw [hal], rfl, hcl, winT_own, by omega⟩)⟩
      simp [r3, r2, r1, r0, rA, tau, c2]
end Go.Proofs.YtjpjnjidchdlbaaDoor

/-
  The kick (no condition).
-/
namespace Go.Proofs.YtjpjnjidchdlbaaDoor
set_option linter.unusedSimpArgs false
set_option linter.unusedVariables false
open Go
set_option maxRecDepth 100000
set_option maxHeartbeats 4000000
theorem has40 : Has Tryd.prog 40 Tryd.f40 := ⟨Tryd.func40, by kernel_rfl, by kernel_rfl⟩

theorem row_lift {P : Program} {G : List (Nat × Obj)} {fn : FuncId} {args args0 : List Value} {h h0 : List Obj} {m k : Nat} (hm : h.length = m) {ok : List Vc → Prop} {n : Nat} (sg : List Nat)
    (H : AC P G fn args0 h0 (RowPost ok n k h0)) (hk : h0.length = k) (ha : args = args0.map (r3 (nu k h.length sg))) (hs : ∀ v ∈ args0, s3 k v)
    (hc : ∀ (i : Nat) (o : Obj), h0[i]? = some o → hot o = false ∧ (∀ v ∈ cellsOf o, s1 k v) ∧ ∃ o', h[sg.getD i 0]? = some o' ∧ ObjLe (rO (nu k h.length sg) o) o') :
    AC P G fn args h (RowPost ok n m h) := by
  subst hm
  subst hk
  refine ac_frame sg H ha hs hc ?_
  rintro v h' (⟨e, he, rfl, rfl⟩ | ⟨vs, c, cp, q0, hl, rfl, rfl, q1, q2, q3⟩)
  · exact ⟨[], by simp, .inl ⟨e, he, by simp [r3, r2, r1, r0], by simp⟩⟩
  · refine ⟨[.cells c 59], rfl, .inr ⟨vs, c, cp, q0, hl, ?_, ?_, q1, q2, q3⟩⟩
    · simp [r3, r2, r1, r0, rA, nu]
    · rw [List.map_cons, rO_cl q1]; rfl
theorem Kicks_s (tt : TypeId) {h : List Obj} {m0 : Nat} (hm0 : h.length = m0) {ms bs : Value} {l : List Int} {bl : List Bd} (hs : SlI h ms l) (hb : SlB h bs bl) (g b tp nr me step n d : Int) (hfit : fitsF l g b tp nr me step bl = true) (hpart : partB n d = true) :
    AC Tryd.prog (GM tt) 62 [.agg (confC ms g b tp nr me), .agg #[I64 step, bs], I64 n, I64 d] h (RowPost (kUp g n d l bl bl.length) bl.length m0 h) := by
  rcases hs with ⟨rfl, rfl⟩ | ⟨m, off, cap, c, t, rfl, h2, h4, h5⟩
  · rw [fits_nil1] at hfit; cases hfit
  · rcases hb with ⟨rfl, rfl⟩ | ⟨m1, off1, cap1, c1, t1, rfl, k2, k4, k5⟩
    · rw [fits_nil2] at hfit; cases hfit
    · refine row_lift hm0 [m, m1] (Kicks_r tt c t off cap l h4 h5 c1 t1 off1 cap1 bl k4 k5 g b tp nr me step n d hfit hpart) rfl (by simp [r3, r2, r1, r0, rA, nu]) (fun v hv => ?_) (cold_2 h2 k2)
      refine (scop3_ok (List.all_eq_true.1 (?_ : List.all _ (scop3 2) = true) v hv)).1
      rfl
theorem WinT.at {c : Array Value} {off : Nat} {l : List Vc} (h : WinT c off l) {k : Nat} {b : Vc} (hb : l[k]? = some b) {q : Nat} {v : Value} (hv : (vc b)[q]? = some v) : c.toList[off + Int.toNat (k : Int) * 3 + q]? = some v := by
  have := h k b hb q v hv
  simpa using this
def kickBd (b : Bd) (v : Vc) : Bd := ⟨b.a, b.b, b.c, wrapS .i64 (b.x + v.x), wrapS .i64 (b.y + v.y), wrapS .i64 (b.z + v.z)⟩
theorem write_part {c : Array Value} {l : List Bd} {i q n : Nat} {b b' : Bd} {v : Value} {k : List Value → Prop} (hw : WinB c 0 l) (hb : l[i]? = some b) (hq : q < 6) (hv : cleanV v = true) (hin : b'.cells[q]? = some v) (hout : ∀ j, j < 6 → j ≠ q → b'.cells[j]? = b.cells[j]?) (hn : n = 0 + Int.toNat (i : Int) * 6 + q)
    (h : ∀ c' : Array Value, ((∀ x ∈ c.toList, cleanV x = true) → ∀ x ∈ c'.toList, cleanV x = true) → WinB c' 0 (l.set i b') → k c'.toList) : writeK c.toList n [v] k := by
  rw [hn]
  refine write_bd (b' := b') hw hb (by simp; omega) (by simpa using hv) (fun j hj => ?_) (fun j hj ho => hout j hj ?_) h
  · have : j = 0 := by simpa using hj
    subst this
    exact hin
  · rcases ho with ho | ho
    · omega
    · simp at ho
      omega
def vk (b : Bd) : Nat → Int
  | 0 => b.x
  | 1 => b.y
  | _ => b.z
def tk (v : Vc) : Nat → Int
  | 0 => v.x
  | 1 => v.y
  | _ => v.z
def kickP (b : Bd) (v : Vc) : Nat → Bd
  | 0 => b
  | 1 => ⟨b.a, b.b, b.c, wrapS .i64 (b.x + v.x), b.y, b.z⟩
  | 2 => ⟨b.a, b.b, b.c, wrapS .i64 (b.x + v.x), wrapS .i64 (b.y + v.y), b.z⟩
  | _ => kickBd b v
theorem kickP_own (b : Bd) (v : Vc) {k : Nat} (h : k < 3) : (kickP b v k).cells[3 + k]? = some (I64 (vk b k)) := by
  match k, h with
  | 0, _ => rfl
  | 1, _ => rfl
  | 2, _ => rfl
theorem tk_at (v : Vc) {k : Nat} (h : k < 3) : (vc v)[k]? = some (I64 (tk v k)) := by
  match k, h with
  | 0, _ => rfl
  | 1, _ => rfl
  | 2, _ => rfl
theorem kickP_in (b : Bd) (v : Vc) {k : Nat} (h : k < 3) : (kickP b v (k + 1)).cells[3 + k]? = some (I64 (wrapS .i64 (vk b k + tk v k))) := by
  match k, h with
  | 0, _ => rfl
  | 1, _ => rfl
  | 2, _ => rfl
theorem kickP_out (b : Bd) (v : Vc) {k : Nat} (h : k < 3) (j : Nat) (hj : j < 6) (hn : j ≠ 3 + k) : (kickP b v (k + 1)).cells[j]? = (kickP b v k).cells[j]? := by
  match k, h, j, hj with
  | 0, _, 0, _ => rfl
  | 0, _, 1, _ => rfl
  | 0, _, 2, _ => rfl
  | 0, _, 3, _ => exact absurd rfl hn
  | 0, _, 4, _ => rfl
  | 0, _, 5, _ => rfl
  | 1, _, 0, _ => rfl
  | 1, _, 1, _ => rfl
  | 1, _, 2, _ => rfl
  | 1, _, 3, _ => rfl
  | 1, _, 4, _ => exact absurd rfl hn
  | 1, _, 5, _ => rfl
  | 2, _, 0, _ => rfl
  | 2, _, 1, _ => rfl
  | 2, _, 2, _ => rfl
  | 2, _, 3, _ => rfl
  | 2, _, 4, _ => rfl
  | 2, _, 5, _ => exact absurd rfl hn
theorem set_same {α : Type} {l : List α} {i : Nat} {a : α} (h : l[i]? = some a) : l.set i a = l := by
  have h1 : i < l.length := (List.getElem?_eq_some_iff.1 h).1
  rw [← (List.getElem?_eq_some_iff.1 h).2, List.set_getElem_self]
def KickPost (step : Int) (done : List Bd → Prop) (n m : Nat) (h : List Obj) (v : Value) (h' : List Obj) : Prop :=
  ∃ (bl' : List Bd) (c : Array Value) (cp : Nat) (e : Int), v = .tuple #[.agg #[I64 step, slc m 0 n cp], I64 e] ∧ h' = h ++ [.cells c 61] ∧ (∀ x ∈ c.toList, cleanV x = true) ∧ WinB c 0 bl' ∧ bl'.length = n ∧ n ≤ cp ∧ (e = 0 → okState step bl' = true ∧ done bl')
def kDone (g n d : Int) (l : List Int) (bl bl' : List Bd) : Prop := ∀ (j : Nat) (bj : Bd), bl[j]? = some bj → (kickR g n d l bl j bj).2 = 0 ∧ bl'[j]? = some (kickBd bj (ofK (kickR g n d l bl j bj).1))
theorem Kick_r (tt : TypeId) (c0 : Array Value) (t0 : TypeId) (off cap : Nat) (l : List Int) (hw : WinI c0 off l) (hcap : l.length ≤ cap) (c1 : Array Value) (t1 : TypeId) (off1 cap1 : Nat) (bl : List Bd) (hw1 : WinB c1 off1 bl) (hcap1 : bl.length ≤ cap1) (g b tp nr me step n d : Int) (hfit : fitsF l g b tp nr me step bl = true) (hpart : partB n d = true) :
    AC Tryd.prog (GM tt) 40 [.agg (confC (slc 0 off l.length cap) g b tp nr me), .agg #[I64 step, (slc 1 off1 bl.length cap1)], I64 n, I64 d] [.pending c0 t0, .pending c1 t1] (KickPost step (kDone g n d l bl) bl.length 2 [.pending c0 t0, .pending c1 t1]) := by
  obtain ⟨hlen, hl4⟩ := fits_len hfit
  refine ac_of_body tabOk has40 ?_
  unfold BodyOk
  conv => whnf
  refine ac_mono (Kicks_s tt (l := l) (bl := bl) (h := [.pending c0 t0, .pending c1 t1, .cells (confC (slc 0 off l.length cap) g b tp nr me) 39, .cells #[I64 step, (slc 1 off1 bl.length cap1)] 42, .cells #[I64 0, .slice none 0 0] 42]) (m0 := 5) rfl (.inr ⟨0, off, cap, c0, t0, rfl, .inl rfl, hw, hcap⟩) (.inr ⟨1, off1, cap1, c1, t1, rfl, .inl rfl, hw1, hcap1⟩) g b tp nr me step n d hfit hpart) ?_
  rintro v h' (⟨e, he, rfl, rfl⟩ | ⟨vs, cr, cpr, hku, hvl, rfl, rfl, w1, hT, w3⟩)
  · conv => whnf
    refine way1 (by simpa using he) ?_
    conv => whnf
    refine ac_mono (OwnS_s (GM tt) step (h := [.pending c0 t0, .pending c1 t1, .cells (confC (slc 0 off l.length cap) g b tp nr me) 39, .cells #[I64 step, (slc 1 off1 bl.length cap1)] 42, .cells #[I64 0, .slice none 0 0] 42]) (m := 5) (l := bl) rfl (.inr ⟨1, off1, cap1, c1, t1, rfl, .inl rfl, hw1, hcap1⟩) (by omega)) ?_
    rintro v h' ⟨c5, cp5, rfl, rfl, q1, q2, q3⟩
    conv => whnf
    refine ⟨rfl, fin_oneB 5 ⟨_, rfl⟩ (by simp) rfl q1 (u := .tuple #[.agg #[I64 step, slc 2 0 bl.length cp5], I64 e]) ?_ rfl ⟨bl, c5, cp5, e, rfl, rfl, q1, q2, rfl, q3, fun h => absurd h he⟩⟩
    simp [r3, r2, r1, r0, rA, tau]
  conv => whnf
  refine ac_mono (OwnS_s (GM tt) step (h := [.pending c0 t0, .pending c1 t1, .cells (confC (slc 0 off l.length cap) g b tp nr me) 39, .cells #[I64 step, (slc 1 off1 bl.length cap1)] 42, .cells #[I64 0, .slice none 0 0] 42, .cells cr 59]) (m := 6) (l := bl) rfl (.inr ⟨1, off1, cap1, c1, t1, rfl, .inl rfl, hw1, hcap1⟩) (by omega)) ?_
  rintro v h' ⟨c, cp, rfl, rfl, q1, q2, q3⟩
  conv => whnf
  refine aw_inv tabOk [[false, false, false, false, true, true, false, false, true, false, true, false, true, true, false, false], [false, false, false, false, false, false, false, false, false, false, false, false, false, false, false, false], [false, false, false, false, false, false, false, false, false, false, false, false, false, false, false, false], [false, false, false, false, false, false, false, false, false, false, false, false, false, false, false, false], [false, false, false, false]] (fun m s' => ∃ (i : Nat) (c3 : Array Value) (bl' : List Bd), m = bl.length - i ∧ i ≤ bl.length ∧ (∀ x ∈ c3.toList, cleanV x = true) ∧ WinB c3 0 bl' ∧ bl'.length = bl.length ∧
    (∀ (j : Nat) (bj : Bd), bl[j]? = some bj → (j < i → (kickR g n d l bl j bj).2 = 0 ∧ bl'[j]? = some (kickBd bj (ofK (kickR g n d l bl j bj).1))) ∧ (i ≤ j → bl'[j]? = some bj)) ∧
    s' = ⟨[[.chan none, .chan none, .chan none, .chan none, ptr 2 0, ptr 3 0, .chan none, .chan none, ptr 4 0, .chan none, slc 5 0 bl.length cpr, .chan none, ptr 7 0, I64 (i : Int), .chan none, .chan none],
      [.chan none, .chan none, .chan none, .chan none, .chan none, .chan none, .chan none, .chan none, .chan none, .chan none, .chan none, .chan none, .chan none, .chan none, .chan none, .chan none],
      [.chan none, .chan none, .chan none, .chan none, .chan none, .chan none, .chan none, .chan none, .chan none, .chan none, .chan none, .chan none, .chan none, .chan none, .chan none, .chan none],
      [.chan none, .chan none, .chan none, .chan none, .chan none, .chan none, .chan none, .chan none, .chan none, .chan none, .chan none, .chan none, .chan none, .chan none, .chan none, .chan none],
      [.chan none, .chan none, .chan none, .chan none]],
      [.pending c0 t0, .pending c1 t1, .cells (confC (slc 0 off l.length cap) g b tp nr me) 39, .cells #[I64 step, (slc 1 off1 bl.length cap1)] 42, .cells #[I64 0, .slice none 0 0] 42, .cells cr 59, .cells c3 61, .cells #[I64 step, slc 6 0 bl.length cp] 42], []⟩) bl.length ?_ ⟨0, c, bl, rfl, Nat.zero_le _, q1, q2, rfl, fun j bj hb => ⟨fun h => absurd h (Nat.not_lt_zero j), fun _ => hb⟩, rfl⟩
  rintro m s' ⟨i, c3, bl', rfl, hi, hc3, hw3, hbl, hst, rfl⟩
  conv => whnf
  refine ways (fun h1 => ?_) (fun h1 => ?_) <;> conv => whnf
  · have hlt : i < bl.length := by have := of_decide_eq_true h1; omega
    obtain ⟨bi, hi'⟩ : ∃ x, bl[i]? = some x := ⟨_, List.getElem?_eq_getElem hlt⟩
    have hbi : bl'[i]? = some bi := (hst i bi hi').2 (Nat.le_refl i)
    obtain ⟨hk0, hvi'⟩ := hku i bi hlt hi'
    obtain ⟨vi, hve⟩ : ∃ v, v = ofK (kickR g n d l bl i bi).1 := ⟨_, rfl⟩
    have hvi : vs[i]? = some vi := by rw [hve]; exact hvi'
    have hib : decide (0 ≤ (i : Int) ∧ (i : Int) < ((bl.length : Nat) : Int)) = true := by rw [decide_eq_true_iff]; omega
    refine aw_inv tabOk [[false, false, false, false, true, true, false, false, true, false, true, false, true, true, true, false], [false, false, false, false, false, false, false, false, false, false, false, false, false, false, false, false], [false, false, false, false, false, false, false, false, false, false, false, false, false, false, false, false], [false, false, false, false, false, false, false, false, false, false, false, false, false, false, false, false], [false, false, false, false]] (fun m s' => ∃ (k : Nat) (c4 : Array Value), m = 3 - k ∧ k ≤ 3 ∧ (∀ x ∈ c4.toList, cleanV x = true) ∧ WinB c4 0 (bl'.set i (kickP bi vi k)) ∧
    s' = ⟨[[.chan none, .chan none, .chan none, .chan none, ptr 2 0, ptr 3 0, .chan none, .chan none, ptr 4 0, .chan none, slc 5 0 bl.length cpr, .chan none, ptr 7 0, I64 (i : Int), I64 (k : Int), .chan none],
      [.chan none, .chan none, .chan none, .chan none, .chan none, .chan none, .chan none, .chan none, .chan none, .chan none, .chan none, .chan none, .chan none, .chan none, .chan none, .chan none],
      [.chan none, .chan none, .chan none, .chan none, .chan none, .chan none, .chan none, .chan none, .chan none, .chan none, .chan none, .chan none, .chan none, .chan none, .chan none, .chan none],
      [.chan none, .chan none, .chan none, .chan none, .chan none, .chan none, .chan none, .chan none, .chan none, .chan none, .chan none, .chan none, .chan none, .chan none, .chan none, .chan none],
      [.chan none, .chan none, .chan none, .chan none]],
      [.pending c0 t0, .pending c1 t1, .cells (confC (slc 0 off l.length cap) g b tp nr me) 39, .cells #[I64 step, (slc 1 off1 bl.length cap1)] 42, .cells #[I64 0, .slice none 0 0] 42, .cells cr 59, .cells c4 61, .cells #[I64 step, slc 6 0 bl.length cp] 42], []⟩) 3 ?_ ⟨0, c3, rfl, Nat.zero_le _, hc3, by rw [show kickP bi vi 0 = bi from rfl, set_same hbi]; exact hw3, rfl⟩
    rintro m s' ⟨k, c4, rfl, hk3, hc4, hw4, rfl⟩
    conv => whnf
    refine ways (fun h3 => ?_) (fun h3 => ?_) <;> conv => whnf
    · have hk : k < 3 := by have := of_decide_eq_true h3; omega
      have hbk : (bl'.set i (kickP bi vi k))[i]? = some (kickP bi vi k) := List.getElem?_set_self (by omega)
      have hkb : decide (0 ≤ (k : Int) ∧ (k : Int) < 3) = true := by rw [decide_eq_true_iff]; omega
      refine ad_of tabOk (by kernel_rfl) [(0, false), (1, false), (2, false), (3, false), (4, false), (5, false), (6, false), (7, false), (8, false), (9, false), (10, false), (11, false), (12, false), (13, false), (14, false), (15, false), (16, false), (17, false), (18, false), (19, false), (20, false), (21, false), (22, true)] (by kernel_rfl) ?_
      conv => whnf
      refine way1 hib ?_
      conv => whnf
      refine way1 hkb ?_
      conv => whnf
      refine nthK_of (a := I64 (vk bi k)) (by have := hw4.at hbk (kickP_own bi vi hk); simpa [Nat.add_assoc, show ti40.esz = 6 from rfl, show ti59.esz = 1 from rfl, show ti78.esz = 3 from rfl] using this) ?_
      conv => whnf
      refine way1 hib ?_
      conv => whnf
      refine way1 hkb ?_
      conv => whnf
      refine nthK_of (a := I64 (tk vi k)) (by have := hT.at hvi (tk_at vi hk); simpa [Nat.add_assoc, show ti40.esz = 6 from rfl, show ti59.esz = 1 from rfl, show ti78.esz = 3 from rfl] using this) ?_
      conv => whnf
      refine way1 hib ?_
      conv => whnf
      refine way1 hkb ?_
      conv => whnf
      refine write_part (c := c4) (q := 3 + k) (b' := kickP bi vi (k + 1)) hw4 hbk (by omega) rfl (kickP_in bi vi hk) (kickP_out bi vi hk) (by show 0 + ((i : Int)).toNat * 6 + 3 + ((k : Int)).toNat * 1 = _; omega) ?_
      intro c5 hcc5 hw5
      conv => whnf
      rw [show wrapS .i64 ((k : Int) + 1) = ((k + 1 : Nat) : Int) from by rw [wrapI (by omega) (by omega)]; omega]
      rw [List.set_set] at hw5
      exact ⟨3 - (k + 1), by omega, k + 1, c5, rfl, by omega, hcc5 hc4, hw5, rfl⟩
    have hke : k = 3 := by have := of_decide_eq_false h3; omega
    subst hke
    have hw6 : WinB c4 0 (bl'.set i (kickBd bi vi)) := hw4
    rw [show wrapS .i64 ((i : Int) + 1) = ((i + 1 : Nat) : Int) from by rw [wrapI (by omega) (by omega)]; omega]
    refine ⟨bl.length - (i + 1), by omega, i + 1, c4, _, rfl, by omega, hc4, hw6, by simp only [List.length_set]; exact hbl, fun j bj hb => ⟨fun hj => ?_, fun hj => ?_⟩, rfl⟩
    · by_cases hji : j = i
      · subst hji
        rw [hi'] at hb
        cases hb
        exact ⟨hk0, by rw [← hve]; exact List.getElem?_set_self (by omega)⟩
      · obtain ⟨k1, k2⟩ := (hst j bj hb).1 (by omega)
        exact ⟨k1, by rw [List.getElem?_set_ne (by omega)]; exact k2⟩
    · rw [List.getElem?_set_ne (by omega)]
      exact (hst j bj hb).2 (by omega)
  have e : i = bl.length := by have := of_decide_eq_false h1; omega
  refine ac_mono (RRightU_s (GM tt) step (l := bl') (h := [.pending c0 t0, .pending c1 t1, .cells (confC (slc 0 off l.length cap) g b tp nr me) 39, .cells #[I64 step, (slc 1 off1 bl.length cap1)] 42, .cells #[I64 0, .slice none 0 0] 42, .cells cr 59, .cells c3 61, .cells #[I64 step, slc 6 0 bl.length cp] 42]) (.inr ⟨6, 0, cp, c3, 61, by rw [hbl], .inr ⟨hc3, _, rfl⟩, hw3, by rw [hbl]; exact q3⟩)) ?_
  rintro v h' ⟨rfl, rfl⟩
  conv => whnf
  refine ways (fun h2 => ?_) (fun h2 => ?_) <;> conv => whnf
  · skip
    refine ac_mono (OwnS_s (GM tt) step (h := [.pending c0 t0, .pending c1 t1, .cells (confC (slc 0 off l.length cap) g b tp nr me) 39, .cells #[I64 step, (slc 1 off1 bl.length cap1)] 42, .cells #[I64 0, .slice none 0 0] 42, .cells cr 59, .cells c3 61, .cells #[I64 step, slc 6 0 bl.length cp] 42]) (m := 8) (l := bl) rfl (.inr ⟨1, off1, cap1, c1, t1, rfl, .inl rfl, hw1, hcap1⟩) (by omega)) ?_
    rintro v h' ⟨c5, cp5, rfl, rfl, p1, p2, p3⟩
    conv => whnf
    refine ⟨rfl, fin_oneB 8 ⟨_, rfl⟩ (by simp) rfl p1 (u := .tuple #[.agg #[I64 step, slc 2 0 bl.length cp5], I64 20]) ?_ rfl ⟨bl, c5, cp5, 20, rfl, rfl, p1, p2, rfl, p3, fun h => absurd h (by decide)⟩⟩
    simp [r3, r2, r1, r0, rA, tau]
  refine ⟨rfl, fin_oneB 6 ⟨_, rfl⟩ (by simp) rfl hc3 (u := .tuple #[.agg #[I64 step, slc 2 0 bl.length cp], I64 0]) ?_ rfl ⟨bl', c3, cp, 0, rfl, rfl, hc3, hw3, hbl, q3, fun _ => ⟨by simpa using h2, fun j bj hb => (hst j bj hb).1 (by have := (List.getElem?_eq_some_iff.1 hb).1; omega)⟩⟩⟩
  simp [r3, r2, r1, r0, rA, tau]
end Go.Proofs.YtjpjnjidchdlbaaDoor
