/-
  Times, Dot, Cross: what they compute.
-/
import Derived.Test.YtjpjnjidchdlbaaVecB
namespace Go.Proofs.Ytjpjnjidchdlbaa
set_option linter.unusedSimpArgs false
set_option linter.unusedVariables false
open Go
set_option maxRecDepth 100000
set_option maxHeartbeats 4000000
/-- the sum of three products, wrapped as it goes -/
def dot3 (a b c x y z : Int) : Int := wrapS .i64 (wrapS .i64 (wrapS .i64 (0 + wrapS .i64 (a * x)) + wrapS .i64 (b * y)) + wrapS .i64 (c * z))
theorem Dot_c (G) (a b c x y z : Int) : AC Try.prog G 14 [V3 a b c, V3 x y z] [] (fun v h => v = .tuple #[I64 (sel (ok6 a b c x y z) (dot3 a b c x y z)), I64 (err (ok6 a b c x y z))] ∧ h = []) := by
  refine ac_of_body tabOk has14 ?_
  unfold BodyOk
  conv => whnf
  refine ac_read [3] (Fine2 G a b c x y z) rfl rfl ⟨⟨by decide, rfl, _, rfl⟩, trivial⟩ ?_
  rintro v h' ⟨rfl, rfl⟩
  refine ⟨rfl, rfl, ?_⟩
  conv => whnf
  refine ways (fun h => ?_) (fun h => ?_) <;> conv => whnf
  · refine ⟨rfl, fin_turnedK rfl ?_⟩
    conv => whnf
    have h6 : ok6 a b c x y z = false := notF h
    refine ⟨by rw [h6]; rfl, rfl⟩
  have h6 : ok6 a b c x y z = true := notT h
  rw [h6]
  refine ac_of_body tabOk has35 ?_
  unfold BodyOk
  conv => whnf
  refine ⟨rfl, fin_all [_, _, _, _, _] [_] rfl rfl rfl rfl rfl ?_⟩
  conv => whnf
  refine aw_rangeK tabOk ?_
  conv => whnf
  intro l fn
  refine ac_of_body tabOk has49 ?_
  unfold BodyOk
  conv => whnf
  refine aw_rounds tabOk 4 ?_
  conv => whnf
  repeat' first
    | (refine aw_rounds tabOk 5 ?_; conv => whnf)
    | (refine ao_yieldK 7 3 rfl rfl (by conv => whnf) ?_; conv => whnf)
    | (refine run_ok tabOk _ _ _ ?_; conv => whnf)
    | (refine ad_of tabOk (by kernel_rfl) [(0, false), (1, false), (2, false), (3, false), (4, false), (5, false), (6, false), (7, true)] (by kernel_rfl) ?_; conv => whnf)
    | (refine And.intro (Eq.refl true) ?_)
    | (refine And.intro rfl (And.intro (fun h => by cases h) ?_); conv => whnf)
    | (refine And.intro rfl (And.intro rfl ?_); conv => whnf)
    | (refine And.intro rfl ?_; conv => whnf)
  all_goals (refine fin_turnedK rfl ?_; conv => whnf)
  repeat' first
    | (refine And.intro (Eq.refl true) ?_)
    | (refine And.intro rfl (And.intro (fun h => by cases h) ?_); conv => whnf)
    | (refine And.intro rfl ?_; conv => whnf)
  all_goals (refine fin_turnedK rfl ?_; conv => whnf)
  exact ⟨rfl, rfl⟩
def cr (a b x y : Int) : Int := wrapS .i64 (wrapS .i64 (a * y) - wrapS .i64 (b * x))
theorem Cross_c (G) (a b c x y z : Int) : AC Try.prog G 13 [V3 a b c, V3 x y z] [] (fun v h => v = .tuple #[V3 (sel (ok6 a b c x y z) (cr b c y z)) (sel (ok6 a b c x y z) (cr c a z x)) (sel (ok6 a b c x y z) (cr a b x y)), I64 (err (ok6 a b c x y z))] ∧ h = []) := by
  refine ac_of_body tabOk has13 ?_
  unfold BodyOk
  conv => whnf
  refine ac_read [3] (Fine2 G a b c x y z) rfl rfl ⟨⟨by decide, rfl, _, rfl⟩, trivial⟩ ?_
  rintro v h' ⟨rfl, rfl⟩
  refine ⟨rfl, rfl, ?_⟩
  conv => whnf
  refine ways (fun h => ?_) (fun h => ?_) <;> conv => whnf
  · refine ⟨rfl, fin_turnedK rfl ?_⟩
    conv => whnf
    have h6 : ok6 a b c x y z = false := notF h
    refine ⟨by rw [h6]; rfl, rfl⟩
  have h6 : ok6 a b c x y z = true := notT h
  rw [h6]
  refine aw_rounds tabOk 5 ?_
  conv => whnf
  repeat' first
    | (refine ad_of tabOk (by kernel_rfl) [(0, false), (1, false), (2, false), (3, false), (4, false), (5, false), (6, false), (7, false), (8, false), (9, false), (10, false), (11, false), (12, false), (13, false), (14, false), (15, false), (16, false), (17, true)] (by kernel_rfl) ?_; conv => whnf)
    | (refine And.intro (Eq.refl true) ?_)
  refine fin_turnedK rfl ?_
  conv => whnf
  exact ⟨rfl, rfl⟩
end Go.Proofs.Ytjpjnjidchdlbaa
