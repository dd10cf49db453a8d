/-
  each, Add, Sub, and their like: what they compute.
-/
import Derived.Test.YtjpjnjidchdlbaaVecA
namespace Go.Proofs.Ytjpjnjidchdlbaa
set_option linter.unusedSimpArgs false
set_option linter.unusedVariables false
open Go
set_option maxRecDepth 100000
set_option maxHeartbeats 4000000
def sel (b : Bool) (p : Int) : Int := match b with
  | true => p
  | false => 0
def err (b : Bool) : Int := match b with
  | true => 0
  | false => 20
/-- what 'each' hands back, by what the function makes of each part -/
def eachR (b : Bool) (p q r : Int) : Value := .tuple #[V3 (sel b p) (sel b q) (sel b r), I64 (err b)]
def fine3 (p q r : Int) : Bool := okc p && (okc q && okc r)
theorem notF {b : Bool} (h : (!b) = true) : b = false := by simpa using h
theorem notT {b : Bool} (h : (!b) = false) : b = true := by simpa using h
def ok6 (a b c x y z : Int) : Bool := okc a && (okc b && (okc c && (okc x && (okc y && okc z))))
theorem Add1_c (G) (a b : Int) : AC Try.prog G 37 [I64 a, I64 b] [] (fun v h => v = I64 (wrapS .i64 (a + b)) ∧ h = []) := by
  refine ac_of_body tabOk has37 ?_
  unfold BodyOk
  conv => whnf
  refine ⟨rfl, fin_turnedK rfl ?_⟩
  conv => whnf
  exact ⟨rfl, rfl⟩
theorem eachAdd_c (G) (a b c x y z : Int) : AC Try.prog G 36 [V3 a b c, V3 x y z, .func (.func 37) #[] #[]] [] (fun v h => v = eachR (ok6 a b c x y z && fine3 (wrapS .i64 (a + x)) (wrapS .i64 (b + y)) (wrapS .i64 (c + z))) (wrapS .i64 (a + x)) (wrapS .i64 (b + y)) (wrapS .i64 (c + z)) ∧ h = []) := by
  refine ac_of_body tabOk has36 ?_
  unfold BodyOk
  conv => whnf
  refine ac_read [4] (Fine2 G a b c x y z) rfl rfl ⟨⟨by decide, rfl, _, rfl⟩, trivial⟩ ?_
  rintro v h' ⟨rfl, rfl⟩
  refine ⟨rfl, rfl, ?_⟩
  conv => whnf
  refine ways (fun h => ?_) (fun h => ?_) <;> conv => whnf
  · refine ⟨rfl, fin_turnedK rfl ?_⟩
    conv => whnf
    have h6 : ok6 a b c x y z = false := notF h
    refine ⟨by rw [h6]; rfl, rfl⟩
  have h6 : ok6 a b c x y z = true := notT h
  rw [h6]
  refine ac_of_body tabOk has35 ?_
  unfold BodyOk
  conv => whnf
  refine ⟨rfl, fin_all [_, _, _, _, _, _] [_] rfl rfl rfl rfl rfl ?_⟩
  conv => whnf
  refine aw_rangeK tabOk ?_
  conv => whnf
  intro l fn
  refine ac_of_body tabOk has49 ?_
  unfold BodyOk
  conv => whnf
  refine aw_rounds tabOk 4 ?_
  conv => whnf
  repeat' first
    | (refine aw_rounds tabOk 5 ?_; conv => whnf)
    | (refine ao_yieldK 8 3 rfl rfl (by conv => whnf) ?_; conv => whnf)
    | (refine run_ok tabOk _ _ _ ?_; conv => whnf)
    | (refine ad_of tabOk (by kernel_rfl) [(0, false), (1, false), (2, false), (3, false), (4, false), (5, false), (6, false), (7, false), (8, true)] (by kernel_rfl) ?_; conv => whnf)
    | (refine quiet_of (Add1_c G _ _) rfl ?_; rintro v h' ⟨rfl, rfl⟩; refine ⟨rfl, rfl, ?_⟩; conv => whnf)
    | (refine And.intro (Eq.refl true) ?_)
    | (refine And.intro rfl (And.intro (fun h => by cases h) ?_); conv => whnf)
    | (refine And.intro rfl (And.intro rfl ?_); conv => whnf)
    | (refine And.intro rfl ?_; conv => whnf)
  all_goals (refine fin_turnedK rfl ?_; conv => whnf)
  repeat' first
    | (refine And.intro rfl (And.intro (fun h => by cases h) ?_); conv => whnf)
    | (refine And.intro rfl ?_; conv => whnf)
  refine ac_read [9] (Fine1 G _ _ _) rfl rfl ⟨⟨by decide, rfl, _, rfl⟩, trivial⟩ ?_
  rintro v h' ⟨rfl, rfl⟩
  refine ⟨rfl, rfl, ?_⟩
  conv => whnf
  refine ways (fun h => ?_) (fun h => ?_) <;> conv => whnf
  · refine ⟨rfl, fin_turnedK rfl ?_⟩
    conv => whnf
    have h7 : fine3 (wrapS .i64 (a + x)) (wrapS .i64 (b + y)) (wrapS .i64 (c + z)) = false := notF h
    exact ⟨by rw [h7]; rfl, rfl⟩
  · refine ⟨rfl, fin_turnedK rfl ?_⟩
    conv => whnf
    have h7 : fine3 (wrapS .i64 (a + x)) (wrapS .i64 (b + y)) (wrapS .i64 (c + z)) = true := notT h
    exact ⟨by rw [h7]; rfl, rfl⟩
theorem Sub1_c (G) (a b : Int) : AC Try.prog G 38 [I64 a, I64 b] [] (fun v h => v = I64 (wrapS .i64 (a - b)) ∧ h = []) := by
  refine ac_of_body tabOk has38 ?_
  unfold BodyOk
  conv => whnf
  refine ⟨rfl, fin_turnedK rfl ?_⟩
  conv => whnf
  exact ⟨rfl, rfl⟩
theorem eachSub_c (G) (a b c x y z : Int) : AC Try.prog G 36 [V3 a b c, V3 x y z, .func (.func 38) #[] #[]] [] (fun v h => v = eachR (ok6 a b c x y z && fine3 (wrapS .i64 (a - x)) (wrapS .i64 (b - y)) (wrapS .i64 (c - z))) (wrapS .i64 (a - x)) (wrapS .i64 (b - y)) (wrapS .i64 (c - z)) ∧ h = []) := by
  refine ac_of_body tabOk has36 ?_
  unfold BodyOk
  conv => whnf
  refine ac_read [4] (Fine2 G a b c x y z) rfl rfl ⟨⟨by decide, rfl, _, rfl⟩, trivial⟩ ?_
  rintro v h' ⟨rfl, rfl⟩
  refine ⟨rfl, rfl, ?_⟩
  conv => whnf
  refine ways (fun h => ?_) (fun h => ?_) <;> conv => whnf
  · refine ⟨rfl, fin_turnedK rfl ?_⟩
    conv => whnf
    have h6 : ok6 a b c x y z = false := notF h
    refine ⟨by rw [h6]; rfl, rfl⟩
  have h6 : ok6 a b c x y z = true := notT h
  rw [h6]
  refine ac_of_body tabOk has35 ?_
  unfold BodyOk
  conv => whnf
  refine ⟨rfl, fin_all [_, _, _, _, _, _] [_] rfl rfl rfl rfl rfl ?_⟩
  conv => whnf
  refine aw_rangeK tabOk ?_
  conv => whnf
  intro l fn
  refine ac_of_body tabOk has49 ?_
  unfold BodyOk
  conv => whnf
  refine aw_rounds tabOk 4 ?_
  conv => whnf
  repeat' first
    | (refine aw_rounds tabOk 5 ?_; conv => whnf)
    | (refine ao_yieldK 8 3 rfl rfl (by conv => whnf) ?_; conv => whnf)
    | (refine run_ok tabOk _ _ _ ?_; conv => whnf)
    | (refine ad_of tabOk (by kernel_rfl) [(0, false), (1, false), (2, false), (3, false), (4, false), (5, false), (6, false), (7, false), (8, true)] (by kernel_rfl) ?_; conv => whnf)
    | (refine quiet_of (Sub1_c G _ _) rfl ?_; rintro v h' ⟨rfl, rfl⟩; refine ⟨rfl, rfl, ?_⟩; conv => whnf)
    | (refine And.intro (Eq.refl true) ?_)
    | (refine And.intro rfl (And.intro (fun h => by cases h) ?_); conv => whnf)
    | (refine And.intro rfl (And.intro rfl ?_); conv => whnf)
    | (refine And.intro rfl ?_; conv => whnf)
  all_goals (refine fin_turnedK rfl ?_; conv => whnf)
  repeat' first
    | (refine And.intro rfl (And.intro (fun h => by cases h) ?_); conv => whnf)
    | (refine And.intro rfl ?_; conv => whnf)
  refine ac_read [9] (Fine1 G _ _ _) rfl rfl ⟨⟨by decide, rfl, _, rfl⟩, trivial⟩ ?_
  rintro v h' ⟨rfl, rfl⟩
  refine ⟨rfl, rfl, ?_⟩
  conv => whnf
  refine ways (fun h => ?_) (fun h => ?_) <;> conv => whnf
  · refine ⟨rfl, fin_turnedK rfl ?_⟩
    conv => whnf
    have h7 : fine3 (wrapS .i64 (a - x)) (wrapS .i64 (b - y)) (wrapS .i64 (c - z)) = false := notF h
    exact ⟨by rw [h7]; rfl, rfl⟩
  · refine ⟨rfl, fin_turnedK rfl ?_⟩
    conv => whnf
    have h7 : fine3 (wrapS .i64 (a - x)) (wrapS .i64 (b - y)) (wrapS .i64 (c - z)) = true := notT h
    exact ⟨by rw [h7]; rfl, rfl⟩
theorem Times1_c (G) (a b : Int) : AC Try.prog G 39 [I64 a, I64 b] [] (fun v h => v = I64 (wrapS .i64 (a * b)) ∧ h = []) := by
  refine ac_of_body tabOk has39 ?_
  unfold BodyOk
  conv => whnf
  refine ⟨rfl, fin_turnedK rfl ?_⟩
  conv => whnf
  exact ⟨rfl, rfl⟩
theorem eachTimes_c (G) (a b c x y z : Int) : AC Try.prog G 36 [V3 a b c, V3 x y z, .func (.func 39) #[] #[]] [] (fun v h => v = eachR (ok6 a b c x y z && fine3 (wrapS .i64 (a * x)) (wrapS .i64 (b * y)) (wrapS .i64 (c * z))) (wrapS .i64 (a * x)) (wrapS .i64 (b * y)) (wrapS .i64 (c * z)) ∧ h = []) := by
  refine ac_of_body tabOk has36 ?_
  unfold BodyOk
  conv => whnf
  refine ac_read [4] (Fine2 G a b c x y z) rfl rfl ⟨⟨by decide, rfl, _, rfl⟩, trivial⟩ ?_
  rintro v h' ⟨rfl, rfl⟩
  refine ⟨rfl, rfl, ?_⟩
  conv => whnf
  refine ways (fun h => ?_) (fun h => ?_) <;> conv => whnf
  · refine ⟨rfl, fin_turnedK rfl ?_⟩
    conv => whnf
    have h6 : ok6 a b c x y z = false := notF h
    refine ⟨by rw [h6]; rfl, rfl⟩
  have h6 : ok6 a b c x y z = true := notT h
  rw [h6]
  refine ac_of_body tabOk has35 ?_
  unfold BodyOk
  conv => whnf
  refine ⟨rfl, fin_all [_, _, _, _, _, _] [_] rfl rfl rfl rfl rfl ?_⟩
  conv => whnf
  refine aw_rangeK tabOk ?_
  conv => whnf
  intro l fn
  refine ac_of_body tabOk has49 ?_
  unfold BodyOk
  conv => whnf
  refine aw_rounds tabOk 4 ?_
  conv => whnf
  repeat' first
    | (refine aw_rounds tabOk 5 ?_; conv => whnf)
    | (refine ao_yieldK 8 3 rfl rfl (by conv => whnf) ?_; conv => whnf)
    | (refine run_ok tabOk _ _ _ ?_; conv => whnf)
    | (refine ad_of tabOk (by kernel_rfl) [(0, false), (1, false), (2, false), (3, false), (4, false), (5, false), (6, false), (7, false), (8, true)] (by kernel_rfl) ?_; conv => whnf)
    | (refine quiet_of (Times1_c G _ _) rfl ?_; rintro v h' ⟨rfl, rfl⟩; refine ⟨rfl, rfl, ?_⟩; conv => whnf)
    | (refine And.intro (Eq.refl true) ?_)
    | (refine And.intro rfl (And.intro (fun h => by cases h) ?_); conv => whnf)
    | (refine And.intro rfl (And.intro rfl ?_); conv => whnf)
    | (refine And.intro rfl ?_; conv => whnf)
  all_goals (refine fin_turnedK rfl ?_; conv => whnf)
  repeat' first
    | (refine And.intro rfl (And.intro (fun h => by cases h) ?_); conv => whnf)
    | (refine And.intro rfl ?_; conv => whnf)
  refine ac_read [9] (Fine1 G _ _ _) rfl rfl ⟨⟨by decide, rfl, _, rfl⟩, trivial⟩ ?_
  rintro v h' ⟨rfl, rfl⟩
  refine ⟨rfl, rfl, ?_⟩
  conv => whnf
  refine ways (fun h => ?_) (fun h => ?_) <;> conv => whnf
  · refine ⟨rfl, fin_turnedK rfl ?_⟩
    conv => whnf
    have h7 : fine3 (wrapS .i64 (a * x)) (wrapS .i64 (b * y)) (wrapS .i64 (c * z)) = false := notF h
    exact ⟨by rw [h7]; rfl, rfl⟩
  · refine ⟨rfl, fin_turnedK rfl ?_⟩
    conv => whnf
    have h7 : fine3 (wrapS .i64 (a * x)) (wrapS .i64 (b * y)) (wrapS .i64 (c * z)) = true := notT h
    exact ⟨by rw [h7]; rfl, rfl⟩
theorem Add_c (G) (a b c x y z : Int) : AC Try.prog G 15 [V3 a b c, V3 x y z] [] (fun v h => v = eachR (ok6 a b c x y z && fine3 (wrapS .i64 (a + x)) (wrapS .i64 (b + y)) (wrapS .i64 (c + z))) (wrapS .i64 (a + x)) (wrapS .i64 (b + y)) (wrapS .i64 (c + z)) ∧ h = []) := by
  refine ac_of_body tabOk has15 ?_
  unfold BodyOk
  conv => whnf
  refine ac_read [] (eachAdd_c G a b c x y z) (by simp [r3, r2, r1, r0]) rfl trivial ?_
  rintro v h' ⟨rfl, rfl⟩
  refine ⟨rfl, rfl, ?_⟩
  conv => whnf
  refine ⟨rfl, fin_turnedK rfl ?_⟩
  conv => whnf
  exact ⟨rfl, rfl⟩
theorem Sub_c (G) (a b c x y z : Int) : AC Try.prog G 16 [V3 a b c, V3 x y z] [] (fun v h => v = eachR (ok6 a b c x y z && fine3 (wrapS .i64 (a - x)) (wrapS .i64 (b - y)) (wrapS .i64 (c - z))) (wrapS .i64 (a - x)) (wrapS .i64 (b - y)) (wrapS .i64 (c - z)) ∧ h = []) := by
  refine ac_of_body tabOk has16 ?_
  unfold BodyOk
  conv => whnf
  refine ac_read [] (eachSub_c G a b c x y z) (by simp [r3, r2, r1, r0]) rfl trivial ?_
  rintro v h' ⟨rfl, rfl⟩
  refine ⟨rfl, rfl, ?_⟩
  conv => whnf
  refine ⟨rfl, fin_turnedK rfl ?_⟩
  conv => whnf
  exact ⟨rfl, rfl⟩
end Go.Proofs.Ytjpjnjidchdlbaa
