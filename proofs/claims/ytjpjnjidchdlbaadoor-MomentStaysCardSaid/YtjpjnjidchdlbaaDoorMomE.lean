/-
  vec and the reference's: Fine, Within, Cross (no condition).
-/
import Derived.Test.YtjpjnjidchdlbaaDoorMomD
namespace Go.Proofs.YtjpjnjidchdlbaaDoor
set_option linter.unusedSimpArgs false
set_option linter.unusedVariables false
open Go
set_option maxRecDepth 100000
set_option maxHeartbeats 4000000
theorem has68 : Has Tryd.prog 68 Tryd.f68 := ⟨Tryd.func68, by kernel_rfl, by kernel_rfl⟩
theorem has78 : Has Tryd.prog 78 Tryd.f78 := ⟨Tryd.func78, by kernel_rfl, by kernel_rfl⟩
theorem has85 : Has Tryd.prog 85 Tryd.f85 := ⟨Tryd.func85, by kernel_rfl, by kernel_rfl⟩
theorem has98 : Has Tryd.prog 98 Tryd.f98 := ⟨Tryd.func98, by kernel_rfl, by kernel_rfl⟩
theorem has45 : Has Tryd.prog 45 Tryd.f45 := ⟨Tryd.func45, by kernel_rfl, by kernel_rfl⟩
theorem has56 : Has Tryd.prog 56 Tryd.f56 := ⟨Tryd.func56, by kernel_rfl, by kernel_rfl⟩
theorem has57 : Has Tryd.prog 57 Tryd.f57 := ⟨Tryd.func57, by kernel_rfl, by kernel_rfl⟩
theorem has69 : Has Tryd.prog 69 Tryd.f69 := ⟨Tryd.func69, by kernel_rfl, by kernel_rfl⟩
abbrev V3 (a b c : Int) : Value := .agg #[.int .i64 a, .int .i64 b, .int .i64 c]
def okc (x : Int) : Bool := !(decide (x < -536870912)) && !(decide (x > 536870912))
theorem Fine2 (G) (a b c x y z : Int) : AC Tryd.prog G 68 [slc 0 0 2 2] [.cells #[I64 a, I64 b, I64 c, I64 x, I64 y, I64 z] 59 (1, 0)] (fun v h => v = .bool (okc a && (okc b && (okc c && (okc x && (okc y && okc z))))) ∧ h = [.cells #[I64 a, I64 b, I64 c, I64 x, I64 y, I64 z] 59 (1, 0)]) := by
  refine ac_of_body tabOk has68 ?_
  unfold BodyOk
  conv => whnf
  refine ac_of_body tabOk has78 ?_
  unfold BodyOk
  conv => whnf
  refine ⟨rfl, fin_all [_, _] [_] rfl rfl rfl rfl rfl ?_⟩
  conv => whnf
  refine aw_rangeK tabOk ?_
  conv => whnf
  intro l fn
  refine ac_of_body tabOk has85 ?_
  unfold BodyOk
  conv => whnf
  repeat' first
    | (refine aw_rounds tabOk 5 ?_; conv => whnf)
    | (refine ao_yieldK 4 2 rfl rfl (by conv => whnf) ?_; conv => whnf)
    | (refine run_ok tabOk _ _ _ ?_; conv => whnf)
    | (refine And.intro (Eq.refl true) ?_)
    | (refine And.intro rfl (And.intro (fun h => by cases h) ?_); conv => whnf)
    | (refine And.intro rfl (And.intro rfl ?_); conv => whnf)
    | (refine And.intro rfl ?_; conv => whnf)
    | (refine ways (fun h => ?_) (fun h => ?_) <;> conv => whnf)
  all_goals (refine fin_turnedK rfl ?_; conv => whnf)
  repeat' first
    | (refine And.intro (Eq.refl true) ?_)
    | (refine And.intro rfl (And.intro (fun h => by cases h) ?_); conv => whnf)
    | (refine And.intro rfl (And.intro rfl ?_); conv => whnf)
    | (refine And.intro rfl ?_; conv => whnf)
  all_goals (refine fin_turnedK rfl ?_; conv => whnf)
  all_goals refine ⟨?_, rfl⟩
  all_goals (simp only [okc, *]; try rfl)
def vwin (n x : Int) : Bool := !(decide (n < 0)) && (!(decide (x < wrapS .i64 (0 - n))) && !(decide (x > n)))
theorem VWithin_c (G) (a b c n : Int) : AC Tryd.prog G 98 [V3 a b c, I64 n] [] (fun v h => v = .bool (vwin n a && (vwin n b && vwin n c)) ∧ h = []) := by
  refine ac_of_body tabOk has98 ?_
  unfold BodyOk
  conv => whnf
  refine ac_of_body tabOk has78 ?_
  unfold BodyOk
  conv => whnf
  refine ⟨rfl, fin_all [_, _, _, _] [_] rfl rfl rfl rfl rfl ?_⟩
  conv => whnf
  refine aw_rangeK tabOk ?_
  conv => whnf
  intro l fn
  refine ac_of_body tabOk has85 ?_
  unfold BodyOk
  conv => whnf
  repeat' first
    | (refine aw_rounds tabOk 5 ?_; conv => whnf)
    | (refine ao_yieldK 6 2 rfl rfl (by conv => whnf) ?_; conv => whnf)
    | (refine run_ok tabOk _ _ _ ?_; conv => whnf)
    | (refine And.intro (Eq.refl true) ?_)
    | (refine And.intro rfl (And.intro (fun h => by cases h) ?_); conv => whnf)
    | (refine And.intro rfl (And.intro rfl ?_); conv => whnf)
    | (refine And.intro rfl ?_; conv => whnf)
    | (refine ways (fun h => ?_) (fun h => ?_) <;> conv => whnf)
  all_goals (refine fin_turnedK rfl ?_; conv => whnf)
  repeat' first
    | (refine And.intro (Eq.refl true) ?_)
    | (refine And.intro rfl (And.intro (fun h => by cases h) ?_); conv => whnf)
    | (refine And.intro rfl (And.intro rfl ?_); conv => whnf)
    | (refine And.intro rfl ?_; conv => whnf)
  all_goals (refine fin_turnedK rfl ?_; conv => whnf)
  all_goals refine ⟨?_, rfl⟩
  all_goals first | (simp only [vwin, *]; done) | (simp_all [vwin]; done)
def rwin (n x : Int) : Bool := !(decide (n < 0)) && (!(decide (x > n)) && !(decide (x < wrapS .i64 (0 - n))))
theorem Within_c (G) (a b c n : Int) : AC Tryd.prog G 45 [V3 a b c, I64 n] [] (fun v h => v = .bool (rwin n a && (rwin n b && rwin n c)) ∧ h = []) := by
  refine ac_of_body tabOk has45 ?_
  unfold BodyOk
  conv => whnf
  refine aw_rounds tabOk 4 ?_
  conv => whnf
  repeat' first
    | (refine way0 ‹_› ?_; conv => whnf)
    | (refine way1 ‹_› ?_; conv => whnf)
    | (refine ways (fun h => ?_) (fun h => ?_) <;> conv => whnf)
  all_goals refine ⟨rfl, fin_turnedK rfl ?_⟩
  all_goals (conv => whnf)
  all_goals refine ⟨?_, rfl⟩
  all_goals first | (simp only [rwin, *]; done) | (simp_all [rwin]; done)
def sel (b : Bool) (p : Int) : Int := match b with
  | true => p
  | false => 0
def err (b : Bool) : Int := match b with
  | true => 0
  | false => 20
theorem notF {b : Bool} (h : (!b) = true) : b = false := by simpa using h
theorem notT {b : Bool} (h : (!b) = false) : b = true := by simpa using h
def ok6 (a b c x y z : Int) : Bool := okc a && (okc b && (okc c && (okc x && (okc y && okc z))))
def cr (a b x y : Int) : Int := wrapS .i64 (wrapS .i64 (a * y) - wrapS .i64 (b * x))
theorem Cross_c (G) (a b c x y z : Int) : AC Tryd.prog G 56 [V3 a b c, V3 x y z] [] (fun v h => v = .tuple #[V3 (sel (ok6 a b c x y z) (cr b c y z)) (sel (ok6 a b c x y z) (cr c a z x)) (sel (ok6 a b c x y z) (cr a b x y)), I64 (err (ok6 a b c x y z))] ∧ h = []) := by
  refine ac_of_body tabOk has56 ?_
  unfold BodyOk
  conv => whnf
  refine ac_read [3] (Fine2 G a b c x y z) rfl rfl ⟨⟨by decide, rfl, _, rfl⟩, trivial⟩ ?_
  rintro v h' ⟨rfl, rfl⟩
  refine ⟨rfl, rfl, ?_⟩
  conv => whnf
  refine ways (fun h => ?_) (fun h => ?_) <;> conv => whnf
  · refine ⟨rfl, fin_turnedK rfl ?_⟩
    conv => whnf
    have h6 : ok6 a b c x y z = false := notF h
    refine ⟨by rw [h6]; rfl, rfl⟩
  have h6 : ok6 a b c x y z = true := notT h
  rw [h6]
  refine aw_rounds tabOk 5 ?_
  conv => whnf
  repeat' first
    | (refine ad_of tabOk (by kernel_rfl) [(0, false), (1, false), (2, false), (3, false), (4, false), (5, false), (6, false), (7, false), (8, false), (9, false), (10, false), (11, false), (12, false), (13, false), (14, false), (15, false), (16, false), (17, true)] (by kernel_rfl) ?_; conv => whnf)
    | (refine And.intro (Eq.refl true) ?_)
  refine fin_turnedK rfl ?_
  conv => whnf
  exact ⟨rfl, rfl⟩
theorem rwin_okc (x : Int) : rwin 536870912 x = okc x := by
  unfold rwin okc
  have e : wrapS .i64 (0 - 536870912) = -536870912 := by decide
  have e2 : decide ((536870912 : Int) < 0) = false := by decide
  rw [e, e2, Bool.and_comm]
  simp [Bool.and_comm]
theorem RFine2 (G) (a b c x y z : Int) : AC Tryd.prog G 69 [slc 0 0 2 2] [.cells #[I64 a, I64 b, I64 c, I64 x, I64 y, I64 z] 59 (1, 0)] (fun v h => v = .bool (ok6 a b c x y z) ∧ h = [.cells #[I64 a, I64 b, I64 c, I64 x, I64 y, I64 z] 59 (1, 0)]) := by
  have h1 : ∀ a b c, (rwin 536870912 a && (rwin 536870912 b && rwin 536870912 c)) = (okc a && (okc b && okc c)) := fun a b c => by rw [rwin_okc, rwin_okc, rwin_okc]
  refine ac_of_body tabOk has69 ?_
  unfold BodyOk
  conv => whnf
  refine aw_rounds tabOk 3 ?_
  conv => whnf
  refine ac_pure (Within_c G a b c 536870912) rfl ?_
  rintro v h' ⟨rfl, rfl⟩
  refine ⟨rfl, rfl, ?_⟩
  conv => whnf
  rw [h1]
  refine ways (fun h => ?_) (fun h => ?_) <;> conv => whnf
  · refine ⟨rfl, fin_turnedK rfl ?_⟩
    conv => whnf
    refine ⟨?_, rfl⟩
    have := notF h
    unfold ok6
    simp only [Bool.and_eq_false_iff] at this
    rcases this with h | h | h <;> simp [h]
  have e1 := notT h
  refine ac_pure (Within_c G x y z 536870912) rfl ?_
  rintro v h' ⟨rfl, rfl⟩
  refine ⟨rfl, rfl, ?_⟩
  conv => whnf
  rw [h1]
  refine ways (fun h => ?_) (fun h => ?_) <;> conv => whnf
  · refine ⟨rfl, fin_turnedK rfl ?_⟩
    conv => whnf
    refine ⟨?_, rfl⟩
    have := notF h
    unfold ok6
    simp only [Bool.and_eq_false_iff] at this
    rcases this with h | h | h <;> simp [h]
  have e2 := notT h
  refine ⟨rfl, fin_turnedK rfl ?_⟩
  conv => whnf
  refine ⟨?_, rfl⟩
  unfold ok6
  simp only [Bool.and_eq_true] at e1 e2
  simp [e1, e2]
theorem RCross_c (G) (a b c x y z : Int) : AC Tryd.prog G 57 [V3 a b c, V3 x y z] [] (fun v h => v = .tuple #[V3 (sel (ok6 a b c x y z) (cr b c y z)) (sel (ok6 a b c x y z) (cr c a z x)) (sel (ok6 a b c x y z) (cr a b x y)), I64 (err (ok6 a b c x y z))] ∧ h = []) := by
  refine ac_of_body tabOk has57 ?_
  unfold BodyOk
  conv => whnf
  refine ac_read [3] (RFine2 G a b c x y z) rfl rfl ⟨⟨by decide, rfl, _, rfl⟩, trivial⟩ ?_
  rintro v h' ⟨rfl, rfl⟩
  refine ⟨rfl, rfl, ?_⟩
  conv => whnf
  refine ways (fun h => ?_) (fun h => ?_) <;> conv => whnf
  · refine ⟨rfl, fin_turnedK rfl ?_⟩
    conv => whnf
    have h6 : ok6 a b c x y z = false := notF h
    refine ⟨by rw [h6]; rfl, rfl⟩
  have h6 : ok6 a b c x y z = true := notT h
  rw [h6]
  refine ⟨rfl, fin_turnedK rfl ?_⟩
  conv => whnf
  exact ⟨rfl, rfl⟩
end Go.Proofs.YtjpjnjidchdlbaaDoor
