/-
  The functions of vec that ask no other: what they compute.
-/
import Derived.Test.YtjpjnjidchdlbaaTab
import Derived.Test.YtjpjnjidchdlbaaEngU
namespace Go.Proofs.Ytjpjnjidchdlbaa
set_option linter.unusedSimpArgs false
set_option linter.unusedVariables false
open Go
set_option maxRecDepth 100000
set_option maxHeartbeats 4000000
theorem has3 : Has Try.prog 3 Try.f3 := ⟨Try.func3, by kernel_rfl, by kernel_rfl⟩
theorem has4 : Has Try.prog 4 Try.f4 := ⟨Try.func4, by kernel_rfl, by kernel_rfl⟩
theorem has5 : Has Try.prog 5 Try.f5 := ⟨Try.func5, by kernel_rfl, by kernel_rfl⟩
theorem has6 : Has Try.prog 6 Try.f6 := ⟨Try.func6, by kernel_rfl, by kernel_rfl⟩
theorem has7 : Has Try.prog 7 Try.f7 := ⟨Try.func7, by kernel_rfl, by kernel_rfl⟩
theorem has8 : Has Try.prog 8 Try.f8 := ⟨Try.func8, by kernel_rfl, by kernel_rfl⟩
theorem has9 : Has Try.prog 9 Try.f9 := ⟨Try.func9, by kernel_rfl, by kernel_rfl⟩
theorem has10 : Has Try.prog 10 Try.f10 := ⟨Try.func10, by kernel_rfl, by kernel_rfl⟩
theorem has11 : Has Try.prog 11 Try.f11 := ⟨Try.func11, by kernel_rfl, by kernel_rfl⟩
theorem has12 : Has Try.prog 12 Try.f12 := ⟨Try.func12, by kernel_rfl, by kernel_rfl⟩
theorem has13 : Has Try.prog 13 Try.f13 := ⟨Try.func13, by kernel_rfl, by kernel_rfl⟩
theorem has14 : Has Try.prog 14 Try.f14 := ⟨Try.func14, by kernel_rfl, by kernel_rfl⟩
theorem has15 : Has Try.prog 15 Try.f15 := ⟨Try.func15, by kernel_rfl, by kernel_rfl⟩
theorem has16 : Has Try.prog 16 Try.f16 := ⟨Try.func16, by kernel_rfl, by kernel_rfl⟩
theorem has17 : Has Try.prog 17 Try.f17 := ⟨Try.func17, by kernel_rfl, by kernel_rfl⟩
theorem has18 : Has Try.prog 18 Try.f18 := ⟨Try.func18, by kernel_rfl, by kernel_rfl⟩
theorem has19 : Has Try.prog 19 Try.f19 := ⟨Try.func19, by kernel_rfl, by kernel_rfl⟩
theorem has20 : Has Try.prog 20 Try.f20 := ⟨Try.func20, by kernel_rfl, by kernel_rfl⟩
theorem has21 : Has Try.prog 21 Try.f21 := ⟨Try.func21, by kernel_rfl, by kernel_rfl⟩
theorem has22 : Has Try.prog 22 Try.f22 := ⟨Try.func22, by kernel_rfl, by kernel_rfl⟩
theorem has23 : Has Try.prog 23 Try.f23 := ⟨Try.func23, by kernel_rfl, by kernel_rfl⟩
theorem has24 : Has Try.prog 24 Try.f24 := ⟨Try.func24, by kernel_rfl, by kernel_rfl⟩
theorem has25 : Has Try.prog 25 Try.f25 := ⟨Try.func25, by kernel_rfl, by kernel_rfl⟩
theorem has26 : Has Try.prog 26 Try.f26 := ⟨Try.func26, by kernel_rfl, by kernel_rfl⟩
theorem has27 : Has Try.prog 27 Try.f27 := ⟨Try.func27, by kernel_rfl, by kernel_rfl⟩
theorem has28 : Has Try.prog 28 Try.f28 := ⟨Try.func28, by kernel_rfl, by kernel_rfl⟩
theorem has29 : Has Try.prog 29 Try.f29 := ⟨Try.func29, by kernel_rfl, by kernel_rfl⟩
theorem has30 : Has Try.prog 30 Try.f30 := ⟨Try.func30, by kernel_rfl, by kernel_rfl⟩
theorem has31 : Has Try.prog 31 Try.f31 := ⟨Try.func31, by kernel_rfl, by kernel_rfl⟩
theorem has32 : Has Try.prog 32 Try.f32 := ⟨Try.func32, by kernel_rfl, by kernel_rfl⟩
theorem has33 : Has Try.prog 33 Try.f33 := ⟨Try.func33, by kernel_rfl, by kernel_rfl⟩
theorem has34 : Has Try.prog 34 Try.f34 := ⟨Try.func34, by kernel_rfl, by kernel_rfl⟩
theorem has35 : Has Try.prog 35 Try.f35 := ⟨Try.func35, by kernel_rfl, by kernel_rfl⟩
theorem has36 : Has Try.prog 36 Try.f36 := ⟨Try.func36, by kernel_rfl, by kernel_rfl⟩
theorem has37 : Has Try.prog 37 Try.f37 := ⟨Try.func37, by kernel_rfl, by kernel_rfl⟩
theorem has38 : Has Try.prog 38 Try.f38 := ⟨Try.func38, by kernel_rfl, by kernel_rfl⟩
theorem has39 : Has Try.prog 39 Try.f39 := ⟨Try.func39, by kernel_rfl, by kernel_rfl⟩
theorem has40 : Has Try.prog 40 Try.f40 := ⟨Try.func40, by kernel_rfl, by kernel_rfl⟩
theorem has41 : Has Try.prog 41 Try.f41 := ⟨Try.func41, by kernel_rfl, by kernel_rfl⟩
theorem has42 : Has Try.prog 42 Try.f42 := ⟨Try.func42, by kernel_rfl, by kernel_rfl⟩
theorem has43 : Has Try.prog 43 Try.f43 := ⟨Try.func43, by kernel_rfl, by kernel_rfl⟩
theorem has44 : Has Try.prog 44 Try.f44 := ⟨Try.func44, by kernel_rfl, by kernel_rfl⟩
theorem has45 : Has Try.prog 45 Try.f45 := ⟨Try.func45, by kernel_rfl, by kernel_rfl⟩
theorem has46 : Has Try.prog 46 Try.f46 := ⟨Try.func46, by kernel_rfl, by kernel_rfl⟩
theorem has47 : Has Try.prog 47 Try.f47 := ⟨Try.func47, by kernel_rfl, by kernel_rfl⟩
theorem has48 : Has Try.prog 48 Try.f48 := ⟨Try.func48, by kernel_rfl, by kernel_rfl⟩
theorem has49 : Has Try.prog 49 Try.f49 := ⟨Try.func49, by kernel_rfl, by kernel_rfl⟩
theorem has50 : Has Try.prog 50 Try.f50 := ⟨Try.func50, by kernel_rfl, by kernel_rfl⟩
theorem has51 : Has Try.prog 51 Try.f51 := ⟨Try.func51, by kernel_rfl, by kernel_rfl⟩
theorem has52 : Has Try.prog 52 Try.f52 := ⟨Try.func52, by kernel_rfl, by kernel_rfl⟩
theorem has53 : Has Try.prog 53 Try.f53 := ⟨Try.func53, by kernel_rfl, by kernel_rfl⟩
theorem has54 : Has Try.prog 54 Try.f54 := ⟨Try.func54, by kernel_rfl, by kernel_rfl⟩
theorem has55 : Has Try.prog 55 Try.f55 := ⟨Try.func55, by kernel_rfl, by kernel_rfl⟩
theorem has56 : Has Try.prog 56 Try.f56 := ⟨Try.func56, by kernel_rfl, by kernel_rfl⟩
theorem has57 : Has Try.prog 57 Try.f57 := ⟨Try.func57, by kernel_rfl, by kernel_rfl⟩
theorem has58 : Has Try.prog 58 Try.f58 := ⟨Try.func58, by kernel_rfl, by kernel_rfl⟩
abbrev V3 (a b c : Int) : Value := .agg #[.int .i64 a, .int .i64 b, .int .i64 c]
abbrev I64 (n : Int) : Value := .int .i64 n
abbrev pts (l : List Int) : Obj := .cells ⟨l.map I64⟩ 23 (1, 0)
/-- may a part be? -/
def okc (x : Int) : Bool := !(decide (x < -536870912)) && !(decide (x > 536870912))
theorem Fine0 (G) : AC Try.prog G 22 [.slice none 0 0] [] (fun v h => v = .bool true ∧ h = []) := by
  refine ac_of_body tabOk has22 ?_
  unfold BodyOk
  conv => whnf
  refine ac_of_body tabOk has35 ?_
  unfold BodyOk
  conv => whnf
  refine ⟨rfl, fin_all [_] [_] rfl rfl rfl rfl rfl ?_⟩
  conv => whnf
  refine aw_rangeK tabOk ?_
  conv => whnf
  intro l fn
  refine ac_of_body tabOk has49 ?_
  unfold BodyOk
  conv => whnf
  repeat' first
    | (refine aw_rounds tabOk 5 ?_; conv => whnf)
    | (refine ao_yieldK 3 2 rfl rfl (by conv => whnf) ?_; conv => whnf)
    | (refine run_ok tabOk _ _ _ ?_; conv => whnf)
    | (refine And.intro (Eq.refl true) ?_)
    | (refine And.intro rfl (And.intro (fun h => by cases h) ?_); conv => whnf)
    | (refine And.intro rfl (And.intro rfl ?_); conv => whnf)
    | (refine And.intro rfl ?_; conv => whnf)
    | (refine ways (fun h => ?_) (fun h => ?_) <;> conv => whnf)
  all_goals (refine fin_turnedK rfl ?_; conv => whnf)
  repeat' first
    | (refine And.intro (Eq.refl true) ?_)
    | (refine And.intro rfl (And.intro (fun h => by cases h) ?_); conv => whnf)
    | (refine And.intro rfl (And.intro rfl ?_); conv => whnf)
    | (refine And.intro rfl ?_; conv => whnf)
  all_goals (refine fin_turnedK rfl ?_; conv => whnf)
  exact ⟨rfl, rfl⟩
theorem Fine1 (G) (a b c : Int) : AC Try.prog G 22 [slc 0 0 1 1] [.cells #[I64 a, I64 b, I64 c] 23 (1, 0)] (fun v h => v = .bool (okc a && (okc b && okc c)) ∧ h = [.cells #[I64 a, I64 b, I64 c] 23 (1, 0)]) := by
  refine ac_of_body tabOk has22 ?_
  unfold BodyOk
  conv => whnf
  refine ac_of_body tabOk has35 ?_
  unfold BodyOk
  conv => whnf
  refine ⟨rfl, fin_all [_, _] [_] rfl rfl rfl rfl rfl ?_⟩
  conv => whnf
  refine aw_rangeK tabOk ?_
  conv => whnf
  intro l fn
  refine ac_of_body tabOk has49 ?_
  unfold BodyOk
  conv => whnf
  repeat' first
    | (refine aw_rounds tabOk 5 ?_; conv => whnf)
    | (refine ao_yieldK 4 2 rfl rfl (by conv => whnf) ?_; conv => whnf)
    | (refine run_ok tabOk _ _ _ ?_; conv => whnf)
    | (refine And.intro (Eq.refl true) ?_)
    | (refine And.intro rfl (And.intro (fun h => by cases h) ?_); conv => whnf)
    | (refine And.intro rfl (And.intro rfl ?_); conv => whnf)
    | (refine And.intro rfl ?_; conv => whnf)
    | (refine ways (fun h => ?_) (fun h => ?_) <;> conv => whnf)
  all_goals (refine fin_turnedK rfl ?_; conv => whnf)
  repeat' first
    | (refine And.intro (Eq.refl true) ?_)
    | (refine And.intro rfl (And.intro (fun h => by cases h) ?_); conv => whnf)
    | (refine And.intro rfl (And.intro rfl ?_); conv => whnf)
    | (refine And.intro rfl ?_; conv => whnf)
  all_goals (refine fin_turnedK rfl ?_; conv => whnf)
  all_goals refine ⟨?_, rfl⟩
  all_goals (simp only [okc, *]; try rfl)
theorem Fine2 (G) (a b c x y z : Int) : AC Try.prog G 22 [slc 0 0 2 2] [.cells #[I64 a, I64 b, I64 c, I64 x, I64 y, I64 z] 23 (1, 0)] (fun v h => v = .bool (okc a && (okc b && (okc c && (okc x && (okc y && okc z))))) ∧ h = [.cells #[I64 a, I64 b, I64 c, I64 x, I64 y, I64 z] 23 (1, 0)]) := by
  refine ac_of_body tabOk has22 ?_
  unfold BodyOk
  conv => whnf
  refine ac_of_body tabOk has35 ?_
  unfold BodyOk
  conv => whnf
  refine ⟨rfl, fin_all [_, _] [_] rfl rfl rfl rfl rfl ?_⟩
  conv => whnf
  refine aw_rangeK tabOk ?_
  conv => whnf
  intro l fn
  refine ac_of_body tabOk has49 ?_
  unfold BodyOk
  conv => whnf
  repeat' first
    | (refine aw_rounds tabOk 5 ?_; conv => whnf)
    | (refine ao_yieldK 4 2 rfl rfl (by conv => whnf) ?_; conv => whnf)
    | (refine run_ok tabOk _ _ _ ?_; conv => whnf)
    | (refine And.intro (Eq.refl true) ?_)
    | (refine And.intro rfl (And.intro (fun h => by cases h) ?_); conv => whnf)
    | (refine And.intro rfl (And.intro rfl ?_); conv => whnf)
    | (refine And.intro rfl ?_; conv => whnf)
    | (refine ways (fun h => ?_) (fun h => ?_) <;> conv => whnf)
  all_goals (refine fin_turnedK rfl ?_; conv => whnf)
  repeat' first
    | (refine And.intro (Eq.refl true) ?_)
    | (refine And.intro rfl (And.intro (fun h => by cases h) ?_); conv => whnf)
    | (refine And.intro rfl (And.intro rfl ?_); conv => whnf)
    | (refine And.intro rfl ?_; conv => whnf)
  all_goals (refine fin_turnedK rfl ?_; conv => whnf)
  all_goals refine ⟨?_, rfl⟩
  all_goals (simp only [okc, *]; try rfl)
theorem Neg_c (G) (a b c : Int) : AC Try.prog G 17 [V3 a b c] [] (fun v h => v = V3 (wrapS .i64 (0 - a)) (wrapS .i64 (0 - b)) (wrapS .i64 (0 - c)) ∧ h = []) := by
  refine ac_of_body tabOk has17 ?_
  unfold BodyOk
  conv => whnf
  refine ac_of_body tabOk has35 ?_
  unfold BodyOk
  conv => whnf
  refine ⟨rfl, fin_all [_, _, _] [_] rfl rfl rfl rfl rfl ?_⟩
  conv => whnf
  refine aw_rangeK tabOk ?_
  conv => whnf
  intro l fn
  refine ac_of_body tabOk has49 ?_
  unfold BodyOk
  conv => whnf
  repeat' first
    | (refine aw_rounds tabOk 5 ?_; conv => whnf)
    | (refine ao_yieldK 5 2 rfl rfl (by conv => whnf) ?_; conv => whnf)
    | (refine run_ok tabOk _ _ _ ?_; conv => whnf)
    | (refine And.intro (Eq.refl true) ?_)
    | (refine And.intro rfl (And.intro (fun h => by cases h) ?_); conv => whnf)
    | (refine And.intro rfl (And.intro rfl ?_); conv => whnf)
    | (refine And.intro rfl ?_; conv => whnf)
    | (refine ways (fun h => ?_) (fun h => ?_) <;> conv => whnf)
  all_goals (refine fin_turnedK rfl ?_; conv => whnf)
  repeat' first
    | (refine And.intro (Eq.refl true) ?_)
    | (refine And.intro rfl (And.intro (fun h => by cases h) ?_); conv => whnf)
    | (refine And.intro rfl (And.intro rfl ?_); conv => whnf)
    | (refine And.intro rfl ?_; conv => whnf)
  all_goals (refine fin_turnedK rfl ?_; conv => whnf)
  exact ⟨rfl, rfl⟩
/-- is a part within n? (vec.Within) -/
def vwin (n x : Int) : Bool := !(decide (n < 0)) && (!(decide (x < wrapS .i64 (0 - n))) && !(decide (x > n)))
theorem VWithin_c (G) (a b c n : Int) : AC Try.prog G 34 [V3 a b c, I64 n] [] (fun v h => v = .bool (vwin n a && (vwin n b && vwin n c)) ∧ h = []) := by
  refine ac_of_body tabOk has34 ?_
  unfold BodyOk
  conv => whnf
  refine ac_of_body tabOk has35 ?_
  unfold BodyOk
  conv => whnf
  refine ⟨rfl, fin_all [_, _, _, _] [_] rfl rfl rfl rfl rfl ?_⟩
  conv => whnf
  refine aw_rangeK tabOk ?_
  conv => whnf
  intro l fn
  refine ac_of_body tabOk has49 ?_
  unfold BodyOk
  conv => whnf
  repeat' first
    | (refine aw_rounds tabOk 5 ?_; conv => whnf)
    | (refine ao_yieldK 6 2 rfl rfl (by conv => whnf) ?_; conv => whnf)
    | (refine run_ok tabOk _ _ _ ?_; conv => whnf)
    | (refine And.intro (Eq.refl true) ?_)
    | (refine And.intro rfl (And.intro (fun h => by cases h) ?_); conv => whnf)
    | (refine And.intro rfl (And.intro rfl ?_); conv => whnf)
    | (refine And.intro rfl ?_; conv => whnf)
    | (refine ways (fun h => ?_) (fun h => ?_) <;> conv => whnf)
  all_goals (refine fin_turnedK rfl ?_; conv => whnf)
  repeat' first
    | (refine And.intro (Eq.refl true) ?_)
    | (refine And.intro rfl (And.intro (fun h => by cases h) ?_); conv => whnf)
    | (refine And.intro rfl (And.intro rfl ?_); conv => whnf)
    | (refine And.intro rfl ?_; conv => whnf)
  all_goals (refine fin_turnedK rfl ?_; conv => whnf)
  all_goals refine ⟨?_, rfl⟩
  all_goals first | (simp only [vwin, *]; done) | (simp_all [vwin]; done)
/-- ref's Within -/
def rwin (n x : Int) : Bool := !(decide (n < 0)) && (!(decide (x > n)) && !(decide (x < wrapS .i64 (0 - n))))
theorem Within_c (G) (a b c n : Int) : AC Try.prog G 19 [V3 a b c, I64 n] [] (fun v h => v = .bool (rwin n a && (rwin n b && rwin n c)) ∧ h = []) := by
  refine ac_of_body tabOk has19 ?_
  unfold BodyOk
  conv => whnf
  refine aw_rounds tabOk 4 ?_
  conv => whnf
  repeat' first
    | (refine way0 ‹_› ?_; conv => whnf)
    | (refine way1 ‹_› ?_; conv => whnf)
    | (refine ways (fun h => ?_) (fun h => ?_) <;> conv => whnf)
  all_goals refine ⟨rfl, fin_turnedK rfl ?_⟩
  all_goals (conv => whnf)
  all_goals refine ⟨?_, rfl⟩
  all_goals first | (simp only [rwin, *]; done) | (simp_all [rwin]; done)
end Go.Proofs.Ytjpjnjidchdlbaa
