/-
  VecCross: it hands back true, at whatever two points.
-/
import Derived.Test.YtjpjnjidchdlbaaVecF
namespace Go.Proofs.Ytjpjnjidchdlbaa
set_option linter.unusedSimpArgs false
set_option linter.unusedVariables false
open Go
set_option maxRecDepth 100000
set_option maxHeartbeats 4000000
theorem VecCross_c (G) (a b c x y z : Int) : AC Try.prog G 3 [V3 a b c, V3 x y z] [] (fun v h => v = .bool true ∧ h = []) := by
  refine ac_of_body tabOk has3 ?_
  unfold BodyOk
  conv => whnf
  refine ac_read [2] (small2_c G a b c x y z) rfl rfl ⟨⟨by decide, rfl, _, rfl⟩, trivial⟩ ?_
  rintro v h' ⟨rfl, rfl⟩
  refine ⟨rfl, rfl, ?_⟩
  conv => whnf
  refine ways (fun h1 => ?_) (fun h1 => ?_) <;> conv => whnf
  · refine ac_read [] (wakes_c G) (by simp [r3, r2, r1, r0]) rfl trivial ?_
    rintro v h' ⟨rfl, rfl⟩
    refine ⟨rfl, rfl, ?_⟩
    conv => whnf
    refine ⟨rfl, fin_turnedK rfl ?_⟩
    conv => whnf
    exact ⟨rfl, rfl⟩
  have h2 := notT h1
  simp only [Bool.and_eq_true] at h2
  obtain ⟨⟨ha, hb, hc⟩, hx, hy, hz⟩ := h2
  have o1 : ok6 a b c x y z = true := ok6_of (rwin_okc ha) (rwin_okc hb) (rwin_okc hc) (rwin_okc hx) (rwin_okc hy) (rwin_okc hz)
  have o2 : ok6 x y z a b c = true := ok6_of (rwin_okc hx) (rwin_okc hy) (rwin_okc hz) (rwin_okc ha) (rwin_okc hb) (rwin_okc hc)
  have o3 : ok6 a b c a b c = true := ok6_of (rwin_okc ha) (rwin_okc hb) (rwin_okc hc) (rwin_okc ha) (rwin_okc hb) (rwin_okc hc)
  have o4 : ok6 x y z x y z = true := ok6_of (rwin_okc hx) (rwin_okc hy) (rwin_okc hz) (rwin_okc hx) (rwin_okc hy) (rwin_okc hz)
  refine ac_read [] (Cross_ok G a b c x y z o1) (by simp [r3, r2, r1, r0]) rfl trivial ?_
  rintro v h' ⟨rfl, rfl⟩
  refine ⟨rfl, rfl, ?_⟩
  conv => whnf
  refine ac_read [] (Cross_ok G x y z a b c o2) (by simp [r3, r2, r1, r0]) rfl trivial ?_
  rintro v h' ⟨rfl, rfl⟩
  refine ⟨rfl, rfl, ?_⟩
  conv => whnf
  refine ac_read [] (Cross_ok G a b c a b c o3) (by simp [r3, r2, r1, r0]) rfl trivial ?_
  rintro v h' ⟨rfl, rfl⟩
  refine ⟨rfl, rfl, ?_⟩
  conv => whnf
  refine ac_read [] (Dot_ok G a b c x y z o1) (by simp [r3, r2, r1, r0]) rfl trivial ?_
  rintro v h' ⟨rfl, rfl⟩
  refine ⟨rfl, rfl, ?_⟩
  conv => whnf
  refine ac_read [] (Dot_ok G a b c a b c o3) (by simp [r3, r2, r1, r0]) rfl trivial ?_
  rintro v h' ⟨rfl, rfl⟩
  refine ⟨rfl, rfl, ?_⟩
  conv => whnf
  refine ac_read [] (Dot_ok G x y z x y z o4) (by simp [r3, r2, r1, r0]) rfl trivial ?_
  rintro v h' ⟨rfl, rfl⟩
  refine ⟨rfl, rfl, ?_⟩
  conv => whnf
  have _ := rwin_bd ha
  have _ := rwin_bd hb
  have _ := rwin_bd hc
  have _ := rwin_bd hx
  have _ := rwin_bd hy
  have _ := rwin_bd hz
  repeat' first
    | (refine way0 (by simp (disch := decide) only [wrapS_c]; grind) ?_; conv => whnf)
    | (refine way1 (by simp (disch := decide) only [wrapS_c]; grind) ?_; conv => whnf)
    | (refine way0 (by grind) ?_; conv => whnf)
    | (refine way1 (by grind) ?_; conv => whnf)
  refine ac_read [] (wakes_c G) (by simp [r3, r2, r1, r0]) rfl trivial ?_
  rintro v h' ⟨rfl, rfl⟩
  refine ⟨rfl, rfl, ?_⟩
  conv => whnf
  refine ⟨rfl, fin_turnedK rfl ?_⟩
  conv => whnf
  exact ⟨rfl, rfl⟩
end Go.Proofs.Ytjpjnjidchdlbaa
