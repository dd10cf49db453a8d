/-
  Scopes; state.Row in whatever heap (no condition).
-/
import Derived.Test.YtjpjnjidchdlbaaStH
import Derived.ScopeJumps
namespace Go.Proofs.Ytjpjnjidchdlbaa
set_option linter.unusedSimpArgs false
set_option linter.unusedVariables false
open Go
set_option maxRecDepth 100000
set_option maxHeartbeats 4000000
section
variable {P : Program} {T : Tab} {G : List (Nat × Obj)}
/-- a scope from which the run jumps at most once, to label l -/
theorem aw_scope (hT : TabOk P T) {c rest : Code} (l : Nat) (hf : findLabel c l = some rest) {s : St} {K : Exit → St → Prop} (h : run P T G none c s fun e s' => match e with
    | .normal => K .normal s'
    | .exit i => K (.exit i) s'
    | .ret => K .ret s'
    | .goto l' => l' = l ∧ run P T G none rest s' fun e s2 => match e with
      | .normal => K .normal s2
      | .exit i => K (.exit i) s2
      | .ret => K .ret s2
      | _ => False
    | _ => False) : AW P G none (.scope c) s K := by
  unfold AW
  intro r a w R
  refine wpIn_wide.2 (wp_scope_jumps l (fun a' w' => ∃ r' s', Step r s.h w r' s'.h w' ∧ RepS G r' s' a' w' ∧ run P T G none rest s' fun e s2 => match e with
      | .normal => K .normal s2
      | .exit i => K (.exit i) s2
      | .ret => K .ret s2
      | _ => False) (fun _ _ => 0) hf (wpIn_wide.1 (wpIn_mono (aw_out (run_ok hT c s _ h) R) ?_)) ?_)
  · rintro e a' w' ⟨r', s', S, R', k⟩
    cases e <;> first | exact k.elim | skip
    · exact ⟨r', s', S, R', k⟩
    · exact ⟨r', s', S, R', k⟩
    · exact ⟨k.1, r', s', S, R', k.2⟩
    · exact ⟨r', s', S, R', k⟩
  · rintro a1 w1 ⟨r1, s1, S1, R1, h1⟩
    refine (wpIn_wide (n := 0)).1 (wpIn_mono (aw_out (run_ok hT rest s1 _ h1) R1) ?_)
    rintro e a' w' ⟨r', s', S, R', k⟩
    cases e <;> first | exact k.elim | skip
    · exact ⟨r', s', S1.trans S, R', k⟩
    · exact ⟨r', s', S1.trans S, R', k⟩
    · exact ⟨r', s', S1.trans S, R', k⟩
end
theorem Row24_e (G) (step : Int) (c0 : Array Value) (t0 : TypeId) (off cap : Nat) (l : List Bd) (hw : WinB c0 off l) (hcap : l.length ≤ cap) (hl : l.length ≤ 1000000000000) (hno : okState step l = false) :
    AC Try.prog G 24 [.agg #[I64 step, slc 0 off l.length cap]] [.pending c0 t0] (fun v h => v = .tuple #[.slice none 0 0, I64 2] ∧ h = [.pending c0 t0]) := by
  refine ac_of_body tabOk has24 ?_
  unfold BodyOk
  conv => whnf
  refine ac_mono (Right_s G step (l := l) (.inr ⟨0, off, cap, c0, t0, rfl, .inl rfl, hw, hcap⟩) hl) ?_
  rintro v h' ⟨rfl, rfl⟩
  rw [hno]
  conv => whnf
  refine ⟨rfl, fin_turnedK rfl ?_⟩
  conv => whnf
  exact ⟨rfl, rfl⟩
theorem Row24_n (G) (step : Int)  (hno : okState step [] = false) :
    AC Try.prog G 24 [.agg #[I64 step, .slice none 0 0]] [] (fun v h => v = .tuple #[.slice none 0 0, I64 2] ∧ h = []) := by
  refine ac_of_body tabOk has24 ?_
  unfold BodyOk
  conv => whnf
  refine ac_mono (Right_s G step (l := []) (.inl ⟨rfl, rfl⟩) (by simp)) ?_
  rintro v h' ⟨rfl, rfl⟩
  rw [hno]
  conv => whnf
  refine ⟨rfl, fin_turnedK rfl ?_⟩
  conv => whnf
  exact ⟨rfl, rfl⟩
theorem Row24_no (G) (step : Int) {h : List Obj} {bs : Value} {l : List Bd} (hs : SlB h bs l) (hl : l.length ≤ 1000000000000) (hno : okState step l = false) :
    AC Try.prog G 24 [.agg #[I64 step, bs]] h (fun v h' => v = .tuple #[.slice none 0 0, I64 2] ∧ h' = h) := by
  rcases hs with ⟨rfl, rfl⟩ | ⟨m, off, cap, c, t, rfl, h2, h4, h5⟩
  · refine ac_readF [] (Row24_n G step hno) (by simp [r3, r2, r1, r0]) rfl cold_0 ?_
    rintro v h' ⟨rfl, rfl⟩
    exact ⟨rfl, rfl, rfl, rfl⟩
  · refine ac_readF [m] (Row24_e G step c t off cap l h4 h5 hl hno) (by simp [r3, r2, r1, r0, rA, nu]) rfl (cold_p h2) ?_
    rintro v h' ⟨rfl, rfl⟩
    exact ⟨rfl, rfl, rfl, rfl⟩
def RowPost (step : Int) (l : List Bd) (m : Nat) (h : List Obj) (v : Value) (h' : List Obj) : Prop :=
  ∃ (c : Array Value) (cp : Nat), v = .tuple #[slc m 0 (rowOf step l).length cp, I64 0] ∧ h' = h ++ [.cells c 3] ∧ (∀ x ∈ c.toList, cleanV x = true) ∧ WinI c 0 (rowOf step l) ∧ (rowOf step l).length ≤ cp
theorem Row24_ok (G) (step : Int) {h : List Obj} {m : Nat} (hm : h.length = m) {bs : Value} {l : List Bd} (hs : SlB h bs l) (hl : l.length ≤ 1000000000000) (hok : okState step l = true) :
    AC Try.prog G 24 [.agg #[I64 step, bs]] h (RowPost step l m h) := by
  subst hm
  rcases hs with ⟨rfl, rfl⟩ | ⟨m, off, cap, c, t, rfl, h2, h4, h5⟩
  · rw [okState_nil] at hok
    cases hok
  · refine ac_frame [m] (Row24_r G step c t off cap l h4 h5 hl hok) (by simp [r3, r2, r1, r0, rA, nu]) (fun v hv => ?_) (cold_p h2) ?_
    · rcases List.mem_singleton.1 hv with rfl
      exact (scop3_ok (n := 1) (by rfl)).1
    · rintro v h' ⟨c, cp, rfl, rfl, q1, q2, q3⟩
      refine ⟨[.cells c 3], rfl, c, cp, ?_, ?_, q1, q2, q3⟩
      · simp [r3, r2, r1, r0, rA, nu]
      · rw [List.map_cons, rO_cl q1]; rfl
end Go.Proofs.Ytjpjnjidchdlbaa
