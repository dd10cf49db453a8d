/-
  StateTurned holds: at whatever input it hands back true, and its arguments read as they did (no condition).
-/
import Derived.Test.YtjpjnjidchdlbaaStP
import Derived.Test.YtjpjnjidchdlbaaStO
namespace Go.Proofs.Ytjpjnjidchdlbaa
set_option linter.unusedSimpArgs false
set_option linter.unusedVariables false
open Go Go.RowKit Go.ChangeShapes Go.WideShapes Go.ChangeAt
set_option maxRecDepth 100000
set_option maxHeartbeats 4000000
theorem StateTurned_calls {W : World} (step : Int) {bs : Value} {bl : List Bd} (hb : RowBI W bs bl)  :
    Calls Try.prog 8 #[.agg #[I64 step, bs]] W fun e w' => e = .returned (.bool true) ∧ Below W.heap.size W w' := by
  rcases hb with ⟨rfl, rfl⟩ | ⟨bk, off, cap, c, t, g, rfl, g1, g2, g3, g4⟩
  · have key := calls_of (u := .bool true) (k := fun h => h = []) rfl (fun i o hi => by simp at hi) (Turned8_n [] step) (repH_nil id W) (closed_in (by rfl))
    rw [map_closed rfl] at key
    exact key
  · have key := calls_of (u := .bool true) (k := fun h => h = [.pending c t]) rfl coldI1 (Turned8_r [] step c t off cap bl g4 g1) (in1 g3) (scop_in (by rfl))
    have e : (([.agg #[I64 step, slc 0 off bl.length cap]] : List Value).map (c3 (fun _ => bk))).toArray = #[.agg #[I64 step, .slice (some ⟨bk, off, none⟩) bl.length cap]] := by simp [c3, c2, c1, c0, cA]
    rw [e] at key
    exact key

theorem stateTurned_lifted (os : Os) (started : os.Started) (H : Type) (enc : TypeId × Value → H) :
    ReturnsInHanded {} Try.checked os 8 .any (Rows.stateTurnedSpec.pre6 enc Try.prog Try.f8 Rows.stateTurnedRow.domain false) (Rows.stateTurnedSpec.post enc Try.prog Try.f8 false true false false) := by
  refine returnsInHanded_of_change (C := Try.checked) own started (by kernel_rfl) Try.func8
    (ChangeSpec.witness6 (enc := enc) (C := Try.checked) false ⟨#[], #[.agg #[.int .i64 0, .slice none 0 0]], []⟩ 8 (by kernel_rfl) (by kernel_rfl) (by kernel_rfl) (by kernel_rfl)) ?_
  intro W base args ds gs before hval0 hW hcnd _
  have hval : ∀ (j : Nat) t v, Try.f8.params[j]? = some t → args[j]? = some v → Value.okWide Try.prog W .any base t v := hval0
  have hW' := hW
  obtain ⟨p, q, hA0, hV, rfl, hfz, hnd⟩ := hW
  have hA : DataW.TrodAll enc Try.prog W 0 (fun _ => true) true Try.f8.params.toList args.toList ds p := hA0
  rw [Try.params8] at hA hval
  obtain ⟨v0, vs0, d0, ds0, p0, q0, hargs, rfl, rfl, h0, r0⟩ := trodAll_cons hA
  obtain ⟨rfl, rfl, rfl⟩ := trodAll_nil r0
  obtain rfl : args = #[v0] := by cases args; simp_all
  obtain ⟨rfl, rfl⟩ := trodVars_none hV
  have lt0 : ∀ x ∈ p0, x.block < W.heap.size := by obtain ⟨m, hm⟩ := h0; exact DataW.trod_lt m _ _ _ hm
  obtain ⟨st0, bs0, bl0, rfl, sg0⟩ := open_state (hval 0 _ v0 rfl rfl) h0
  clear hA0 hval0
  refine (StateTurned_calls st0 sg0).mono fun e W' ⟨he, bel⟩ => ?_
  subst he
  exact ⟨_, rfl, _, _, _, [], _, [], hW', trodAll_mk1 (shut_bool (by kernel_rfl) _), (trodAll_cons_mk (Below.trod laidOut (by kernel_rfl) (of_decide_eq_true (by kernel_rfl)) h0 bel lt0) trodAll_mk0), rfl, bel.frame _, fun h => by cases h⟩
theorem stateTurned_holds : Rows.StateTurnedSaid :=
  OpenClaim.holds_of_wide 8 Try.f8 rfl rfl rfl rfl rfl rfl rfl ⟨rfl, rfl, rfl, rfl, rfl⟩ rfl rfl rfl rfl rfl (by kernel_rfl) Try.func8 (by kernel_rfl)
    (of_decide_eq_true (by kernel_rfl)) (by unfold Func.isWrapper; rw [if_neg (of_decide_eq_false (by kernel_rfl))]; exact ⟨rfl, rfl⟩)
    (fun os started H enc _ => stateTurned_lifted os started H enc)
#print axioms stateTurned_holds
end Go.Proofs.Ytjpjnjidchdlbaa
