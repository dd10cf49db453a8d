/-
  StateWithin holds: at whatever input it hands back true, and its arguments read as they did (no condition).
-/
import Derived.Test.YtjpjnjidchdlbaaStQ
import Derived.Test.YtjpjnjidchdlbaaStO
namespace Go.Proofs.Ytjpjnjidchdlbaa
set_option linter.unusedSimpArgs false
set_option linter.unusedVariables false
open Go Go.RowKit Go.ChangeShapes Go.WideShapes Go.ChangeAt
set_option maxRecDepth 100000
set_option maxHeartbeats 4000000
theorem StateWithin_calls {W : World} (step : Int) {bs : Value} {bl : List Bd} (hb : RowBI W bs bl) (box top at' part : Int) :
    Calls Try.prog 9 #[.agg #[I64 step, bs], I64 box, I64 top, I64 at', I64 part] W fun e w' => e = .returned (.bool true) ∧ Below W.heap.size W w' := by
  rcases hb with ⟨rfl, rfl⟩ | ⟨bk, off, cap, c, t, g, rfl, g1, g2, g3, g4⟩
  · have key := calls_of (u := .bool true) (k := fun h => h = []) rfl (fun i o hi => by simp at hi) (Within9_n [] step box top at' part) (repH_nil id W) (closed_in (by rfl))
    rw [map_closed rfl] at key
    exact key
  · have key := calls_of (u := .bool true) (k := fun h => h = [.pending c t]) rfl coldI1 (Within9_r [] step c t off cap bl g4 g1 box top at' part) (in1 g3) (scop_in (by rfl))
    have e : (([.agg #[I64 step, slc 0 off bl.length cap], I64 box, I64 top, I64 at', I64 part] : List Value).map (c3 (fun _ => bk))).toArray = #[.agg #[I64 step, .slice (some ⟨bk, off, none⟩) bl.length cap], I64 box, I64 top, I64 at', I64 part] := by simp [c3, c2, c1, c0, cA]
    rw [e] at key
    exact key

theorem stateWithin_lifted (os : Os) (started : os.Started) (H : Type) (enc : TypeId × Value → H) :
    ReturnsInHanded {} Try.checked os 9 .any (Rows.stateWithinSpec.pre6 enc Try.prog Try.f9 Rows.stateWithinRow.domain false) (Rows.stateWithinSpec.post enc Try.prog Try.f9 false true false false) := by
  refine returnsInHanded_of_change (C := Try.checked) own started (by kernel_rfl) Try.func9
    (ChangeSpec.witness6 (enc := enc) (C := Try.checked) false ⟨#[], #[.agg #[.int .i64 0, .slice none 0 0], .int .i64 0, .int .i64 0, .int .i64 0, .int .i64 0], []⟩ 8 (by kernel_rfl) (by kernel_rfl) (by kernel_rfl) (by kernel_rfl)) ?_
  intro W base args ds gs before hval0 hW hcnd _
  have hval : ∀ (j : Nat) t v, Try.f9.params[j]? = some t → args[j]? = some v → Value.okWide Try.prog W .any base t v := hval0
  have hW' := hW
  obtain ⟨p, q, hA0, hV, rfl, hfz, hnd⟩ := hW
  have hA : DataW.TrodAll enc Try.prog W 0 (fun _ => true) true Try.f9.params.toList args.toList ds p := hA0
  rw [Try.params9] at hA hval
  obtain ⟨v0, vs0, d0, ds0, p0, q0, hargs, rfl, rfl, h0, r0⟩ := trodAll_cons hA
  obtain ⟨v1, vs1, d1, ds1, p1, q1, rfl, rfl, rfl, h1, r1⟩ := trodAll_cons r0
  obtain ⟨v2, vs2, d2, ds2, p2, q2, rfl, rfl, rfl, h2, r2⟩ := trodAll_cons r1
  obtain ⟨v3, vs3, d3, ds3, p3, q3, rfl, rfl, rfl, h3, r3⟩ := trodAll_cons r2
  obtain ⟨v4, vs4, d4, ds4, p4, q4, rfl, rfl, rfl, h4, r4⟩ := trodAll_cons r3
  obtain ⟨rfl, rfl, rfl⟩ := trodAll_nil r4
  obtain rfl : args = #[v0, v1, v2, v3, v4] := by cases args; simp_all
  obtain ⟨rfl, rfl⟩ := trodVars_none hV
  have lt0 : ∀ x ∈ p0, x.block < W.heap.size := by obtain ⟨m, hm⟩ := h0; exact DataW.trod_lt m _ _ _ hm
  obtain ⟨st0, bs0, bl0, rfl, sg0⟩ := open_state (hval 0 _ v0 rfl rfl) h0
  obtain ⟨x1, rfl, rfl, rfl, w1⟩ := open_int (k := .i64) (by kernel_rfl) (hval 1 _ v1 rfl rfl) h1
  obtain ⟨x2, rfl, rfl, rfl, w2⟩ := open_int (k := .i64) (by kernel_rfl) (hval 2 _ v2 rfl rfl) h2
  obtain ⟨x3, rfl, rfl, rfl, w3⟩ := open_int (k := .i64) (by kernel_rfl) (hval 3 _ v3 rfl rfl) h3
  obtain ⟨x4, rfl, rfl, rfl, w4⟩ := open_int (k := .i64) (by kernel_rfl) (hval 4 _ v4 rfl rfl) h4
  clear hA0 hval0
  refine (StateWithin_calls st0 sg0 x1 x2 x3 x4).mono fun e W' ⟨he, bel⟩ => ?_
  subst he
  exact ⟨_, rfl, _, _, _, [], _, [], hW', trodAll_mk1 (shut_bool (by kernel_rfl) _), (trodAll_cons_mk (Below.trod laidOut (by kernel_rfl) (of_decide_eq_true (by kernel_rfl)) h0 bel lt0) (trodAll_cons_mk (shut_int (by kernel_rfl) w1) (trodAll_cons_mk (shut_int (by kernel_rfl) w2) (trodAll_cons_mk (shut_int (by kernel_rfl) w3) (trodAll_cons_mk (shut_int (by kernel_rfl) w4) trodAll_mk0))))), rfl, bel.frame _, fun h => by cases h⟩
theorem stateWithin_holds : Rows.StateWithinSaid :=
  OpenClaim.holds_of_wide 9 Try.f9 rfl rfl rfl rfl rfl rfl rfl ⟨rfl, rfl, rfl, rfl, rfl⟩ rfl rfl rfl rfl rfl (by kernel_rfl) Try.func9 (by kernel_rfl)
    (of_decide_eq_true (by kernel_rfl)) (by unfold Func.isWrapper; rw [if_neg (of_decide_eq_false (by kernel_rfl))]; exact ⟨rfl, rfl⟩)
    (fun os started H enc _ => stateWithin_lifted os started H enc)
#print axioms stateWithin_holds
end Go.Proofs.Ytjpjnjidchdlbaa
