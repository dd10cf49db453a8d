/-
  StateRows holds: at whatever input it hands back true, and its arguments read as they did (no condition).
-/
import Derived.Test.YtjpjnjidchdlbaaStS
import Derived.Test.YtjpjnjidchdlbaaStO
namespace Go.Proofs.Ytjpjnjidchdlbaa
set_option linter.unusedSimpArgs false
set_option linter.unusedVariables false
open Go Go.RowKit Go.ChangeShapes Go.WideShapes Go.ChangeAt
set_option maxRecDepth 100000
set_option maxHeartbeats 4000000
theorem StateRows_calls {W : World} (step : Int) {bs : Value} {bl : List Bd} (hb : RowBI W bs bl) {v : Value} {li : List Int} (hi : RowII W v li) :
    Calls Try.prog 7 #[.agg #[I64 step, bs], v] W fun e w' => e = .returned (.bool true) ∧ Below W.heap.size W w' := by
  rcases hb with ⟨rfl, rfl⟩ | ⟨bk, off, cap, c, t, g, rfl, g1, g2, g3, g4⟩
  · rcases hi with ⟨rfl, rfl⟩ | ⟨bk1, off1, cap1, q, t1, f2, rfl, k1, k2, k3, k4⟩
    · have key := calls_of (u := .bool true) (k := fun h => h = []) rfl (fun i o hi => by simp at hi) (Rows7_nn [] step) (repH_nil id W) (closed_in (by rfl))
      rw [map_closed rfl] at key
      exact key
    · have key := calls_of (u := .bool true) (k := fun h => h = [.pending q t1]) rfl coldI1 (Rows7_nr [] step q t1 off1 cap1 li k4 k1) (in1 k3) (scop_in (by rfl))
      have e : (([.agg #[I64 step, .slice none 0 0], slc 0 off1 li.length cap1] : List Value).map (c3 (fun _ => bk1))).toArray = #[.agg #[I64 step, .slice none 0 0], .slice (some ⟨bk1, off1, none⟩) li.length cap1] := by simp [c3, c2, c1, c0, cA, twoN]
      rw [e] at key
      exact key
  · rcases hi with ⟨rfl, rfl⟩ | ⟨bk1, off1, cap1, q, t1, f2, rfl, k1, k2, k3, k4⟩
    · have key := calls_of (u := .bool true) (k := fun h => h = [.pending c t]) rfl coldI1 (Rows7_rn [] step c t off cap bl g4 g1) (in1 g3) (scop_in (by rfl))
      have e : (([.agg #[I64 step, slc 0 off bl.length cap], .slice none 0 0] : List Value).map (c3 (fun _ => bk))).toArray = #[.agg #[I64 step, .slice (some ⟨bk, off, none⟩) bl.length cap], .slice none 0 0] := by simp [c3, c2, c1, c0, cA, twoN]
      rw [e] at key
      exact key
    · have key := calls_of (u := .bool true) (k := fun h => h = [.pending c t, .pending q t1]) rfl coldI2 (Rows7_rr [] step c t off cap bl g4 g1 q t1 off1 cap1 li k4 k1) (in2 g3 k3) (scop_in (by rfl))
      have e : (([.agg #[I64 step, slc 0 off bl.length cap], slc 1 off1 li.length cap1] : List Value).map (c3 (twoN bk bk1))).toArray = #[.agg #[I64 step, .slice (some ⟨bk, off, none⟩) bl.length cap], .slice (some ⟨bk1, off1, none⟩) li.length cap1] := by simp [c3, c2, c1, c0, cA, twoN]
      rw [e] at key
      exact key

theorem stateRows_lifted (os : Os) (started : os.Started) (H : Type) (enc : TypeId × Value → H) :
    ReturnsInHanded {} Try.checked os 7 .any (Rows.stateRowsSpec.pre6 enc Try.prog Try.f7 Rows.stateRowsRow.domain false) (Rows.stateRowsSpec.post enc Try.prog Try.f7 false true false false) := by
  refine returnsInHanded_of_change (C := Try.checked) own started (by kernel_rfl) Try.func7
    (ChangeSpec.witness6 (enc := enc) (C := Try.checked) false ⟨#[], #[.agg #[.int .i64 0, .slice none 0 0], .slice none 0 0], []⟩ 8 (by kernel_rfl) (by kernel_rfl) (by kernel_rfl) (by kernel_rfl)) ?_
  intro W base args ds gs before hval0 hW hcnd _
  have hval : ∀ (j : Nat) t v, Try.f7.params[j]? = some t → args[j]? = some v → Value.okWide Try.prog W .any base t v := hval0
  have hW' := hW
  obtain ⟨p, q, hA0, hV, rfl, hfz, hnd⟩ := hW
  have hA : DataW.TrodAll enc Try.prog W 0 (fun _ => true) true Try.f7.params.toList args.toList ds p := hA0
  rw [Try.params7] at hA hval
  obtain ⟨v0, vs0, d0, ds0, p0, q0, hargs, rfl, rfl, h0, r0⟩ := trodAll_cons hA
  obtain ⟨v1, vs1, d1, ds1, p1, q1, rfl, rfl, rfl, h1, r1⟩ := trodAll_cons r0
  obtain ⟨rfl, rfl, rfl⟩ := trodAll_nil r1
  obtain rfl : args = #[v0, v1] := by cases args; simp_all
  obtain ⟨rfl, rfl⟩ := trodVars_none hV
  have lt0 : ∀ x ∈ p0, x.block < W.heap.size := by obtain ⟨m, hm⟩ := h0; exact DataW.trod_lt m _ _ _ hm
  obtain ⟨st0, bs0, bl0, rfl, sg0⟩ := open_state (hval 0 _ v0 rfl rfl) h0
  have lt1 : ∀ x ∈ p1, x.block < W.heap.size := by obtain ⟨m, hm⟩ := h1; exact DataW.trod_lt m _ _ _ hm
  obtain ⟨li1, sg1⟩ := open_ints_in (hval 1 _ v1 rfl rfl) h1
  clear hA0 hval0
  refine (StateRows_calls st0 sg0 sg1).mono fun e W' ⟨he, bel⟩ => ?_
  subst he
  exact ⟨_, rfl, _, _, _, [], _, [], hW', trodAll_mk1 (shut_bool (by kernel_rfl) _), (trodAll_cons_mk (Below.trod laidOut (by kernel_rfl) (of_decide_eq_true (by kernel_rfl)) h0 bel lt0) (trodAll_cons_mk (Below.trod laidOut (by kernel_rfl) (of_decide_eq_true (by kernel_rfl)) h1 bel lt1) trodAll_mk0)), rfl, bel.frame _, fun h => by cases h⟩
theorem stateRows_holds : Rows.StateRowsSaid :=
  OpenClaim.holds_of_wide 7 Try.f7 rfl rfl rfl rfl rfl rfl rfl ⟨rfl, rfl, rfl, rfl, rfl⟩ rfl rfl rfl rfl rfl (by kernel_rfl) Try.func7 (by kernel_rfl)
    (of_decide_eq_true (by kernel_rfl)) (by unfold Func.isWrapper; rw [if_neg (of_decide_eq_false (by kernel_rfl))]; exact ⟨rfl, rfl⟩)
    (fun os started H enc _ => stateRows_lifted os started H enc)
#print axioms stateRows_holds
end Go.Proofs.Ytjpjnjidchdlbaa
