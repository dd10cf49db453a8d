/-
  A state that came in is no longer than what can be laid (no condition).
-/
import Derived.Test.YtjpjnjidchdlbaaDoorMomP
import Derived.SizedLaws
namespace Go.Proofs.YtjpjnjidchdlbaaDoor
set_option linter.unusedSimpArgs false
set_option linter.unusedVariables false
open Go Go.RowKit Go.ChangeShapes Go.WideShapes Go.ChangeAt
set_option maxRecDepth 100000
set_option maxHeartbeats 4000000
theorem bytes61 : Tryd.prog.bytesOf 61 = 48 := by kernel_rfl
theorem state_len {H : Type} {enc : TypeId × Value → H} {W : World} {base : Nat} {held : Bool} {v : Value} {d : DataW H} {p : List MemPlace} {step : Int} {bs : Value} {bl : List Bd} {ts : List TypeId} {ds : List (DataW H)} {j : Nat}
    (hv : v = .agg #[I64 step, bs]) (hr : RowBI W bs bl) (h : DataW.Trod enc Tryd.prog W base (fun _ => true) held 42 v d p) (ht : ts[j]? = some 42) (hd : ds[j]? = some d) (hw : (DataW.weightsEach Tryd.prog ts ds).all (· ≤ reachBytes) = true) : bl.length ≤ 2932031007402 := by
  subst hv
  rcases hr with ⟨rfl, rfl⟩ | ⟨bk, off, cap, c, t, f, rfl, _⟩
  · simp
  obtain ⟨f0, f1, hs, t0, o0, t1, o1⟩ := stateFields
  obtain ⟨fuel, hf⟩ := h
  have hf' : DataW.trod enc Tryd.prog W base (fun _ => true) held fuel 42 [I64 step, .slice (some ⟨bk, off, none⟩) bl.length cap] = some (d, p) := by simpa [Value.cells] using hf
  obtain ⟨xs, n, _, hx, _, hxl, hall⟩ := DataW.trod_struct hs hf'
  have e40 : Tryd.prog.cellsOf 40 = 1 := by kernel_rfl
  obtain ⟨x1, hx1⟩ : ∃ x1, xs[1]? = some x1 := ⟨_, List.getElem?_eq_getElem (by simp at hxl; omega)⟩
  have h1 := hall 1 f1 rfl
  rw [t1, o1, e40, hx1] at h1
  have hs40 : Tryd.prog.underlying 40 = some (.slice 61) := by kernel_rfl
  rcases DataW.trod_slice hs40 (by simpa using h1) with ⟨hcs, _⟩ | ⟨a, len', cap', elems, rest, n, _, hcs, hx2, _, _, _, hlen, _, _, _⟩
  · cases hcs
  · cases hcs
    have hd' : d = .agg (xs.map (·.1)) := congrArg Prod.fst hx
    have m1 : (elems.length + rest.length) * Tryd.prog.bytesOf 61 ∈ DataW.weights Tryd.prog 40 (DataW.slice (elems.map (·.1)) (rest.map (·.1))) := by
      simp [DataW.weights, hs40]
    have m2 : (elems.length + rest.length) * Tryd.prog.bytesOf 61 ∈ DataW.weights Tryd.prog 42 d := by
      rw [hd']
      simp only [DataW.weights, hs]
      refine DataW.weights_mem_each (j := 1) (t := 40) (by simp [t1]) ?_ _ m1
      rw [List.getElem?_map, hx1, hx2]
      rfl
    have := List.all_eq_true.1 hw _ (DataW.weights_mem_each ht hd _ m2)
    rw [bytes61] at this
    have h5 : (elems.length + rest.length) * 48 ≤ 140737488351232 := of_decide_eq_true this
    omega
end Go.Proofs.YtjpjnjidchdlbaaDoor
