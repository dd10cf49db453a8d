/-
  From what is owed of a law's call to the given statement: the arguments opened, the frame (no condition).
-/
import Derived.Test.YtjpjnjidchdlbaaDoorRows
import Derived.Test.YtjpjnjidchdlbaaDoorEngU
import Derived.ProofKit
import Derived.OpenShut
import Derived.Carry
import Derived.Laws.IdiomArrays
namespace Go.Proofs.YtjpjnjidchdlbaaDoor
set_option linter.unusedSimpArgs false
set_option linter.unusedVariables false
open Go Go.RowKit Go.ChangeShapes Go.WideShapes Go.ChangeAt
theorem own : ownKnob Tryd.prog.godebug = none := by kernel_rfl
theorem laidOut : laidOutB Tryd.prog = true := by kernel_rfl
theorem closed_c3 {v : Value} (h : closedV v = true) (r : Ren) : c3 r v = v := by
  by_cases hv : ∃ cs, v = .tuple cs
  · obtain ⟨vs, rfl⟩ := hv
    have hc : ∀ x ∈ vs.toList, closed2 x = true := List.all_eq_true.1 h
    simp only [c3]
    rw [map_self _ _ fun x hx => closed2_c2 (hc x hx) r]
  · have e1 : closedV v = closed2 v := by cases v <;> first | rfl | exact absurd ⟨_, rfl⟩ hv
    have e2 : c3 r v = c2 r v := by cases v <;> first | rfl | exact absurd ⟨_, rfl⟩ hv
    rw [e2]; exact closed2_c2 (e1 ▸ h) r
theorem map_closed {args : List Value} (h : args.all closedV = true) (r : Ren) : args.map (c3 r) = args := by
  conv => rhs; rw [← List.map_id args]
  exact List.map_congr_left fun v hv => closed_c3 (List.all_eq_true.1 h v hv) r
/-- a call over blocks that are read alone: it hands back a closed value, and of what was there nothing turns -/
theorem calls_of {P : Program} {G : List (Nat × Obj)} {f : FuncId} {args : List Value} {h : List Obj} {u : Value} {k : List Obj → Prop} (hu : closedV u = true) (hh : ∀ (i : Nat) (o : Obj), h[i]? = some o → hot o = false)
    (H : AC P G f args h (fun v h' => v = u ∧ k h')) {r : Ren} {w : World} (R : RepH G r h w) (ha : ∀ v ∈ args, s3 h.length v) :
    Calls P f (args.map (c3 r)).toArray w fun e w' => e = .returned u ∧ Below w.heap.size w w' := by
  unfold AC at H
  refine (H.2 r w R ha).mono ?_
  rintro e w' ⟨r', h', v, S, R', hs, rfl, rfl, _⟩
  refine ⟨by rw [closed_c3 hu], S.keep.os, S.keep.tape, S.keep.output, S.keep.size, fun i hi => S.keep.block i hi ?_⟩
  rintro ⟨j, o, h1, h2, _⟩
  rw [hh j o h1] at h2
  cases h2
theorem repH_nil (r : Ren) (w : World) : RepH [] r [] w :=
  ⟨fun i o hi => by simp at hi, fun i j o u hi => by simp at hi, fun i o hi => by simp at hi, fun g o hg => by simp at hg⟩
section
variable {H : Type} {enc : TypeId × Value → H} {P : Program} {w : World} {base b0 : Nat} {spare : Nat → Bool} {held : Bool} {r : Reach}
/-- an argument that is an array of three integers -/
theorem open_vec {t e : TypeId} {k : IntKind} {v : Value} {d : DataW H} {p : List MemPlace} (ht : P.underlying t = some (.array 3 e)) (he : P.underlying e = some (.int k)) (hce : P.cellsOf e = 1) (hC : P.cellsOf t = 3)
    (hv : Value.okWide P w r b0 t v) (h : DataW.Trod enc P w base spare held t v d p) : ∃ x y z, v = .agg #[.int k x, .int k y, .int k z] ∧ (Lit.int k x).wf = true ∧ (Lit.int k y).wf = true ∧ (Lit.int k z).wf = true := by
  unfold Value.okWide at hv
  rw [ht] at hv
  obtain ⟨cs, rfl, hsz, _⟩ := hv
  obtain ⟨q0, q1, q2, rfl⟩ : ∃ a b c, cs = #[a, b, c] := by
    rw [hC] at hsz
    obtain ⟨l⟩ := cs
    match l, hsz with
    | [a, b, c], _ => exact ⟨a, b, c, rfl⟩
  obtain ⟨fuel, hf⟩ := h
  obtain ⟨y0, y1, y2, n, _, h0, h1, h2⟩ := trod_array3 ht hce (by simpa [Value.cells] using hf)
  obtain ⟨x, e0, _, w0⟩ := DataW.trod_int he h0
  obtain ⟨y, e1, _, w1⟩ := DataW.trod_int he h1
  obtain ⟨z, e2, _, w2⟩ := DataW.trod_int he h2
  simp at e0 e1 e2
  subst e0; subst e1; subst e2
  exact ⟨x, y, z, rfl, w0, w1, w2⟩
end
end Go.Proofs.YtjpjnjidchdlbaaDoor
