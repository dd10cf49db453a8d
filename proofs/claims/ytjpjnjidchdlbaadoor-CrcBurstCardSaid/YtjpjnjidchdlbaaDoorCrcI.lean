/-
  The listed table of the seal: from the row's condition to the table's block; the witness.
-/
import Derived.Test.YtjpjnjidchdlbaaDoorVecH
import Derived.Test.YtjpjnjidchdlbaaDoorCrcA
import Derived.LaidMore
import Derived.Lay
import Derived.Lib.LaidTab
namespace Go.Proofs.YtjpjnjidchdlbaaDoor
set_option linter.unusedSimpArgs false
set_option linter.unusedVariables false
open Go Go.RowKit Go.ChangeShapes Go.WideShapes Go.ChangeAt
set_option maxRecDepth 100000
set_option maxHeartbeats 4000000
def laidC : List (String × DataW Unit) := [("gyre/crc.steps", Rows.laid_gyre_crc_steps)]
theorem gSteps : Tryd.prog.globalNamed "gyre/crc.steps" = some 0 := by kernel_rfl
theorem steps_tab : (Rows.laid_gyre_crc_steps : DataW Unit) = Lib.tabData .u32 (tabL.map fun s => (s.toNat : Int)) := by kernel_rfl
theorem gStepsT : (Tryd.prog.globals[0]?).map (·.type) = some 69 := by kernel_rfl
theorem tabA_eq : tabA = ((tabL.map fun s => (s.toNat : Int)).map fun z => Value.int .u32 z).toArray := by
  unfold tabA
  rw [List.map_map]
  rfl
theorem steps_block {W : World} (h : laidMetH Tryd.prog laidC W) : ∃ tt f, W.heap[0]? = some (.cells tabA tt f) := by
  rw [MakeChecks.laidMetH_plain _ _ _ (by kernel_rfl)] at h
  have h2 : laidMet Tryd.prog [("gyre/crc.steps", Lib.tabData .u32 (tabL.map fun s => (s.toNat : Int)))] W := by
    rw [← steps_tab]; exact h
  have h3 := Lib.tabIs_of_head (t := 69) (e := 22) (n := 16) gSteps gStepsT (by kernel_rfl) (by kernel_rfl) (by kernel_rfl) (by kernel_rfl) h2
  unfold Lib.TabIs World.var? at h3
  rw [gSteps, Option.bind_some, ← tabA_eq] at h3
  split at h3
  · rename_i cs tt f hb
    obtain rfl := Option.some.inj h3
    exact ⟨tt, f, hb⟩
  · cases h3
theorem gl_steps {W : World} {tt : TypeId} {f : Nat × Nat} (h : W.heap[0]? = some (.cells tabA tt f)) (r : Ren) (hs : List Obj) (hr : ∀ (i : Nat) (u : Obj), hs[i]? = some u → hot u = true → r i ≠ 0) :
    ∀ (g : Nat) (o : Obj), (g, o) ∈ GC tt → (∃ c t f, o = .cells c t f ∧ (∀ v ∈ c.toList, s1 0 v) ∧ ∃ f', W.heap[g]? = some (.cells c t f')) ∧ ∀ (i : Nat) (u : Obj), hs[i]? = some u → hot u = true → r i ≠ g := by
  intro g o hg
  obtain ⟨rfl, rfl⟩ : g = 0 ∧ o = .cells tabA tt (1, 0) := by simpa [GC] using hg
  refine ⟨⟨_, _, _, rfl, ?_, f, h⟩, hr⟩
  intro v hv
  rw [tabA_eq] at hv
  simp only [List.map_map, List.mem_map] at hv
  obtain ⟨x, _, rfl⟩ := hv
  trivial
theorem repH_steps {W : World} {tt : TypeId} {f : Nat × Nat} (h : W.heap[0]? = some (.cells tabA tt f)) (r : Ren) : RepH (GC tt) r [] W :=
  ⟨fun i o hi => by simp at hi, fun i j o u hi => by simp at hi, fun i o hi => by simp at hi, gl_steps h r [] (fun i u hi => by simp at hi)⟩
end Go.Proofs.YtjpjnjidchdlbaaDoor
