/-
  CrcBurst: of whatever slice came in.
-/
import Derived.Test.YtjpjnjidchdlbaaDoorCrcN
import Derived.Test.YtjpjnjidchdlbaaDoorCrcW
namespace Go.Proofs.YtjpjnjidchdlbaaDoor
set_option linter.unusedSimpArgs false
set_option linter.unusedVariables false
open Go Go.RowKit Go.ChangeShapes Go.WideShapes Go.ChangeAt
set_option maxRecDepth 100000
set_option maxHeartbeats 4000000
theorem Burst_calls {W : World} {tt : TypeId} {f : Nat × Nat} (h : W.heap[0]? = some (.cells tabA tt f)) {v : Value} {a : List UInt8} (ha : RowIn W v a) (k : Int) (s : BitVec 32) :
    Calls Tryd.prog 4 #[v, .int .i64 k, W32 s] W fun e w' => e = .returned (.bool true) ∧ Below W.heap.size W w' := by
  rcases ha with ⟨rfl, rfl⟩ | ⟨b1, o1, c1, x, t1, f1, rfl, g1, g2, g3, g4⟩
  · have key := calls_of (u := .bool true) (k := fun h => h = []) rfl (fun i o hi => by simp at hi) (Burst_n tt k s) (repH_steps h id) (by intro v hv; exact (scop3_ok (List.all_eq_true.1 (by rfl : [Value.slice none 0 0, .int .i64 k, W32 s].all (scop3 0) = true) v hv)).1)
    exact key
  · have key := calls_of (u := .bool true) (k := fun h => h = [.pending x t1]) rfl cold1 (Burst_r tt k s x t1 o1 c1 a g4 g1) (pend1 h g3) (by intro v hv; exact (scop3_ok (List.all_eq_true.1 (by rfl : [slc 0 o1 a.length c1, .int .i64 k, W32 s].all (scop3 1) = true) v hv)).1)
    exact key
end Go.Proofs.YtjpjnjidchdlbaaDoor
