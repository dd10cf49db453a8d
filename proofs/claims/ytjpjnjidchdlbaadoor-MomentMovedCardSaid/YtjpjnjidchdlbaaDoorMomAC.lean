/-
  MomentMoved: of whatever configuration and state came in.
-/
import Derived.Test.YtjpjnjidchdlbaaDoorMomAA
import Derived.Test.YtjpjnjidchdlbaaDoorMomAB
namespace Go.Proofs.YtjpjnjidchdlbaaDoor
set_option linter.unusedSimpArgs false
set_option linter.unusedVariables false
open Go Go.RowKit Go.ChangeShapes Go.WideShapes Go.ChangeAt
set_option maxRecDepth 100000
set_option maxHeartbeats 4000000
theorem Moved10_calls {W : World} {tt : TypeId} {f : Nat × Nat} (h : W.heap[1]? = some (.cells namesA tt f)) {ms bs : Value} {l : List Int} {bl : List Bd} (hm : RowII W ms l) (hb : RowBI W bs bl) (hl1 : bl.length ≤ 2932031007402) (g b tp nr me step : Int) (x y z : Int) :
    Calls Tryd.prog 10 #[.agg (confC ms g b tp nr me), .agg #[I64 step, bs], V3 x y z] W fun e w' => e = .returned (.bool true) ∧ Below W.heap.size W w' := by
  rcases hm with ⟨rfl, rfl⟩ | ⟨bk, off, cap, c, t, f1, rfl, g1, g2, g3, g4⟩
  · rcases hb with ⟨rfl, rfl⟩ | ⟨bk1, off1, cap1, q, t1, f2, rfl, k1, k2, k3, k4⟩
    · have key := calls_of (u := .bool true) (k := fun h => h = []) rfl (fun i o hi => by simp at hi) (Moved10_nn tt g b tp nr me step x y z) (repH_pendM h id [] (fun i o hi => by simp at hi)) (by intro v hv; exact (scop3_ok (List.all_eq_true.1 (by rfl : ([.agg (confC (.slice none 0 0) g b tp nr me), .agg #[I64 step, (.slice none 0 0)], V3 x y z] : List Value).all (scop3 0) = true) v hv)).1)
      rw [map_closed rfl] at key
      exact key
    · have key := calls_of (u := .bool true) (k := fun h => h = [.pending q t1]) rfl coldM1 (Moved10_nr tt q t1 off1 cap1 bl k4 k1 hl1 g b tp nr me step x y z) (pendM1 h k3) (by intro v hv; exact (scop3_ok (List.all_eq_true.1 (by rfl : ([.agg (confC (.slice none 0 0) g b tp nr me), .agg #[I64 step, (slc 0 off1 bl.length cap1)], V3 x y z] : List Value).all (scop3 1) = true) v hv)).1)
      have e : (([.agg (confC (.slice none 0 0) g b tp nr me), .agg #[I64 step, (slc 0 off1 bl.length cap1)], V3 x y z] : List Value).map (c3 (fun _ => bk1))).toArray = #[.agg (confC (.slice none 0 0) g b tp nr me), .agg #[I64 step, (.slice (some ⟨bk1, off1, none⟩) bl.length cap1)], V3 x y z] := by simp [c3, c2, c1, c0, cA, twoB]
      rw [e] at key
      exact key
  · rcases hb with ⟨rfl, rfl⟩ | ⟨bk1, off1, cap1, q, t1, f2, rfl, k1, k2, k3, k4⟩
    · have key := calls_of (u := .bool true) (k := fun h => h = [.pending c t]) rfl coldM1 (Moved10_rn tt c t off cap l g4 g1 g b tp nr me step x y z) (pendM1 h g3) (by intro v hv; exact (scop3_ok (List.all_eq_true.1 (by rfl : ([.agg (confC (slc 0 off l.length cap) g b tp nr me), .agg #[I64 step, (.slice none 0 0)], V3 x y z] : List Value).all (scop3 1) = true) v hv)).1)
      have e : (([.agg (confC (slc 0 off l.length cap) g b tp nr me), .agg #[I64 step, (.slice none 0 0)], V3 x y z] : List Value).map (c3 (fun _ => bk))).toArray = #[.agg (confC (.slice (some ⟨bk, off, none⟩) l.length cap) g b tp nr me), .agg #[I64 step, (.slice none 0 0)], V3 x y z] := by simp [c3, c2, c1, c0, cA, twoB]
      rw [e] at key
      exact key
    · have key := calls_of (u := .bool true) (k := fun h => h = [.pending c t, .pending q t1]) rfl coldM2 (Moved10_rr tt c t off cap l g4 g1 q t1 off1 cap1 bl k4 k1 hl1 g b tp nr me step x y z) (pendM2 h g3 k3) (by intro v hv; exact (scop3_ok (List.all_eq_true.1 (by rfl : ([.agg (confC (slc 0 off l.length cap) g b tp nr me), .agg #[I64 step, (slc 1 off1 bl.length cap1)], V3 x y z] : List Value).all (scop3 2) = true) v hv)).1)
      have e : (([.agg (confC (slc 0 off l.length cap) g b tp nr me), .agg #[I64 step, (slc 1 off1 bl.length cap1)], V3 x y z] : List Value).map (c3 ((twoB bk bk1)))).toArray = #[.agg (confC (.slice (some ⟨bk, off, none⟩) l.length cap) g b tp nr me), .agg #[I64 step, (.slice (some ⟨bk1, off1, none⟩) bl.length cap1)], V3 x y z] := by simp [c3, c2, c1, c0, cA, twoB]
      rw [e] at key
      exact key
end Go.Proofs.YtjpjnjidchdlbaaDoor
