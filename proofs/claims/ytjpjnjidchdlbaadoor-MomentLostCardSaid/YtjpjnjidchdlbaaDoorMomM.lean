/-
  MomentLost: of whatever configuration came in.
-/
import Derived.Test.YtjpjnjidchdlbaaDoorMomL
namespace Go.Proofs.YtjpjnjidchdlbaaDoor
set_option linter.unusedSimpArgs false
set_option linter.unusedVariables false
open Go Go.RowKit Go.ChangeShapes Go.WideShapes Go.ChangeAt
set_option maxRecDepth 100000
set_option maxHeartbeats 4000000
theorem Lost_calls {W : World} {tt : TypeId} {f : Nat × Nat} (h : W.heap[1]? = some (.cells namesA tt f)) (x0 x1 x2 y0 y1 y2 z0 z1 z2 : Int) (hb0 : -9223372036854775808 ≤ y0 ∧ y0 ≤ 9223372036854775807) (hb1 : -9223372036854775808 ≤ y1 ∧ y1 ≤ 9223372036854775807) (hb2 : -9223372036854775808 ≤ y2 ∧ y2 ≤ 9223372036854775807)
    {ms : Value} {l : List Int} (hm : RowII W ms l) (g b tp nr me : Int) :
    Calls Tryd.prog 11 #[A3 x0 x1 x2, A3 y0 y1 y2, A3 z0 z1 z2, .agg (confC ms g b tp nr me)] W fun e w' => e = .returned (.bool true) ∧ Below W.heap.size W w' := by
  rcases hm with ⟨rfl, rfl⟩ | ⟨bk, off, cap, c, t, f1, rfl, g1, g2, g3, g4⟩
  · have key := calls_of (u := .bool true) (k := fun h => h = []) rfl (fun i o hi => by simp at hi) (Lost11_n tt x0 x1 x2 y0 y1 y2 z0 z1 z2 g b tp nr me hb0 hb1 hb2) (repH_pendM h id [] (fun i o hi => by simp at hi))
      (by intro v hv; exact (scop3_ok (List.all_eq_true.1 (by rfl : [A3 x0 x1 x2, A3 y0 y1 y2, A3 z0 z1 z2, .agg (confC (.slice none 0 0) g b tp nr me)].all (scop3 0) = true) v hv)).1)
    rw [map_closed rfl] at key
    exact key
  · have key := calls_of (u := .bool true) (k := fun h => h = [.pending c t]) rfl coldM1 (Lost11_r tt c t off cap l g4 g1 x0 x1 x2 y0 y1 y2 z0 z1 z2 g b tp nr me hb0 hb1 hb2) (pendM1 h g3)
      (by intro v hv; exact (scop3_ok (List.all_eq_true.1 (by rfl : [A3 x0 x1 x2, A3 y0 y1 y2, A3 z0 z1 z2, .agg (confC (slc 0 off l.length cap) g b tp nr me)].all (scop3 1) = true) v hv)).1)
    have e : ([A3 x0 x1 x2, A3 y0 y1 y2, A3 z0 z1 z2, .agg (confC (slc 0 off l.length cap) g b tp nr me)].map (c3 fun _ => bk)).toArray = #[A3 x0 x1 x2, A3 y0 y1 y2, A3 z0 z1 z2, .agg (confC (.slice (some ⟨bk, off, none⟩) l.length cap) g b tp nr me)] := by
      simp [c3, c2, c1, c0, cA]
    rw [e] at key
    exact key
end Go.Proofs.YtjpjnjidchdlbaaDoor
