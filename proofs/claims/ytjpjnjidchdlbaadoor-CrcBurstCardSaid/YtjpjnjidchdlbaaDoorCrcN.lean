/-
  CrcParts: of whatever slices came in.
-/
import Derived.Test.YtjpjnjidchdlbaaDoorCrcL
import Derived.Test.YtjpjnjidchdlbaaDoorCrcM
namespace Go.Proofs.YtjpjnjidchdlbaaDoor
set_option linter.unusedSimpArgs false
set_option linter.unusedVariables false
open Go Go.RowKit Go.ChangeShapes Go.WideShapes Go.ChangeAt
set_option maxRecDepth 100000
set_option maxHeartbeats 4000000
theorem w32_of {x : Int} (h : (Lit.int .u32 x).wf = true) : ∃ s : BitVec 32, x = (s.toNat : Int) := by
  have h2 : 0 ≤ x ∧ x ≤ 4294967295 := by simpa [Lit.wf, IntKind.min, IntKind.max, IntKind.signed, IntKind.bits] using h
  exact ⟨BitVec.ofNat 32 x.toNat, by rw [BitVec.toNat_ofNat]; omega⟩
theorem cold1 {x : Array Value} {t : TypeId} : ∀ (i : Nat) (o : Obj), [Obj.pending x t][i]? = some o → hot o = false := by
  intro i o hi
  match i, hi with
  | 0, hi => cases hi; rfl
  | i + 1, hi => simp at hi
theorem cold2 {x y : Array Value} {t u : TypeId} : ∀ (i : Nat) (o : Obj), [Obj.pending x t, Obj.pending y u][i]? = some o → hot o = false := by
  intro i o hi
  match i, hi with
  | 0, hi => cases hi; rfl
  | 1, hi => cases hi; rfl
  | i + 2, hi => simp at hi
theorem pend1 {W : World} {tt : TypeId} {f : Nat × Nat} (h : W.heap[0]? = some (.cells tabA tt f)) {b : Nat} {x : Array Value} {t : TypeId} {g : Nat × Nat} (hb : W.heap[b]? = some (.cells x t g)) : RepH (GC tt) (fun _ => b) [.pending x t] W := by
  refine repH_pend h _ _ fun i o hi => ?_
  match i, hi with
  | 0, hi => cases hi; exact ⟨_, _, _, rfl, hb⟩
  | i + 1, hi => simp at hi
theorem pend2 {W : World} {tt : TypeId} {f : Nat × Nat} (h : W.heap[0]? = some (.cells tabA tt f)) {b c : Nat} {x y : Array Value} {t u : TypeId} {g g' : Nat × Nat} (hb : W.heap[b]? = some (.cells x t g)) (hc : W.heap[c]? = some (.cells y u g')) :
    RepH (GC tt) (fun i => Nat.rec b (fun _ _ => c) i) [.pending x t, .pending y u] W := by
  refine repH_pend h _ _ fun i o hi => ?_
  match i, hi with
  | 0, hi => cases hi; exact ⟨_, _, _, rfl, hb⟩
  | 1, hi => cases hi; exact ⟨_, _, _, rfl, hc⟩
  | i + 2, hi => simp at hi
theorem Parts_calls {W : World} {tt : TypeId} {f : Nat × Nat} (h : W.heap[0]? = some (.cells tabA tt f)) {v w : Value} {a b : List UInt8} (ha : RowIn W v a) (hb : RowIn W w b) (k : Int) (s t : BitVec 32) :
    Calls Tryd.prog 5 #[v, w, .int .i64 k, W32 s, W32 t] W fun e w' => e = .returned (.bool true) ∧ Below W.heap.size W w' := by
  rcases ha with ⟨rfl, rfl⟩ | ⟨b1, o1, c1, x, t1, f1, rfl, g1, g2, g3, g4⟩ <;> rcases hb with ⟨rfl, rfl⟩ | ⟨b2, o2, c2, y, t2, f2, rfl, k1, k2, k3, k4⟩
  · have key := calls_of (u := .bool true) (k := fun h => h = []) rfl (fun i o hi => by simp at hi) (Parts_nn tt k s t) (repH_steps h id) (by intro v hv; exact (scop3_ok (List.all_eq_true.1 (by rfl : [Value.slice none 0 0, .slice none 0 0, .int .i64 k, W32 s, W32 t].all (scop3 0) = true) v hv)).1)
    exact key
  · have key := calls_of (u := .bool true) (k := fun h => h = [.pending y t2]) rfl cold1 (Parts_nr tt y t2 o2 c2 b k4 k1 k2 k s t) (pend1 h k3) (by intro v hv; exact (scop3_ok (List.all_eq_true.1 (by rfl : [Value.slice none 0 0, slc 0 o2 b.length c2, .int .i64 k, W32 s, W32 t].all (scop3 1) = true) v hv)).1)
    exact key
  · have key := calls_of (u := .bool true) (k := fun h => h = [.pending x t1]) rfl cold1 (Parts_rn tt x t1 o1 c1 a g4 g1 g2 k s t) (pend1 h g3) (by intro v hv; exact (scop3_ok (List.all_eq_true.1 (by rfl : [slc 0 o1 a.length c1, Value.slice none 0 0, .int .i64 k, W32 s, W32 t].all (scop3 1) = true) v hv)).1)
    exact key
  · have key := calls_of (u := .bool true) (k := fun h => h = [.pending x t1, .pending y t2]) rfl cold2 (Parts_rr tt x y t1 t2 o1 o2 c1 c2 a b g4 k4 g1 k1 g2 k2 k s t) (pend2 h g3 k3) (by intro v hv; exact (scop3_ok (List.all_eq_true.1 (by rfl : [slc 0 o1 a.length c1, slc 1 o2 b.length c2, .int .i64 k, W32 s, W32 t].all (scop3 2) = true) v hv)).1)
    exact key
end Go.Proofs.YtjpjnjidchdlbaaDoor
