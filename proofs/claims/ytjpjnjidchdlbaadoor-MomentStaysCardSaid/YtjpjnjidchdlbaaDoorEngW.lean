/-
  make of a row, told on abstract states (no condition).
-/
import Derived.Test.YtjpjnjidchdlbaaDoorEngV
import Derived.Laws.MakeOwn
namespace Go.Proofs.YtjpjnjidchdlbaaDoor
set_option linter.unusedSimpArgs false
set_option linter.unusedVariables false
open Go Go.RowKit

section
variable {P : Program} {T : Tab} {G : List (Nat × Obj)} {ro : Option Nat}
theorem run_make_op {a : Act} {w : World} {o : Oper} {x y : Operand} {t : TypeId} (hop : o.op = .makeSlice t x y) :
    (execOp a.eval o).run P w = ((Instr.makeSlice t (a.eval x) (a.eval y)).run P w).andThen fun v w => .ok (.value v) w := by
  obtain ⟨dst, op, type, pos, after, guard⟩ := o
  simp only at hop
  subst hop
  simp only [execOp, Sem.run_bind, Sem.run_pure, Result.andThen_ok]
/-- a new row of l elements, with room for c -/
theorem ao_make {s : St} (hT : TabOk P T) {o : Oper} {x y : Operand} {t : TypeId} (hop : o.op = .makeSlice t x y) {l c : Nat} (hx : evK s x fun v => v = .int .i64 (l : Int)) (hy : evK s y fun v => v = .int .i64 (c : Int))
    {i j : TI} {e : TypeId} (hi : tiAt T t = some i) (hib : i.bad = false) (hd : i.desc = .slice e) (hj : tiAt T e = some j) (hjb : j.bad = false)
    (hlc : l ≤ c) (hfit : (j.bytes : Int) * (c : Int) ≤ 281474976710656) (hn : (c : Int) ≤ 9223372036854775807)
    {m : Nat} (hm : s.h.length = m) {K : St → Prop} (h : putK (grow s (.cells (madeCells j.zero.cells (c * j.size)) e)) o.dst (slc m 0 l c) K) : AO P G ro o s K := by
  subst hm
  unfold AO
  intro r a w R N Q hN
  obtain ⟨vx', e1, e2, rfl⟩ := evK_ok R hx
  obtain ⟨vy', f1, f2, rfl⟩ := evK_ok R hy
  have ti := hT t i hi hib
  have tj := hT e j hj hjb
  have hu : P.underlying t = some (.slice e) := by rw [← hd]; exact ti.und
  obtain ⟨z, z1, z2, z3, z4⟩ := tj.inf
  have hrun := run_make (P := P) w t e z j.zero hu z1 z4 .i64 .i64 (l : Int) (c : Int) (by omega) (by omega) (by rw [z3]; exact hfit) hn
  simp only [Int.toNat_natCast] at hrun
  rw [z2] at hrun
  let cs : Array Value := madeCells j.zero.cells (c * j.size)
  have hcs0 : ∀ u ∈ cs.toList, s1 0 u := by
    intro u hu'
    simp only [cs, madeCells, Array.toList_map, List.mem_map] at hu'
    obtain ⟨q, hq, rfl⟩ := hu'
    by_cases h0 : j.zero.cells.size = 0
    · have : j.zero.cells = #[] := Array.eq_empty_of_size_eq_zero h0
      rw [this]
      trivial
    · have hlt : q % j.zero.cells.size < j.zero.cells.size := Nat.mod_lt _ (by omega)
      rw [getElem!_pos (c := j.zero.cells) (i := q % j.zero.cells.size) (h := hlt)]
      exact (zero_cells tj.zsc r).2 _ (by simp)
  have hcs : ∀ u ∈ cs.toList, s1 s.h.length u := fun u hu' => s1_mono (Nat.zero_le _) (hcs0 u hu')
  have hm : cs.map (c1 r) = cs := map_self _ _ fun u hu' => c1_zero (hcs0 u hu') r
  have R1 := (R.heap.push (c := cs) e hcs)
  rw [hm] at R1
  have S1 : Step r s.h w (rpush r s.h w) (s.h ++ [.cells cs e]) (w.alloc (.cells cs e)) := Step.push r s.h w (.cells cs e) (.cells cs e)
  have R2 : RepS G (rpush r s.h w) ⟨s.t, s.h ++ [.cells cs e], s.d⟩ a (w.alloc (.cells cs e)) := R.move R1 (by simp) S1.ext S1.dfr
  obtain ⟨s', g1, g2, g3⟩ := putK_ok R2 (v := slc s.h.length 0 l c) (by intro q hq; simp) h
  refine wp_of_value (by intro c; rw [hop]; simp) (v := .slice (some ⟨w.heap.size, 0, none⟩) l c) ?_ (hN _ s' _ _ (by rw [g2]; exact S1) (by rw [c3_slc_push] at g1; exact g1) g3)
  rw [run_make_op hop, e1, f1]
  have q1 : c3 r (.int .i64 (l : Int)) = .int .i64 (l : Int) := rfl
  have q2 : c3 r (.int .i64 (c : Int)) = .int .i64 (c : Int) := rfl
  rw [q1, q2, hrun]
  rfl
theorem writeK_of {α : Type} {l vs : List α} {n : Nat} {k : List α → Prop} (h1 : n + vs.length ≤ l.length) (h2 : k (l.take n ++ vs ++ l.drop (n + vs.length))) : writeK l n vs k := (writeK_iff n l vs k).2 ⟨h1, h2⟩
/-! ## Slots forgotten at a loop's head -/
def fgt (m : List (List Bool)) (t : List (List Value)) : List (List Value) := List.zipWith (List.zipWith fun b v => match b with | true => v | false => .chan none) m t
def fgS (m : List (List Bool)) (s : St) : St := ⟨fgt m s.t, s.h, s.d⟩
theorem get2_fgt {m : List (List Bool)} {t : List (List Value)} {i : Nat} {v : Value} (h : get2 (fgt m t) i = some v) : ∃ v0, get2 t i = some v0 ∧ (v = v0 ∨ v = .chan none) := by
  unfold get2 fgt at h
  rw [List.getElem?_zipWith] at h
  cases h1 : m[i / 16]? with
  | none => rw [h1] at h; simp at h
  | some mr =>
    cases h2 : t[i / 16]? with
    | none => rw [h1, h2] at h; simp at h
    | some tr =>
      rw [h1, h2] at h
      simp only [Option.bind_some, List.getElem?_zipWith] at h
      cases h3 : mr[i % 16]? with
      | none => rw [h3] at h; simp at h
      | some b =>
        cases h4 : tr[i % 16]? with
        | none => rw [h3, h4] at h; simp at h
        | some v0 =>
          rw [h3, h4] at h
          refine ⟨v0, by unfold get2; rw [h2]; exact h4, ?_⟩
          cases b
          · exact .inr (Option.some.inj h).symm
          · exact .inl (Option.some.inj h).symm
theorem RepS.fgt {r : Ren} {s : St} {a : Act} {w : World} (R : RepS G r s a w) (m : List (List Bool)) : RepS G r (fgS m s) a w := by
  refine ⟨R.heap, fun i v hi => ?_, R.dfr, R.dok⟩
  obtain ⟨v0, h1, h2⟩ := get2_fgt hi
  obtain ⟨h3, h4⟩ := R.tmp i v0 h1
  refine ⟨h3, fun hm => ?_⟩
  rcases h2 with rfl | rfl
  · exact h4 hm
  · have hu : isMark (.chan none) = true := rfl
    rw [hu] at hm
    cases hm
theorem aw_fgt {s : St} {c : Code} {K : Exit → St → Prop} (m : List (List Bool)) (h : AW P G ro c (fgS m s) K) : AW P G ro c s K := by
  unfold AW at *
  intro r a w R
  exact h r a w (R.fgt m)
/-- a loop, by what holds at each round's head of the slots that are not forgotten -/
theorem aw_inv {s : St} (hT : TabOk P T) {body : Code} {K : Exit → St → Prop} (m : List (List Bool)) (I : Nat → St → Prop) (m0 : Nat)
    (hI : ∀ n s, I n s → run P T G ro body s fun e s' => match e with
      | .normal => ∃ n', n' < n ∧ I n' (fgS m s')
      | .exit i => K (.exit i) s'
      | .goto i => K (.goto i) s'
      | .ret => K .ret s'
      | _ => False) (h0 : I m0 (fgS m s)) : AW P G ro (.loop body) s K := by
  refine aw_loop_aw (fun n s => I n (fgS m s)) m0 (fun n s hn => aw_fgt m (aw_mono (run_ok (ro := ro) hT body (fgS m s) _ (hI n _ hn)) ?_)) h0
  intro e s' h
  cases e <;> first | exact h | exact h.elim
end
end Go.Proofs.YtjpjnjidchdlbaaDoor
