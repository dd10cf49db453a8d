/-
  append of so many zero values, told on abstract states (no condition).
-/
import Derived.Test.YtjpjnjidchdlbaaStD
import Derived.Lib.AppendZerosOnto
namespace Go.Proofs.Ytjpjnjidchdlbaa
set_option linter.unusedSimpArgs false
set_option linter.unusedVariables false
open Go Go.RowKit
set_option maxRecDepth 100000
set_option maxHeartbeats 4000000
section
variable {P : Program} {T : Tab} {G : List (Nat × Obj)} {ro : Option Nat} {r : Ren} {s : St} {a : Act} {w : World}
theorem run_append_opZ {o : Oper} {x y : Operand} {t tn : TypeId} (hop : o.op = .call ⟨.builtin .append, #[x, y], #[t, tn]⟩) :
    (execOp a.eval o).run P w = ((Builtin.append_ #[t, tn] o.type #[a.eval x, a.eval y]).run P w).andThen fun v w => .ok (.value v) w := by
  obtain ⟨dst, op, type, pos, after, guard⟩ := o
  simp only at hop
  subst hop
  have e : (#[x, y] : Array Operand).map a.eval = #[a.eval x, a.eval y] := by simp
  simp only [execOp, resolve, Sem.run_bind, Sem.run_pure, Result.andThen_ok, invoke, builtin, e]
/-- k zero values behind a slice that has no room: a new block -/
theorem ao_growZ (hT : TabOk P T) {o : Oper} {x y : Operand} {t tn : TypeId} {kq kn : IntKind} (hop : o.op = .call ⟨.builtin .append, #[x, y], #[t, tn]⟩) {vx : Value} {k : Nat} (hx : evK s x fun v => v = vx) (hy : evK s y fun v => v = .int kq (k : Int))
    {i j q : TI} {e : TypeId} (hi : tiAt T t = some i) (hib : i.bad = false) (hd : i.desc = .slice e) (hj : tiAt T e = some j) (hjb : j.bad = false) (hq : tiAt T tn = some q) (hqb : q.bad = false) (hqd : q.desc = .int kn)
    {lx cx : Nat} {olds : List Value} {px : Option Addr} (hvx : vx = .slice px lx cx) (rx : RowIs s.h j.size vx lx olds) (h0 : 0 < k) (hsz : 0 < j.size) (hfull : cx < lx + k) (hfit : (lx + k) * j.bytes ≤ 140737488355328) (hn : lx + k ≤ 140737488355328)
    {K : St → Prop} (h : ∀ cap, lx + k ≤ cap → putK (grow s (.cells ⟨olds ++ (Builtin.zeroCells j.zero.cells k).toList ++ (Builtin.zeroCells j.zero.cells (cap - (lx + k))).toList⟩ e)) o.dst (slc s.h.length 0 (lx + k) cap) K) : AO P G ro o s K := by
  unfold AO
  intro r a w R N Q hN
  obtain ⟨vx', e1, e2, rfl⟩ := evK_ok R hx
  obtain ⟨vy', f1, f2, rfl⟩ := evK_ok R hy
  have ti := hT t i hi hib
  have tj := hT e j hj hjb
  have tq := hT tn q hq hqb
  have hu : P.underlying t = some (.slice e) := by rw [← hd]; exact ti.und
  have hun : P.underlying tn = some (.int kn) := by rw [← hqd]; exact tq.und
  obtain ⟨z, z1, z2, z3, z4⟩ := tj.inf
  have Rd : RepH G r s.h w.drew := R.heap.same rfl
  have hold : (Builtin.firstCells z.size lx (c3 r vx')).run P w.drew = .ok olds.toArray w.drew := by rw [z2]; exact rx.first Rd
  have hc3 : ∃ px', c3 r vx' = .slice px' lx cx := by rw [hvx]; cases px <;> exact ⟨_, rfl⟩
  obtain ⟨px', hpx⟩ := hc3
  have hkb : k * j.bytes ≤ 140737488355328 := Nat.le_trans (Nat.mul_le_mul_right _ (by omega)) hfit
  have hrun := Go.Lib.run_append_grow_zeros (P := P) w t tn o.type e z j.zero kq kn hu hun z1 z4 px' lx cx olds (by rw [← hpx]; exact hold) k h0 (by rw [z2]; exact hsz) hfull (by omega) (by rw [z3]; omega) (growslice_fits hfull (by rw [z3]; exact hfit))
  rw [← hpx] at hrun
  let cs : Array Value := ⟨olds ++ (Builtin.zeroCells j.zero.cells k).toList ++ (Builtin.zeroCells j.zero.cells (grownCap w (lx + k) cx e - (lx + k))).toList⟩
  have hcse : olds.toArray ++ Builtin.zeroCells j.zero.cells k ++ Builtin.zeroCells j.zero.cells (grownCap w (lx + k) cx e - (lx + k)) = cs := by
    apply Array.ext'
    simp [cs]
  rw [hcse] at hrun
  have hcl : ∀ u ∈ olds, cleanV u = true := by
    intro u h1
    rcases rx.cells R.heap with ⟨_, _, rfl⟩ | ⟨p, c, _, _, _, hc, _⟩
    · cases h1
    · exact hc u h1
  have hzc : ∀ n, ∀ u ∈ (Builtin.zeroCells j.zero.cells n).toList, s1 0 u := by
    intro n u hu'
    simp only [Builtin.zeroCells, Array.toList_map, List.mem_map] at hu'
    obtain ⟨q, hq, rfl⟩ := hu'
    by_cases h0 : j.zero.cells.size = 0
    · rw [h0] at hq; simp at hq
    · have hlt : q % j.zero.cells.size < j.zero.cells.size := Nat.mod_lt _ (by omega)
      rw [getElem!_pos (c := j.zero.cells) (i := q % j.zero.cells.size) (h := hlt)]
      exact (zero_cells tj.zsc r).2 _ (by simp)
  have hcs0 : ∀ u ∈ cs.toList, s1 0 u := by
    intro u hu'
    rcases List.mem_append.1 hu' with h1 | h1
    · rcases List.mem_append.1 h1 with h1 | h1
      · exact clean_sc (hcl u h1) 0
      · exact hzc _ u h1
    · exact hzc _ u h1
  have hcs : ∀ u ∈ cs.toList, s1 s.h.length u := fun u hu' => s1_mono (Nat.zero_le _) (hcs0 u hu')
  have hm : cs.map (c1 r) = cs := map_self _ _ fun u hu' => c1_zero (hcs0 u hu') r
  have R1 := (Rd.push (c := cs) e hcs)
  rw [hm] at R1
  have S1 : Step r s.h w (rpush r s.h w.drew) (s.h ++ [.cells cs e]) (w.drew.alloc (.cells cs e)) := (Step.same (w := w) (w' := w.drew) rfl rfl rfl rfl).trans (Step.push r s.h w.drew (.cells cs e) (.cells cs e))
  have R2 : RepS G (rpush r s.h w.drew) ⟨s.t, s.h ++ [.cells cs e], s.d⟩ a (w.drew.alloc (.cells cs e)) := R.move R1 (by simp) S1.ext S1.dfr
  have hk : putK ⟨s.t, s.h ++ [Obj.cells cs e], s.d⟩ o.dst (slc s.h.length 0 (lx + k) (grownCap w (lx + k) cx e)) K := h (grownCap w (lx + k) cx e) (grownCap_ge w _ _ _)
  obtain ⟨s', g1, g2, g3⟩ := putK_ok R2 (v := slc s.h.length 0 (lx + k) (grownCap w (lx + k) cx e)) (by intro q hq; simp) hk
  refine wp_of_value (by intro c; rw [hop]; simp) (v := .slice (some ⟨w.heap.size, 0, none⟩) (lx + k) (grownCap w (lx + k) cx e)) ?_ (hN _ s' _ _ (by rw [g2]; exact S1) (by rw [c3_slc_push] at g1; exact g1) g3)
  rw [run_append_opZ hop, e1, f1]
  have hc : c3 r (.int kq (k : Int)) = .int kq (k : Int) := rfl
  rw [hc, hrun]
  rfl
theorem run_cap_op {a : Act} {w : World} {o : Oper} {x : Operand} {t e : TypeId} (hop : o.op = .call ⟨.builtin .cap, #[x], #[t]⟩) (ht : P.underlying t = some (.slice e)) {p : Option Addr} {n c : Nat} (hv : a.eval x = .slice p n c) :
    (execOp a.eval o).run P w = .ok (.value (.int .i64 (c : Int))) w := by
  obtain ⟨dst, op, type, pos, after, guard⟩ := o
  simp only at hop
  subst hop
  have e : (#[x] : Array Operand).map a.eval = #[.slice p n c] := by simp [hv]
  simp only [execOp, resolve, Sem.run_bind, Sem.run_pure, Result.andThen_ok, invoke, builtin, e]
  simp [Builtin.cap_, run_underlying ht, goInt]
/-- how much a slice has room for -/
theorem ao_cap (hT : TabOk P T) {o : Oper} {x : Operand} {t : TypeId} (hop : o.op = .call ⟨.builtin .cap, #[x], #[t]⟩) {p : Option Addr} {n c : Nat} (hx : evK s x fun v => v = .slice p n c)
    {i : TI} {e : TypeId} (hi : tiAt T t = some i) (hib : i.bad = false) (hd : i.desc = .slice e) {K : St → Prop} (h : putK s o.dst (.int .i64 (c : Int)) K) : AO P G ro o s K := by
  unfold AO
  intro r a w R N Q hN
  obtain ⟨vx', e1, e2, hv⟩ := evK_ok R hx
  have ti := hT t i hi hib
  have hu : P.underlying t = some (.slice e) := by rw [← hd]; exact ti.und
  have hc : ∃ p', a.eval x = .slice p' n c := by rw [e1, hv]; cases p <;> exact ⟨_, rfl⟩
  obtain ⟨p', hp⟩ := hc
  obtain ⟨s', g1, g2, g3⟩ := putK_ok R (v := .int .i64 (c : Int)) (by exact trivial) h
  refine wp_of_value (by intro c; rw [hop]; simp) (v := .int .i64 (c : Int)) ?_ (hN r s' _ _ (by rw [g2]; exact Step.refl _ _ _) g1 g3)
  exact run_cap_op hop hu hp
end
end Go.Proofs.Ytjpjnjidchdlbaa
