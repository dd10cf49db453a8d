/-
  A row of bodies that grows by one; what a row of numbers tells (no condition).
-/
import Derived.Test.YtjpjnjidchdlbaaStI
namespace Go.Proofs.Ytjpjnjidchdlbaa
set_option linter.unusedSimpArgs false
set_option linter.unusedVariables false
open Go
set_option maxRecDepth 100000
set_option maxHeartbeats 4000000
/-- the bodies acc lie in block q of news, with room behind -/
structure AccB (news : List Obj) (q cp : Nat) (acc : List Bd) : Prop where
  pos : 1 ≤ acc.length
  at_ : ∃ rest : List Value, news[q]? = some (.cells ⟨flatB acc ++ rest⟩ 56) ∧ acc.length * 6 + rest.length = cp * 6 ∧ ∀ x ∈ rest, cleanV x = true
/-- w is nil, or such a row -/
def AccV (m : Nat) (news : List Obj) (w : Value) (acc : List Bd) : Prop := (w = .slice none 0 0 ∧ acc = []) ∨ ∃ q cp, w = slc (q + m) 0 acc.length cp ∧ AccB news q cp acc
theorem AccB.le {news : List Obj} {q cp : Nat} {acc : List Bd} (H : AccB news q cp acc) : acc.length ≤ cp := by
  obtain ⟨_, rest, _, h, _⟩ := H
  omega
theorem flatB_app (l m : List Bd) : flatB (l ++ m) = flatB l ++ flatB m := by simp [flatB]
theorem zeros56 : ti56.zero.cells.size = 6 := rfl
theorem cells_part {c : Array Value} {o n : Nat} {xs : List Value} (h : ∀ (j : Nat) (v : Value), xs[j]? = some v → c[o + j]? = some v) (hn : xs.length = n) (h0 : 0 < n) {K : List Value → Prop} (hk : K xs) : dropK c.toList o fun r => takeK r n K := by
  subst hn
  have hlt : o + (xs.length - 1) < c.size := by
    obtain ⟨v, hv⟩ : ∃ v, xs[xs.length - 1]? = some v := ⟨_, List.getElem?_eq_getElem (by omega)⟩
    exact (Array.getElem?_eq_some_iff.1 (h _ v hv)).1
  have ht : (c.toList.drop o).take xs.length = xs := by
    apply List.ext_getElem?
    intro j
    by_cases hj : j < xs.length
    · obtain ⟨v, hv⟩ : ∃ v, xs[j]? = some v := ⟨_, List.getElem?_eq_getElem hj⟩
      rw [List.getElem?_take, if_pos hj, List.getElem?_drop, hv]
      have := h j v hv
      simpa using this
    · rw [List.getElem?_eq_none (by simp; omega), List.getElem?_eq_none (by omega)]
  rw [dropK_iff]
  refine ⟨by simp; omega, ?_⟩
  rw [takeK_iff]
  refine ⟨by simp; omega, ?_⟩
  rw [ht]
  exact hk
theorem sliceAddr_ne {a : Addr} {l m sz : Nat} (h : m ≠ l) : sliceAddr a l m sz = ⟨a.block, a.off + l * sz, a.spot⟩ := by
  unfold sliceAddr
  rw [if_neg h]
theorem ac_args {P : Program} {G : List (Nat × Obj)} {f : FuncId} {args args' : List Value} {h : List Obj} {k : Value → List Obj → Prop} (e : args = args') (H : AC P G f args' h k) : AC P G f args h k := e ▸ H
section
variable {G : List (Nat × Obj)} {ro : Option Nat}
theorem ao_pushB {o : Oper} {x y : Operand} (hop : o.op = .call ⟨.builtin .append, #[x, y], #[40, 40]⟩) {m : Nat} (base : List Obj) (hm : base.length = m) {news : List Obj} {w : Value} {acc : List Bd} {b : Bd} (hV : AccV m news w acc)
    {s : St} (hs : s.h = base ++ (news ++ [.cells ⟨b.cells⟩ 56])) (hx : evK s x fun v => v = w) (hy : evK s y fun v => v = slc (news.length + m) 0 1 1) (hb : acc.length ≤ 1000000000000)
    {K : St → Prop} (h : ∀ news' q' cp', AccB news' q' cp' (acc ++ [b]) → putK ⟨s.t, base ++ news', s.d⟩ o.dst (slc (q' + m) 0 (acc ++ [b]).length cp') K) : AO Try.prog G ro o s K := by
  subst hm
  have hx1 : s.h[news.length + base.length]? = some (.cells ⟨b.cells⟩ 56) := by
    rw [hs, List.getElem?_append_right (by omega), Nat.add_sub_cancel, List.getElem?_append_right (Nat.le_refl _), Nat.sub_self]
    rfl
  have hlen : s.h.length = base.length + (news.length + 1) := by rw [hs, List.length_append, List.length_append]; rfl
  have hal : (acc ++ [b]).length = acc.length + 1 := by simp
  have ry : RowIs s.h 6 (slc (news.length + base.length) 0 1 1) 1 b.cells := .row hx1 (by
    show ∀ (j : Nat) (x : Value), b.cells[j]? = some x → (⟨b.cells⟩ : Array Value)[0 + j]? = some x
    intro j x hj
    rw [Nat.zero_add, List.getElem?_toArray]
    exact hj) rfl (by simp [cleanV])
  rcases hV with ⟨rfl, rfl⟩ | ⟨q, cp, rfl, hpos, rest, hq, hr, hrc⟩
  · refine ao_grow (lx := 0) (cx := 0) (ly := 1) (olds := []) (news := b.cells) (px := none) (vx := .slice none 0 0) (vy := slc (news.length + base.length) 0 1 1) (i := ti40) (j := ti56) (e := 56) tabOk hop hx hy rfl rfl rfl rfl rfl rfl (.nil 0) ry (by omega) (by show (0 + 1) * 48 ≤ _; omega) (by omega) ?_
    intro cap hcap
    have := h (news ++ [Obj.cells ⟨b.cells⟩ 56] ++ [Obj.cells ⟨[] ++ b.cells ++ (Builtin.zeroCells ti56.zero.cells (cap - (0 + 1))).toList⟩ 56]) (news.length + 1) cap ⟨by simp, (Builtin.zeroCells ti56.zero.cells (cap - (0 + 1))).toList, ?_, ?_, ?_⟩
    · have e4 : s.h.length = news.length + 1 + base.length := by omega
      unfold grow
      rw [e4, hs]
      rw [show base ++ (news ++ [Obj.cells ⟨b.cells⟩ 56] ++ [Obj.cells ⟨[] ++ b.cells ++ (Builtin.zeroCells ti56.zero.cells (cap - (0 + 1))).toList⟩ 56]) = base ++ (news ++ [Obj.cells ⟨b.cells⟩ 56]) ++ [Obj.cells ⟨[] ++ b.cells ++ (Builtin.zeroCells ti56.zero.cells (cap - (0 + 1))).toList⟩ 56] from by simp] at this
      exact this
    · rw [List.getElem?_append_right (by simp)]
      simp [flatB]
    · rw [zeros_len, zeros56]
      simp
      omega
    · exact zeros_cleanB ti56.zero.cells rfl _
  have hml : (flatB acc).length = acc.length * 6 := flatB_len acc
  have hql : q < news.length := (List.getElem?_eq_some_iff.1 hq).1
  have hg : s.h[q + base.length]? = some (.cells ⟨flatB acc ++ rest⟩ 56) := by
    rw [hs, List.getElem?_append_right (by omega), Nat.add_sub_cancel, List.getElem?_append_left hql]
    exact hq
  by_cases hroom : acc.length + 1 ≤ cp
  · obtain ⟨u, rest', hu, rfl⟩ : ∃ u rest' : List Value, u.length = 6 ∧ rest = u ++ rest' := ⟨rest.take 6, rest.drop 6, by simp; omega, (List.take_append_drop _ _).symm⟩
    refine ao_room (b := q + base.length) (off := 0) (lx := acc.length) (cx := cp) (ly := 1) (news := b.cells) (vy := slc (news.length + base.length) 0 1 1) (i := ti40) (j := ti56) (e := 56) tabOk hop hx hy rfl rfl rfl rfl rfl hg rfl ry hroom ?_ ?_
    · show 0 + (acc.length + 1) * 6 ≤ (flatB acc ++ (u ++ rest')).length
      rw [List.length_append, hml, List.length_append, hu]
      omega
    · have e1 : (⟨(⟨flatB acc ++ (u ++ rest')⟩ : Array Value).toList.take (0 + acc.length * ti56.size) ++ b.cells ++ (⟨flatB acc ++ (u ++ rest')⟩ : Array Value).toList.drop (0 + acc.length * ti56.size + b.cells.length)⟩ : Array Value) = ⟨flatB (acc ++ [b]) ++ rest'⟩ := by
        have e2 : 0 + acc.length * ti56.size = (flatB acc).length := by show 0 + acc.length * 6 = _; rw [hml]; omega
        have e3 : (flatB acc).length + b.cells.length = (flatB acc ++ u).length := by rw [List.length_append, hu]; rfl
        rw [e2, e3]
        show (⟨(flatB acc ++ (u ++ rest')).take (flatB acc).length ++ b.cells ++ (flatB acc ++ (u ++ rest')).drop (flatB acc ++ u).length⟩ : Array Value) = _
        rw [List.take_left, ← List.append_assoc (flatB acc) u, List.drop_left, flatB_app]
        simp [flatB]
      rw [e1]
      have e3 : s.h.set (q + base.length) (Obj.cells ⟨flatB (acc ++ [b]) ++ rest'⟩ 56) = base ++ ((news ++ [Obj.cells ⟨b.cells⟩ 56]).set q (Obj.cells ⟨flatB (acc ++ [b]) ++ rest'⟩ 56)) := by
        rw [hs, List.set_append_right _ _ (by omega), Nat.add_sub_cancel]
      have := h ((news ++ [Obj.cells ⟨b.cells⟩ 56]).set q (Obj.cells ⟨flatB (acc ++ [b]) ++ rest'⟩ 56)) q cp ⟨by simp, rest', ?_, ?_, ?_⟩
      · rw [← e3, hal] at this
        exact this
      · rw [List.getElem?_set_self (by simp; omega)]
      · rw [hal]
        rw [List.length_append, hu] at hr
        omega
      · intro y hy'
        exact hrc y (by simp [hy'])
  · refine ao_grow (lx := acc.length) (cx := cp) (ly := 1) (olds := flatB acc) (news := b.cells) (px := some ⟨q + base.length, 0, some 0⟩) (vx := slc (q + base.length) 0 acc.length cp) (vy := slc (news.length + base.length) 0 1 1) (i := ti40) (j := ti56) (e := 56) tabOk hop hx hy rfl rfl rfl rfl rfl rfl (.row hg ?_ (by show _ = acc.length * 6; rw [hml]) (flatB_clean acc)) ry (by omega) (by show (acc.length + 1) * 48 ≤ _; omega) (by omega) ?_
    · show ∀ (j : Nat) (x : Value), (flatB acc)[j]? = some x → (⟨flatB acc ++ rest⟩ : Array Value)[0 + j]? = some x
      intro j x hj
      rw [Nat.zero_add, List.getElem?_toArray]
      exact getL hj
    · intro cap hcap
      have e1 : flatB acc ++ b.cells ++ (Builtin.zeroCells ti56.zero.cells (cap - (acc.length + 1))).toList = flatB (acc ++ [b]) ++ (Builtin.zeroCells ti56.zero.cells (cap - (acc.length + 1))).toList := by rw [flatB_app]; simp [flatB]
      rw [e1]
      have := h (news ++ [Obj.cells ⟨b.cells⟩ 56] ++ [Obj.cells ⟨flatB (acc ++ [b]) ++ (Builtin.zeroCells ti56.zero.cells (cap - (acc.length + 1))).toList⟩ 56]) (news.length + 1) cap ⟨by simp, (Builtin.zeroCells ti56.zero.cells (cap - (acc.length + 1))).toList, ?_, ?_, ?_⟩
      · rw [hal] at this
        have e4 : s.h.length = news.length + 1 + base.length := by omega
        unfold grow
        rw [e4, hs]
        rw [show base ++ (news ++ [Obj.cells ⟨b.cells⟩ 56] ++ [Obj.cells ⟨flatB (acc ++ [b]) ++ (Builtin.zeroCells ti56.zero.cells (cap - (acc.length + 1))).toList⟩ 56]) = base ++ (news ++ [Obj.cells ⟨b.cells⟩ 56]) ++ [Obj.cells ⟨flatB (acc ++ [b]) ++ (Builtin.zeroCells ti56.zero.cells (cap - (acc.length + 1))).toList⟩ 56] from by simp] at this
        exact this
      · rw [List.getElem?_append_right (by simp)]
        simp
      · rw [zeros_len, zeros56, hal]
        omega
      · exact zeros_cleanB ti56.zero.cells rfl _
end
end Go.Proofs.Ytjpjnjidchdlbaa
