/-
  A row of numbers that grows by one (no condition).
-/
import Derived.Test.YtjpjnjidchdlbaaStF
namespace Go.Proofs.Ytjpjnjidchdlbaa
set_option linter.unusedSimpArgs false
set_option linter.unusedVariables false
open Go
set_option maxRecDepth 100000
set_option maxHeartbeats 4000000
/-- the numbers acc lie in block q of news, with room behind -/
structure AccI (news : List Obj) (q cp : Nat) (acc : List Int) : Prop where
  pos : 1 ≤ acc.length
  at_ : ∃ rest, news[q]? = some (.cells ⟨acc.map I64 ++ rest⟩ 3) ∧ RowI acc cp rest
theorem AccI.app {news : List Obj} {q cp : Nat} {acc : List Int} (H : AccI news q cp acc) (xs : List Obj) : AccI (news ++ xs) q cp acc := by
  obtain ⟨h1, rest, h2, h3⟩ := H
  exact ⟨h1, rest, by rw [List.getElem?_append_left (List.getElem?_eq_some_iff.1 h2).1]; exact h2, h3⟩
theorem AccI.lt {news : List Obj} {q cp : Nat} {acc : List Int} (H : AccI news q cp acc) : q < news.length := by
  obtain ⟨h1, rest, h2, h3⟩ := H
  exact (List.getElem?_eq_some_iff.1 h2).1
theorem ac_loop {P : Program} {G : List (Nat × Obj)} {f : FuncId} {args : List Value} {h : List Obj} {l : Loop} {k : Value → List Obj → Prop} (H : ∀ L, L = l → AC P G f args (h ++ [Obj.loop L]) k) : AC P G f args (h ++ [Obj.loop l]) k := H l rfl
theorem drop1 {α : Type} {r : List α} {u : α} : ∀ (l : List α), (l ++ u :: r).drop (l.length + 1) = r
  | [] => rfl
  | _ :: l => drop1 l
section
variable {G : List (Nat × Obj)} {ro : Option Nat}
theorem ao_pushI {o : Oper} {x y : Operand} (hop : o.op = .call ⟨.builtin .append, #[x, y], #[43, 43]⟩) {m : Nat} (base : List Obj) (hm : base.length = m) {news : List Obj} {q cp : Nat} {acc : List Int} {xv : Int} (hA : AccI news q cp acc)
    {s : St} (hs : s.h = base ++ (news ++ [.cells ⟨[I64 xv]⟩ 3])) (hx : evK s x fun v => v = slc (q + m) 0 acc.length cp) (hy : evK s y fun v => v = slc (news.length + m) 0 1 1) (hb : acc.length ≤ 1000000000000)
    {K : St → Prop} (h : ∀ news' q' cp', AccI news' q' cp' (acc ++ [xv]) → (∀ (j : Nat) (ob : Obj), j ≠ q → news[j]? = some ob → news'[j]? = some ob ∧ j ≠ q') → putK ⟨s.t, base ++ news', s.d⟩ o.dst (slc (q' + m) 0 (acc ++ [xv]).length cp') K) : AO Try.prog G ro o s K := by
  subst hm
  obtain ⟨hpos, rest, hq, hr⟩ := hA
  have hql : q < news.length := (List.getElem?_eq_some_iff.1 hq).1
  have hg : s.h[q + base.length]? = some (.cells ⟨acc.map I64 ++ rest⟩ 3) := by
    rw [hs, List.getElem?_append_right (by omega), Nat.add_sub_cancel, List.getElem?_append_left hql]
    exact hq
  have hx1 : s.h[news.length + base.length]? = some (.cells ⟨[I64 xv]⟩ 3) := by
    rw [hs, List.getElem?_append_right (by omega), Nat.add_sub_cancel, List.getElem?_append_right (Nat.le_refl _), Nat.sub_self]
    rfl
  have hlen : s.h.length = base.length + (news.length + 1) := by rw [hs, List.length_append, List.length_append]; rfl
  have ry : RowIs s.h 1 (slc (news.length + base.length) 0 1 1) 1 [I64 xv] := .row hx1 (by
    show ∀ (j : Nat) (x : Value), [I64 xv][j]? = some x → (⟨[I64 xv]⟩ : Array Value)[0 + j]? = some x
    intro j x hj
    rw [Nat.zero_add, List.getElem?_toArray]
    exact hj) rfl (by simp [cleanV])
  have hml : (acc.map I64).length = acc.length := by simp
  have hal : (acc ++ [xv]).length = acc.length + 1 := by simp
  by_cases hroom : acc.length + 1 ≤ cp
  · obtain ⟨u, rest', rfl⟩ : ∃ u rest', rest = u :: rest' := by
      match rest, hr.1 with
      | u :: rest', _ => exact ⟨u, rest', rfl⟩
      | [], h0 => simp at h0; omega
    refine ao_room (b := q + base.length) (off := 0) (lx := acc.length) (cx := cp) (ly := 1) (news := [I64 xv]) (vy := slc (news.length + base.length) 0 1 1) (i := ti43) (j := ti3) (e := 3) tabOk hop hx hy rfl rfl rfl rfl rfl hg rfl ry hroom ?_ ?_
    · show 0 + (acc.length + 1) * 1 ≤ (acc.map I64 ++ u :: rest').length
      rw [List.length_append, hml]
      simp
    · have e1 : (⟨(⟨acc.map I64 ++ u :: rest'⟩ : Array Value).toList.take (0 + acc.length * ti3.size) ++ [I64 xv] ++ (⟨acc.map I64 ++ u :: rest'⟩ : Array Value).toList.drop (0 + acc.length * ti3.size + [I64 xv].length)⟩ : Array Value) = ⟨(acc ++ [xv]).map I64 ++ rest'⟩ := by
        have e2 : 0 + acc.length * ti3.size = (acc.map I64).length := by show 0 + acc.length * 1 = _; rw [hml]; omega
        rw [e2]
        show (⟨(acc.map I64 ++ u :: rest').take (acc.map I64).length ++ [I64 xv] ++ (acc.map I64 ++ u :: rest').drop ((acc.map I64).length + 1)⟩ : Array Value) = _
        rw [List.take_left, drop1]
        congr 1
        simp
      rw [e1]
      have e3 : s.h.set (q + base.length) (Obj.cells ⟨(acc ++ [xv]).map I64 ++ rest'⟩ 3) = base ++ ((news ++ [Obj.cells ⟨[I64 xv]⟩ 3]).set q (Obj.cells ⟨(acc ++ [xv]).map I64 ++ rest'⟩ 3)) := by
        rw [hs, List.set_append_right _ _ (by omega), Nat.add_sub_cancel]
      have := h ((news ++ [Obj.cells ⟨[I64 xv]⟩ 3]).set q (Obj.cells ⟨(acc ++ [xv]).map I64 ++ rest'⟩ 3)) q cp ⟨by simp, rest', ?_, ?_, ?_⟩ ?_
      · rw [← e3, hal] at this
        exact this
      · rw [List.getElem?_set_self (by simp; omega)]
      · have := hr.1
        simp at this ⊢
        omega
      · intro y hy'
        exact hr.2 y (by simp [hy'])
      · intro j ob hj hjo
        refine ⟨?_, hj⟩
        rw [List.getElem?_set_ne (fun e => hj e.symm)]
        exact getL hjo
  · refine ao_grow (lx := acc.length) (cx := cp) (ly := 1) (olds := acc.map I64) (news := [I64 xv]) (px := some ⟨q + base.length, 0, some 0⟩) (vx := slc (q + base.length) 0 acc.length cp) (vy := slc (news.length + base.length) 0 1 1) (i := ti43) (j := ti3) (e := 3) tabOk hop hx hy rfl rfl rfl rfl rfl rfl (.row hg ?_ (by show _ = acc.length * 1; rw [hml]; omega) (cI_clean acc)) ry (by omega) (by show (acc.length + 1) * 8 ≤ _; omega) (by omega) ?_
    · show ∀ (j : Nat) (x : Value), (acc.map I64)[j]? = some x → (⟨acc.map I64 ++ rest⟩ : Array Value)[0 + j]? = some x
      intro j x hj
      rw [Nat.zero_add, List.getElem?_toArray]
      exact getL hj
    · intro cap hcap
      have e1 : acc.map I64 ++ [I64 xv] ++ (Builtin.zeroCells ti3.zero.cells (cap - (acc.length + 1))).toList = (acc ++ [xv]).map I64 ++ (Builtin.zeroCells ti3.zero.cells (cap - (acc.length + 1))).toList := by simp
      rw [e1]
      have := h (news ++ [Obj.cells ⟨[I64 xv]⟩ 3] ++ [Obj.cells ⟨(acc ++ [xv]).map I64 ++ (Builtin.zeroCells ti3.zero.cells (cap - (acc.length + 1))).toList⟩ 3]) (news.length + 1) cap ⟨by simp, (Builtin.zeroCells ti3.zero.cells (cap - (acc.length + 1))).toList, ?_, ?_, ?_⟩ ?_
      · rw [hal] at this
        have e4 : s.h.length = news.length + 1 + base.length := by omega
        unfold grow
        rw [e4, hs]
        rw [show base ++ (news ++ [Obj.cells ⟨[I64 xv]⟩ 3] ++ [Obj.cells ⟨(acc ++ [xv]).map I64 ++ (Builtin.zeroCells ti3.zero.cells (cap - (acc.length + 1))).toList⟩ 3]) = base ++ (news ++ [Obj.cells ⟨[I64 xv]⟩ 3]) ++ [Obj.cells ⟨(acc ++ [xv]).map I64 ++ (Builtin.zeroCells ti3.zero.cells (cap - (acc.length + 1))).toList⟩ 3] from by simp] at this
        exact this
      · rw [List.getElem?_append_right (by simp)]
        simp
      · rw [zeros_len]
        have : ti3.zero.cells.size = 1 := rfl
        rw [this]
        simp
        omega
      · exact zeros_cleanB ti3.zero.cells rfl _
      · intro j ob hj hjo
        have := (List.getElem?_eq_some_iff.1 hjo).1
        exact ⟨getL (getL hjo), by omega⟩
end
/-- the blocks that lay are told, one of the new ones is kept -/
theorem fin_keep1 {h0 h1 : List Obj} {k : Value → List Obj → Prop} {v : Value} {s : St} {m : Nat} {c : Array Value} {t : TypeId} {f : Nat × Nat} (hl : h1.length = h0.length) (hm : h0.length ≤ m) (hob : s.h[m]? = some (.cells c t f)) (hc : ∀ x ∈ c.toList, cleanV x = true)
    (h1ok : ∀ (i : Nat) (o : Obj), h1[i]? = some o → (h0[i]? = some o ∧ s.h[i]? = some o) ∨ (s.h[i]? = some (rO (tau h0.length [m]) o) ∧ ∀ x ∈ cellsOf o, s1 (h0.length + 1) x)) (hv : closedV v = true) (hk : k v (h1 ++ [.cells c t f])) : Fin h0 k v s := by
  have hrO : rO (tau h0.length [m]) (.cells c t f) = .cells c t f := by
    simp only [rO]
    rw [map_self _ _ fun x hx => (clean_s1 (hc x hx) 0).2 _]
  refine ⟨h1, [m], v, [.cells c t f], ((closed_ok hv 0).2 _).symm, (closed_ok hv _).1, hl, fun i o hi => h1ok i o hi, rfl, fun j o hj => ?_, by simp, hk⟩
  cases j with
  | succ j => simp at hj
  | zero =>
    simp at hj
    subst hj
    refine ⟨.inl ⟨c, t, f, rfl⟩, fun x hx => ?_, hm, ?_⟩
    · exact clean_sc (hc x hx) _
    · rw [hrO]; exact hob
theorem exk {α : Type} {b : Prop} {l : List α} {i : Nat} (h : i < l.length) (k : ∀ x, l[i]? = some x → b) : b := k _ (List.getElem?_eq_getElem h)
theorem set_ofL {α : Type} {l : List α} {a v : α} {k : List α → Prop} (h : k (l ++ [v])) : writeK (l ++ [a]) l.length [v] k :=
  set_of (by simp) (by rw [List.set_append_right _ _ (Nat.le_refl _), Nat.sub_self]; exact h)
theorem tau_lt {n : Nat} {l : List Nat} {i : Nat} (h : i < n) : tau n l i = i := by unfold tau; rw [if_pos h]
/-- a block that names elder blocks alone -/
theorem told_id {h : List Obj} {n i : Nat} {l : List Nat} {o : Obj} (hi : h[i]? = some o) (hs : ∀ v ∈ cellsOf o, s1 n v) : h[i]? = some (rO (tau n l) o) ∧ ∀ v ∈ cellsOf o, s1 (n + 1) v :=
  ⟨by rw [rO_id (fun i h => tau_lt h) hs]; exact hi, fun v hv => s1_mono (Nat.le_succ n) (hs v hv)⟩
theorem told_slc {h : List Obj} {n i m off len cap : Nat} {t : TypeId} (hi : h[i]? = some (.cells #[slc m off len cap] t)) : h[i]? = some (rO (tau n [m]) (.cells #[slc n off len cap] t)) ∧ ∀ v ∈ cellsOf (.cells #[slc n off len cap] t), s1 (n + 1) v := by
  refine ⟨?_, fun v hv => ?_⟩
  · rw [hi]
    simp [rO, r1, r0, rA, tau]
  · have : v = slc n off len cap := by simpa [cellsOf] using hv
    subst this
    exact fun _ _ => Nat.lt_succ_self n
theorem told_slc2 {h : List Obj} {n i m off len cap : Nat} {a : Int} {t : TypeId} (hi : h[i]? = some (.cells #[I64 a, slc m off len cap] t)) : h[i]? = some (rO (tau n [m]) (.cells #[I64 a, slc n off len cap] t)) ∧ ∀ v ∈ cellsOf (.cells #[I64 a, slc n off len cap] t), s1 (n + 1) v := by
  refine ⟨?_, fun v hv => ?_⟩
  · rw [hi]
    simp [rO, r1, r0, rA, tau]
  · have : v = I64 a ∨ v = slc n off len cap := by simpa [cellsOf] using hv
    rcases this with rfl | rfl
    · trivial
    · exact fun _ _ => Nat.lt_succ_self n
theorem set_last {α : Type} (l : List α) (a b : α) : (l ++ [a]).set l.length b = l ++ [b] := by simp
theorem get_last {α : Type} (l : List α) (a : α) : (l ++ [a])[l.length]? = some a := by simp
end Go.Proofs.Ytjpjnjidchdlbaa
