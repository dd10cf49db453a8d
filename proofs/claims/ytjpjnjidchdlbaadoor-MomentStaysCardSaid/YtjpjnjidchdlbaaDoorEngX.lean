/-
  Maps of strings that a function lays itself; regions that draw their order, by facts (no condition).
-/
import Derived.Test.YtjpjnjidchdlbaaDoorEngW
import Derived.MapKept
namespace Go.Proofs.YtjpjnjidchdlbaaDoor
set_option linter.unusedSimpArgs false
set_option linter.unusedVariables false
open Go Go.RowKit

section
variable {P : Program} {T : Tab} {G : List (Nat × Obj)} {ro : Option Nat}
/-! ## Maps -/
/-- what is found under a string: nothing is told where a key is no string -/
def lookS (l : List MapEntry) (k : ByteArray) : Option (Option Value) := (Instr.findNow .string (.string k) l 0).map (Option.map (·.2))
theorem findNow_shift (k : ByteArray) : ∀ (l : List MapEntry) (i j : Nat), (Instr.findNow .string (.string k) l i).map (Option.map (·.2)) = (Instr.findNow .string (.string k) l j).map (Option.map (·.2))
  | [], _, _ => rfl
  | e :: l, i, j => by
    unfold Instr.findNow
    cases Instr.sameNow .string (.string k) e.key with
    | none => rfl
    | some b =>
      cases b with
      | true => rfl
      | false => exact findNow_shift k l (i + 1) (j + 1)
theorem lookS_cons (e : MapEntry) (l : List MapEntry) (k : ByteArray) : lookS (e :: l) k = match Instr.sameNow .string (.string k) e.key with
    | some true => some (some e.val)
    | some false => lookS l k
    | none => none := by
  unfold lookS
  conv => lhs; unfold Instr.findNow
  cases Instr.sameNow .string (.string k) e.key with
  | none => rfl
  | some b =>
    cases b with
    | true => rfl
    | false => exact findNow_shift k l 1 0
/-- the map holds just what f tells -/
def MapIs (es : Array MapEntry) (f : ByteArray → Option Value) : Prop := ∀ k, lookS es.toList k = some (f k)
theorem mapIs_new : MapIs #[] fun _ => none := fun _ => rfl
theorem lookS_push : ∀ (l : List MapEntry) (q k : ByteArray) (v : Value) (n : Nat) (x : Option Value), lookS l k = some x → (k = q → x = none) →
    lookS (l ++ [{ key := .string q, val := v, born := n }]) k = some (if k = q then some v else x)
  | [], q, k, v, n, x, h, hq => by
    cases h
    have e : lookS ([] ++ [{ key := .string q, val := v, born := n }]) k = match Instr.sameNow .string (.string k) (.string q) with
      | some true => some (some v)
      | some false => lookS [] k
      | none => none := lookS_cons _ _ _
    rw [e]
    have e2 : Instr.sameNow .string (.string k) (.string q) = some (k == q) := rfl
    rw [e2]
    by_cases hk : k = q
    · rw [if_pos hk, (MapKept.bytes_beq k q).2 hk]
    · have hb : (k == q) = false := by
        cases hc : (k == q) with
        | false => rfl
        | true => exact absurd ((MapKept.bytes_beq k q).1 hc) hk
      rw [if_neg hk, hb]
      rfl
  | e :: l, q, k, v, n, x, h, hq => by
    rw [List.cons_append, lookS_cons]
    rw [lookS_cons] at h
    cases hs : Instr.sameNow .string (.string k) e.key with
    | none => rw [hs] at h; cases h
    | some b =>
      rw [hs] at h
      cases b with
      | true =>
        cases h
        have hk : ¬ k = q := fun e => by cases hq e
        rw [if_neg hk]
      | false => exact lookS_push l q k v n x h hq
theorem MapIs.push {es : Array MapEntry} {f : ByteArray → Option Value} (h : MapIs es f) {q : ByteArray} (hq : f q = none) (v : Value) (n : Nat) :
    MapIs (es.push { key := .string q, val := v, born := n }) fun k => if k = q then some v else f k := by
  intro k
  rw [Array.toList_push]
  exact lookS_push es.toList q k v n (f k) (h k) fun e => by rw [e]; exact hq
theorem findNow_map (g : Value → Value) (k : ByteArray) : ∀ (l : List MapEntry) (i : Nat),
    Instr.findNow .string (.string k) (l.map fun e => { key := e.key, val := g e.val, born := e.born }) i = (Instr.findNow .string (.string k) l i).map (Option.map fun p => (p.1, g p.2))
  | [], _ => rfl
  | e :: l, i => by
    simp only [List.map_cons]
    unfold Instr.findNow
    simp only
    cases Instr.sameNow .string (.string k) e.key with
    | none => rfl
    | some b =>
      cases b with
      | true => rfl
      | false => exact findNow_map g k l (i + 1)
theorem lookS_find {l : List MapEntry} {k : ByteArray} {x : Option Value} (h : lookS l k = some x) : ∃ y, Instr.findNow .string (.string k) l 0 = some y ∧ y.map (·.2) = x := by
  unfold lookS at h
  cases hf : Instr.findNow .string (.string k) l 0 with
  | none => rw [hf] at h; cases h
  | some y => rw [hf] at h; exact ⟨y, rfl, Option.some.inj h⟩
def notAgg (v : Value) : Bool := match v with
  | .agg _ => false
  | .tuple _ => false
  | _ => true
theorem ao_map {s : St} {o : Oper} {t : TypeId} (hop : o.op = .makeMap t none) {m : Nat} (hm : s.h.length = m) {K : St → Prop} (h : putK (grow s (.map #[] 0)) o.dst (.map (some m)) K) : AO P G ro o s K := by
  subst hm
  unfold AO
  intro r a w R N Q hN
  have S1 : Step r s.h w (rpush r s.h w) (s.h ++ [.map #[] 0]) (w.alloc (.map #[] 0)) := Step.push r s.h w (.map #[] 0) (.map #[] 0)
  have R1 : RepH G (rpush r s.h w) (s.h ++ [.map #[] 0]) (w.alloc (.map #[] 0)) := by
    refine R.heap.pushO ?_ (fun v hv => by simp [cellsOf] at hv)
    show (w.alloc (.map #[] 0)).heap[w.heap.size]? = some (.map (Array.map _ #[]) 0)
    rw [Array.map_empty]
    exact (MapKept.heap_alloc w _).1
  have R2 : RepS G (rpush r s.h w) ⟨s.t, s.h ++ [.map #[] 0], s.d⟩ a (w.alloc (.map #[] 0)) := R.move R1 (by simp) S1.ext S1.dfr
  obtain ⟨s', g1, g2, g3⟩ := putK_ok R2 (v := .map (some s.h.length)) (show s.h.length < (s.h ++ [Obj.map #[] 0]).length by simp) h
  have e3 : c3 (rpush r s.h w) (.map (some s.h.length)) = .map (some w.heap.size) := by
    show Value.map (some (rpush r s.h w s.h.length)) = _
    simp [rpush]
  rw [e3] at g1
  refine wp_of_value (by intro c; rw [hop]; simp) (v := .map (some w.heap.size)) ?_ (hN _ s' _ _ (by rw [g2]; exact S1) g1 g3)
  obtain ⟨dst, op, type, pos, after, guard⟩ := o
  simp only at hop
  subst hop
  rfl
/-- a key that is not there yet -/
theorem ao_insert {s : St} (hT : TabOk P T) {o : Oper} {x y z : Operand} {t : TypeId} (hop : o.op = .insert t x y z) {m : Nat} {q : ByteArray} {v : Value}
    (hx : evK s x fun v => v = .map (some m)) (hy : evK s y fun v => v = .string q) (hz : evK s z fun u => u = v) (hv : notAgg v = true)
    {i j : TI} {k e : TypeId} (hi : tiAt T t = some i) (hib : i.bad = false) (hd : i.desc = .map k e) (hj : tiAt T k = some j) (hjb : j.bad = false) (hjd : j.desc = .string)
    {es : Array MapEntry} {n : Nat} (hb : s.h[m]? = some (.map es n)) {f : ByteArray → Option Value} (hf : MapIs es f) (hq : f q = none) {K : St → Prop}
    (h : putK ⟨s.t, s.h.set m (.map (es.push { key := .string q, val := v, born := n }) (n + 1)), s.d⟩ o.dst undef K) : AO P G ro o s K := by
  unfold AO
  intro r a w R N Q hN
  obtain ⟨_, e1, e2, rfl⟩ := evK_ok R hx
  obtain ⟨_, f1, f2, rfl⟩ := evK_ok R hy
  obtain ⟨v', g1, g2, hv'⟩ := evK_ok R hz
  rw [hv'] at g1 g2
  have ti := hT t i hi hib
  have tj := hT k j hj hjb
  have hu : P.underlying t = some (.map k e) := by rw [← hd]; exact ti.und
  have hu2 : P.underlying k = some .string := by rw [← hjd]; exact tj.und
  have hs1 : s1 s.h.length v := by
    refine s1_simple (s2_simple g2 ?_) ?_
    · rintro cs rfl; cases hv
    · rintro cs rfl; cases hv
  have hc : c3 r v = c1 r v := c3_s1 hs1
  have hw : w.heap[r m]? = some (.map (es.map fun e => { key := e.key, val := c1 r e.val, born := e.born }) n) := R.heap.ok m _ hb
  have hbl : m < s.h.length := (List.getElem?_eq_some_iff.1 hb).1
  have hrb : r m < w.heap.size := R.heap.lt hb rfl
  let o' : Obj := .map ((es.map fun e => ({ key := e.key, val := c1 r e.val, born := e.born } : MapEntry)).push { key := .string q, val := c1 r v, born := n }) (n + 1)
  have hrun : (Instr.mapUpdate t (.map (some (r m))) (.string q) (c1 r v)).run P w = .ok () { w with heap := w.heap.setIfInBounds (r m) o' } := by
    obtain ⟨y, hy1, hy2⟩ := lookS_find (hf q)
    have hnone : y = none := by
      cases y with
      | none => rfl
      | some p => rw [hq] at hy2; cases hy2
    rw [hnone] at hy1
    have hfk : (Instr.findKey k (.string q) (es.map fun e => ({ key := e.key, val := c1 r e.val, born := e.born } : MapEntry)).toList).run P w = .ok none w := by
      refine MapKept.run_findKey hu2 ?_
      rw [Array.toList_map, findNow_map, hy1]
      rfl
    have hck : (Instr.checkKey false 10000 k (.string q)).run P w = .ok () w := MapKept.run_checkKey (d := .string) (k := .string q) (n := 9999) hu2 trivial false
    simp only [Instr.mapUpdate, Sem.run_bind, run_underlying hu, Result.andThen_ok, MapKept.run_getObj_map hw, hck, hfk, MapKept.run_setObj_map _ hw]
    rfl
  have H' : RepH G r (s.h.set m (.map (es.push { key := .string q, val := v, born := n }) (n + 1))) { w with heap := w.heap.setIfInBounds (r m) o' } := by
    refine R.heap.setO hb rfl rfl ?_ ?_
    · show (w.heap.setIfInBounds (r m) o')[r m]? = _
      rw [Array.getElem?_setIfInBounds_self_of_lt hrb]
      simp [o']
    · intro u hu'
      simp only [cellsOf, Array.toList_push, List.map_append, List.map_cons, List.map_nil, List.mem_append, List.mem_singleton] at hu'
      rcases hu' with hu' | rfl
      · exact R.heap.sc m _ hb u hu'
      · exact hs1
  have S' : Step r s.h w r (s.h.set m (.map (es.push { key := .string q, val := v, born := n }) (n + 1))) { w with heap := w.heap.setIfInBounds (r m) o' } :=
    Step.setO hb rfl (by intro d hd'; cases hd') _
  have R' : RepS G r ⟨s.t, s.h.set m (.map (es.push { key := .string q, val := v, born := n }) (n + 1)), s.d⟩ a { w with heap := w.heap.setIfInBounds (r m) o' } := R.move H' (by simp) (fun _ _ => rfl) S'.dfr
  obtain ⟨s', q1, q2, q3⟩ := putK_ok R' (v := undef) (by intro x hx; simp at hx) h
  refine wp_of_skip (by intro c; rw [hop]; simp) ?_ (hN r s' _ _ (by rw [q2]; exact S') (by simpa [c3, undef] using q1) q3)
  have he : (execOp a.eval o).run P w = ((Instr.mapUpdate t (a.eval x) (a.eval y) (a.eval z)).run P w).andThen fun _ w => .ok .skip w := by
    obtain ⟨dst, op, type, pos, after, guard⟩ := o
    simp only at hop
    subst hop
    simp only [execOp, Sem.run_bind, Sem.run_pure, Result.andThen_ok]
  rw [he, e1, f1, g1, hc]
  have q1 : c3 r (.map (some m)) = .map (some (r m)) := rfl
  have q2 : c3 r (.string q) = .string q := rfl
  rw [q1, q2, hrun]
  rfl
theorem ao_lookup {s : St} (hT : TabOk P T) {o : Oper} {x y : Operand} {t : TypeId} (hop : o.op = .lookup t x y false) {m : Nat} {q : ByteArray} {v : Value}
    (hx : evK s x fun v => v = .map (some m)) (hy : evK s y fun v => v = .string q)
    {i j : TI} {k e : TypeId} (hi : tiAt T t = some i) (hib : i.bad = false) (hd : i.desc = .map k e) (hj : tiAt T k = some j) (hjb : j.bad = false) (hjd : j.desc = .string)
    {es : Array MapEntry} {n : Nat} (hb : s.h[m]? = some (.map es n)) {f : ByteArray → Option Value} (hf : MapIs es f) (hq : f q = some v) {K : St → Prop}
    (h : putK s o.dst v K) : AO P G ro o s K := by
  unfold AO
  intro r a w R N Q hN
  obtain ⟨_, e1, e2, rfl⟩ := evK_ok R hx
  obtain ⟨_, f1, f2, rfl⟩ := evK_ok R hy
  have ti := hT t i hi hib
  have tj := hT k j hj hjb
  have hu : P.underlying t = some (.map k e) := by rw [← hd]; exact ti.und
  have hu2 : P.underlying k = some .string := by rw [← hjd]; exact tj.und
  have hw : w.heap[r m]? = some (.map (es.map fun e => { key := e.key, val := c1 r e.val, born := e.born }) n) := R.heap.ok m _ hb
  obtain ⟨y', hy1, hy2⟩ := lookS_find (hf q)
  rw [hq] at hy2
  obtain ⟨⟨p, v'⟩, rfl⟩ : ∃ p, y' = some p := by
    cases y' with
    | none => cases hy2
    | some p => exact ⟨p, rfl⟩
  have hvv : v' = v := Option.some.inj hy2
  subst hvv
  have hmem : ∃ e ∈ es.toList, e.val = v' := by
    have : ∀ (l : List MapEntry) (i : Nat), Instr.findNow .string (.string q) l i = some (some (p, v')) → ∃ e ∈ l, e.val = v' := by
      intro l
      induction l with
      | nil => intro i h; cases h
      | cons e l ih =>
        intro i h
        unfold Instr.findNow at h
        cases hs : Instr.sameNow .string (.string q) e.key with
        | none => rw [hs] at h; cases h
        | some b =>
          rw [hs] at h
          cases b with
          | true => cases h; exact ⟨e, List.mem_cons_self, rfl⟩
          | false =>
            obtain ⟨e', h1, h2⟩ := ih _ h
            exact ⟨e', List.mem_cons_of_mem _ h1, h2⟩
    exact this _ _ hy1
  have hs1 : s1 s.h.length v' := by
    obtain ⟨e, h1, h2⟩ := hmem
    exact R.heap.sc m _ hb v' (by simp only [cellsOf, List.mem_map]; exact ⟨e, h1, h2⟩)
  have hc : c3 r v' = c1 r v' := c3_s1 hs1
  have hrun : (Instr.lookup t (.map (some (r m))) (.string q) false).run P w = .ok (c1 r v') w := by
    have hfk : (Instr.findKey k (.string q) (es.map fun e => ({ key := e.key, val := c1 r e.val, born := e.born } : MapEntry)).toList).run P w = .ok (some (p, c1 r v')) w := by
      refine MapKept.run_findKey hu2 ?_
      rw [Array.toList_map, findNow_map, hy1]
      rfl
    have hck : ∀ b, (Instr.checkKey b 10000 k (.string q)).run P w = .ok () w := fun b => MapKept.run_checkKey (d := .string) (k := .string q) (n := 9999) hu2 trivial b
    simp only [Instr.lookup, Sem.run_bind, run_underlying hu, Result.andThen_ok, MapKept.run_getObj_map hw, hck, hfk, Sem.run_pure]
    rfl
  obtain ⟨s', q1, q2, q3⟩ := putK_ok R (v := v') (s3_of_s1 hs1) h
  refine wp_of_value (by intro c; rw [hop]; simp) (v := c3 r v') ?_ (hN r s' _ w (by rw [q2]; exact Step.refl _ _ _) q1 q3)
  have he : (execOp a.eval o).run P w = ((Instr.lookup t (a.eval x) (a.eval y) false).run P w).andThen fun v w => .ok (.value v) w := by
    obtain ⟨dst, op, type, pos, after, guard⟩ := o
    simp only at hop
    subst hop
    simp only [execOp, Sem.run_bind, Sem.run_pure, Result.andThen_ok]
  rw [he, e1, f1]
  have q1 : c3 r (.map (some m)) = .map (some (r m)) := rfl
  have q2 : c3 r (.string q) = .string q := rfl
  rw [q1, q2, hrun, hc]
  rfl
end
end Go.Proofs.YtjpjnjidchdlbaaDoor
