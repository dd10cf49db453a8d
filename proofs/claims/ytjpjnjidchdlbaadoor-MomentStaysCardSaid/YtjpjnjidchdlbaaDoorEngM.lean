/-
  Facts for the table of types: how an entry's fitness is put together; equality of arrays and structs of integers (no condition).
-/
import Derived.Test.YtjpjnjidchdlbaaDoorEngL
import Derived.ChangeKeysEq
namespace Go.Proofs.YtjpjnjidchdlbaaDoor
set_option linter.unusedSimpArgs false
set_option linter.unusedVariables false
open Go Go.RowKit

section
variable {P : Program} {w : World}
def ints (kd : IntKind) (l : List Int) : Array Value := (l.map (Value.int kd)).toArray
theorem arr_items (d : Nat) {e : TypeId} {k kd : IntKind} (he : P.underlying e = some (.int k)) (l m : List Int) :
    ∀ (n i : Nat), i + n = l.length → i + n = m.length → ∀ w, (Op.eqItems (d + 1) e 1 (ints kd l) (ints kd m) (List.range' i n)).run P w = .ok (l.drop i == m.drop i) w := by
  have hag : ∀ w, (isAgg e).run P w = .ok false w := by
    intro w; simp [isAgg, underlying, he]
  intro n
  induction n with
  | zero =>
    intro i h1 h2 w
    have e1 : l.drop i = [] := List.drop_eq_nil_of_le (by omega)
    have e2 : m.drop i = [] := List.drop_eq_nil_of_le (by omega)
    simp [Op.eqItems, e1, e2]
  | succ n ih =>
    intro i h1 h2 w
    have hl : i < l.length := by omega
    have hm : i < m.length := by omega
    have p1 : ∀ w, (part e (ints kd l) (i * 1)).run P w = .ok (.int kd l[i]) w := by
      intro w; simp [part, hag, ints, hl]
    have p2 : ∀ w, (part e (ints kd m) (i * 1)).run P w = .ok (.int kd m[i]) w := by
      intro w; simp [part, hag, ints, hm]
    rw [List.range'_succ]
    simp only [Op.eqItems, Sem.run_bind, p1, p2, Result.andThen_ok, run_equalIn_int w d e kd k _ _ he]
    have key : (l.drop i == m.drop i) = (l[i] == m[i] && l.drop (i + 1) == m.drop (i + 1)) := by
      rw [List.drop_eq_getElem_cons hl, List.drop_eq_getElem_cons hm]; rfl
    rw [key]
    cases hq : (l[i] == m[i]) with
    | true => simp only [Bool.not_true, Bool.false_eq_true, if_false, Bool.true_and]; exact ih (i + 1) (by omega) (by omega) w
    | false => simp
theorem eq_array (d : Nat) {t e : TypeId} {n : Nat} {k kd : IntKind} (hu : P.underlying t = some (.array n e)) (he : P.underlying e = some (.int k)) (hi : (P.info? e).map (·.size) = some 1)
    (l m : List Int) (hl : l.length = n) (hm : m.length = n) (w : World) : (Op.equalIn (d + 2) t (.agg (ints kd l)) (.agg (ints kd m))).run P w = .ok (l == m) w := by
  cases hx : P.info? e with
  | none => rw [hx] at hi; cases hi
  | some x =>
    have hc : P.cellsOf e = 1 := by
      rw [hx] at hi; simp only [Option.map_some, Option.some.injEq] at hi
      simp [Program.cellsOf, hx, hi]
    rw [show d + 2 = (d + 1) + 1 from rfl, run_equalIn_array w (d + 1) _ _ hu hx, hc, List.range_eq_range']
    have := arr_items (kd := kd) d he l m n 0 (by omega) (by omega) w
    simpa using this
theorem eqOk_array {t e : TypeId} {n : Nat} {k : IntKind} (kd : IntKind) (hg : P.eqGuardType P.depth t = false) (hu : P.underlying t = some (.array n e)) (he : P.underlying e = some (.int k)) (hi : (P.info? e).map (·.size) = some 1) : EqOk P t kd n :=
  ⟨hg, fun l m hl hm w => eq_array 9998 hu he hi l m hl hm w⟩
theorem eqOk_two {t e t1 t2 : TypeId} {n1 n2 : Nat} {k : IntKind} (kd : IntKind) {f1 f2 : Field} (hg : P.eqGuardType P.depth t = false) (hu : P.underlying t = some (.struct #[f1, f2])) (hp : P.stoodInHeld t = false)
    (h1 : f1.type = t1) (h2 : f2.type = t2) (o1 : f1.offset = 0) (o2 : f2.offset = n1) (q1 : (f1.name == "_") = false) (q2 : (f2.name == "_") = false)
    (u1 : P.underlying t1 = some (.array n1 e)) (u2 : P.underlying t2 = some (.array n2 e)) (z1 : (P.info? t1).map (·.size) = some n1) (z2 : (P.info? t2).map (·.size) = some n2)
    (he : P.underlying e = some (.int k)) (hi : (P.info? e).map (·.size) = some 1) : EqOk P t kd (n1 + n2) := by
  refine ⟨hg, fun l m hl hm w => ?_⟩
  have hf : P.fieldsOf t = #[f1, f2] := by simp [Program.fieldsOf, hu]
  have hs : ∀ (t' : TypeId) (n : Nat), (P.info? t').map (·.size) = some n → ∀ w, (sizeOf t').run P w = .ok n w := by
    intro t' n h w
    cases hx : P.info? t' with
    | none => rw [hx] at h; cases h
    | some x => rw [hx] at h; simp only [Option.map_some, Option.some.injEq] at h; simp [sizeOf, typeInfo, hx, h]
  have hag : ∀ (t' : TypeId) (n : Nat), P.underlying t' = some (.array n e) → ∀ w, (isAgg t').run P w = .ok true w := by
    intro t' n h w; simp [isAgg, underlying, h]
  have part1 : ∀ (l : List Int), l.length = n1 + n2 → ∀ w, (part t1 (ints kd l) 0).run P w = .ok (.agg (ints kd (l.take n1))) w := by
    intro l hl w
    simp only [part, Sem.run_bind, hag t1 n1 u1, Result.andThen_ok, if_true, hs t1 n1 z1, Sem.run_pure]
    congr 2
    apply Array.ext'
    simp [ints, List.map_take]
  have part2 : ∀ (l : List Int), l.length = n1 + n2 → ∀ w, (part t2 (ints kd l) n1).run P w = .ok (.agg (ints kd (l.drop n1))) w := by
    intro l hl w
    simp only [part, Sem.run_bind, hag t2 n2 u2, Result.andThen_ok, if_true, hs t2 n2 z2, Sem.run_pure]
    congr 2
    apply Array.ext'
    have : (List.drop n1 (List.map (Value.int kd) l)).length ≤ n2 := by simp; omega
    simp only [ints, Array.toList_extract, List.extract_eq_take_drop, Nat.add_sub_cancel_left, List.map_drop]
    exact List.take_of_length_le this
  show (Op.equalIn (9999 + 1) t (.agg (ints kd l)) (.agg (ints kd m))).run P w = _
  rw [run_equalIn_struct w 9999 t _ _ (by rw [hf]; exact hu) hp, hf]
  have n1' : f1.name ≠ "_" := by intro h; rw [h] at q1; simp at q1
  have n2' : f2.name ≠ "_" := by intro h; rw [h] at q2; simp at q2
  have e1 := eq_array (P := P) (kd := kd) 9997 u1 he hi (l.take n1) (m.take n1) (by simp; omega) (by simp; omega) w
  have e2 := eq_array (P := P) (kd := kd) 9997 u2 he hi (l.drop n1) (m.drop n1) (by simp; omega) (by simp; omega) w
  simp only [Op.eqFields, if_pos n1', if_pos n2', Sem.run_bind, h1, h2, o1, o2, part1 l hl, part1 m hm, Result.andThen_ok, e1]
  have key : (l == m) = ((l.take n1 == m.take n1) && (l.drop n1 == m.drop n1)) := by
    rw [Bool.eq_iff_iff]
    simp only [beq_iff_eq, Bool.and_eq_true]
    constructor
    · rintro rfl; exact ⟨rfl, rfl⟩
    · rintro ⟨a, b⟩
      rw [← List.take_append_drop n1 l, a, b, List.take_append_drop]
  rw [key]
  have e2' : (Op.equalIn 9999 t2 (.agg (ints kd (l.drop n1))) (.agg (ints kd (m.drop n1)))).run P w = .ok (l.drop n1 == m.drop n1) w := e2
  generalize (l.take n1 == m.take n1) = A
  cases A with
  | false => simp
  | true =>
    simp only [Bool.not_true, Bool.false_eq_true, if_false, Sem.run_bind, part2 l hl, part2 m hm, Result.andThen_ok, e2', Bool.true_and]
    cases (l.drop n1 == m.drop n1) <;> simp

/-! ## Entries -/
def zscB (v : Value) : Bool := match v with
  | .agg cs => cs.toList.all cleanV
  | v => cleanV v
theorem zsc_of {v : Value} (h : zscB v = true) : s2 0 v := by
  cases v with
  | agg cs =>
    intro x hx
    have := (List.all_eq_true.1 h) x hx
    cases x <;> first | trivial | (simp [cleanV] at this)
    · rename_i p; cases p <;> first | trivial | (simp [cleanV] at this)
    · rename_i p l c; cases p <;> first | trivial | (simp [cleanV] at this)
    · rename_i p; cases p <;> first | trivial | (simp [cleanV] at this)
  | pointer p => cases p <;> first | trivial | (simp [zscB, cleanV] at h)
  | slice p l c => cases p <;> first | trivial | (simp [zscB, cleanV] at h)
  | map p => cases p <;> first | trivial | (simp [zscB, cleanV] at h)
  | tuple _ => simp [zscB, cleanV] at h
  | func _ _ _ => simp [zscB, cleanV] at h
  | _ => trivial
theorem ti_inf {t : TypeId} {a b : Nat} {z : Value} (h : (P.info? t).map (fun x => (x.size, x.bytes, x.zero)) = some (a, b, some z)) : ∃ x, P.info? t = some x ∧ x.size = a ∧ x.bytes = b ∧ x.zero = some z := by
  cases hx : P.info? t with
  | none => rw [hx] at h; cases h
  | some x =>
    rw [hx] at h
    simp only [Option.map_some, Option.some.injEq, Prod.mk.injEq] at h
    exact ⟨x, rfl, h.1, h.2.1, h.2.2⟩
theorem ti_sz {t : TypeId} {a : Nat} (h : (P.info? t).map (·.size) = some a) : ∃ x, P.info? t = some x ∧ x.size = a := by
  cases hx : P.info? t with
  | none => rw [hx] at h; cases h
  | some x =>
    rw [hx] at h
    simp only [Option.map_some, Option.some.injEq] at h
    exact ⟨x, rfl, h⟩
theorem ti_scalar {t : TypeId} {d : TypeDesc} {b : Nat} {z : Value} (hd : (∀ e, d ≠ .slice e) ∧ (∀ n e, d ≠ .array n e) ∧ ∀ fs, d ≠ .struct fs) (h1 : P.underlying t = some d)
    (h2 : (P.info? t).map (fun x => (x.size, x.bytes, x.zero)) = some (1, b, some z)) (h3 : zscB z = true) (h4 : z.cells.size = 1) :
    TiOk P t { desc := d, agg := false, size := 1, bytes := b, zero := z } where
  und := h1
  inf := ti_inf h2
  agg := by cases d <;> first | rfl | exact absurd rfl (hd.2.1 _ _) | exact absurd rfl (hd.2.2 _)
  esz := by
    rintro e (h | ⟨n, h⟩)
    · exact absurd h (hd.1 e)
    · exact absurd h (hd.2.1 n e)
  fld := fun fs h => absurd h (hd.2.2 fs)
  fldn := by cases d <;> first | rfl | trivial
  zsc := zsc_of h3
  zsz := h4
  sz1 := fun _ => rfl
  eqk := fun kd h => by cases h
theorem ti_slice {t e : TypeId} {b z : Nat} (h1 : P.underlying t = some (.slice e))
    (h2 : (P.info? t).map (fun x => (x.size, x.bytes, x.zero)) = some (1, b, some (.slice none 0 0))) (h3 : (P.info? e).map (·.size) = some z) :
    TiOk P t { desc := .slice e, agg := false, size := 1, bytes := b, zero := .slice none 0 0, len := 0, elem := e, esz := z } where
  und := h1
  inf := ti_inf h2
  agg := rfl
  esz := by
    rintro e' (h | ⟨n, h⟩)
    · cases h; exact ti_sz h3
    · cases h
  fld := fun fs h => by cases h
  fldn := rfl
  zsc := trivial
  zsz := rfl
  sz1 := fun _ => rfl
  eqk := fun kd h => by cases h
theorem ti_array {t e : TypeId} {n b z c : Nat} {v : Value} {q : Option IntKind} (h1 : P.underlying t = some (.array n e))
    (h2 : (P.info? t).map (fun x => (x.size, x.bytes, x.zero)) = some (c, b, some v)) (h3 : (P.info? e).map (·.size) = some z) (h4 : zscB v = true) (h5 : v.cells.size = c) (h6 : ∀ kd, q = some kd → EqOk P t kd c) :
    TiOk P t { desc := .array n e, agg := true, size := c, bytes := b, zero := v, len := n, elem := e, esz := z, eqk := q } where
  und := h1
  inf := ti_inf h2
  agg := rfl
  esz := by
    rintro e' (h | ⟨n, h⟩)
    · cases h
    · cases h; exact ti_sz h3
  fld := fun fs h => by cases h
  fldn := rfl
  zsc := zsc_of h4
  zsz := h5
  sz1 := fun h => by cases h
  eqk := h6
theorem ti_struct {t : TypeId} {fs : Array Field} {b c : Nat} {v : Value} {q : Option IntKind} {fl : List (Nat × Nat)} (h1 : P.underlying t = some (.struct fs))
    (h2 : (P.info? t).map (fun x => (x.size, x.bytes, x.zero)) = some (c, b, some v)) (h3 : fs.toList.map (fun f => (f.offset, (P.info? f.type).map (·.size))) = fl.map (fun p => (p.1, some p.2))) (h4 : zscB v = true) (h5 : v.cells.size = c) (h6 : ∀ kd, q = some kd → EqOk P t kd c) :
    TiOk P t { desc := .struct fs, agg := true, size := c, bytes := b, zero := v, fields := fl, eqk := q } where
  und := h1
  inf := ti_inf h2
  agg := rfl
  esz := by
    rintro e' (h | ⟨n, h⟩) <;> cases h
  fld := by
    intro fs' h
    cases h
    have key : ∀ (l : List Field) (fl : List (Nat × Nat)), l.map (fun f => (f.offset, (P.info? f.type).map (·.size))) = fl.map (fun p => (p.1, some p.2)) →
        fl = l.map (fun f => (f.offset, P.cellsOf f.type)) ∧ ∀ f ∈ l, (P.info? f.type).isSome = true := by
      intro l
      induction l with
      | nil => intro fl h; cases fl with
        | nil => exact ⟨rfl, by simp⟩
        | cons p fl => cases h
      | cons f l ih =>
        intro fl h
        cases fl with
        | nil => cases h
        | cons p fl =>
          simp only [List.map_cons, List.cons.injEq, Prod.mk.injEq] at h
          obtain ⟨⟨a1, a2⟩, a3⟩ := h
          obtain ⟨b1, b2⟩ := ih fl a3
          cases hx : P.info? f.type with
          | none => rw [hx] at a2; cases a2
          | some x =>
            rw [hx] at a2
            simp only [Option.map_some, Option.some.injEq] at a2
            refine ⟨?_, ?_⟩
            · obtain ⟨p1, p2⟩ := p
              simp only at a1 a2
              simp only [List.map_cons, List.cons.injEq, Prod.mk.injEq]
              refine ⟨⟨a1.symm, ?_⟩, b1⟩
              simp [Program.cellsOf, hx, a2]
            · intro g hg
              rcases List.mem_cons.1 hg with rfl | hg
              · rw [hx]; rfl
              · exact b2 g hg
    exact key _ _ h3
  fldn := trivial
  zsc := zsc_of h4
  zsz := h5
  sz1 := fun h => by cases h
  eqk := h6
def RowAll (P : Program) (t : Nat) (l : List TI) : Prop := match l with
  | [] => True
  | i :: l => (i.bad = true ∨ TiOk P t i) ∧ RowAll P (t + 1) l
def TabAll (P : Program) (q : Nat) (T : Tab) : Prop := match T with
  | [] => True
  | l :: T => RowAll P (16 * q) l ∧ TabAll P (q + 1) T
theorem rowAll_get : ∀ (l : List TI) (t j : Nat) (i : TI), RowAll P t l → l[j]? = some i → i.bad = true ∨ TiOk P (t + j) i := by
  intro l
  induction l with
  | nil => intro t j i _ h; cases h
  | cons x l ih =>
    intro t j i h hj
    cases j with
    | zero => cases hj; exact h.1
    | succ j =>
      have := ih (t + 1) j i h.2 hj
      rwa [show t + 1 + j = t + (j + 1) from by omega] at this
theorem tabAll_get : ∀ (T : Tab) (q j : Nat) (l : List TI), TabAll P q T → T[j]? = some l → RowAll P (16 * (q + j)) l := by
  intro T
  induction T with
  | nil => intro q j l _ h; cases h
  | cons x T ih =>
    intro q j l h hj
    cases j with
    | zero => cases hj; exact h.1
    | succ j =>
      have := ih (q + 1) j l h.2 hj
      rwa [show q + 1 + j = q + (j + 1) from by omega] at this
theorem tabOk_of {T : Tab} (h : TabAll P 0 T) : TabOk P T := by
  intro t i hi hb
  unfold tiAt at hi
  cases hr : T[t / 16]? with
  | none => rw [hr] at hi; cases hi
  | some l =>
    rw [hr] at hi
    have h1 := tabAll_get T 0 (t / 16) l h hr
    have h2 := rowAll_get l _ (t % 16) i h1 hi
    rcases h2 with h2 | h2
    · rw [hb] at h2; cases h2
    · rwa [show 16 * (0 + t / 16) + t % 16 = t from by omega] at h2
end
end Go.Proofs.YtjpjnjidchdlbaaDoor
