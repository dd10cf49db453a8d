/-
  What an abstract state computes of an operation that turns nothing is what the model's operation hands back: for every program and table of types that fit (TabOk).
-/
import Derived.Test.YtjpjnjidchdlbaaDoorEngC
namespace Go.Proofs.YtjpjnjidchdlbaaDoor
set_option linter.unusedSimpArgs false
set_option linter.unusedVariables false
open Go Go.RowKit

/-! ## The table of types -/
structure EqOk (P : Program) (t : TypeId) (kd : IntKind) (n : Nat) : Prop where
  guard : P.eqGuardType P.depth t = false
  eql : ∀ (l m : List Int), l.length = n → m.length = n → ∀ w, (Op.equal t (.agg (l.map (Value.int kd)).toArray) (.agg (m.map (Value.int kd)).toArray)).run P w = .ok (l == m) w
structure TiOk (P : Program) (t : TypeId) (i : TI) : Prop where
  und : P.underlying t = some i.desc
  inf : ∃ x, P.info? t = some x ∧ x.size = i.size ∧ x.bytes = i.bytes ∧ x.zero = some i.zero
  agg : i.agg = (match i.desc with | .struct _ => true | .array _ _ => true | _ => false)
  esz : ∀ e, (i.desc = .slice e ∨ ∃ n, i.desc = .array n e) → ∃ x, P.info? e = some x ∧ x.size = i.esz
  fld : ∀ fs, i.desc = .struct fs → i.fields = fs.toList.map (fun f => (f.offset, P.cellsOf f.type)) ∧ ∀ f ∈ fs.toList, (P.info? f.type).isSome = true
  fldn : (match i.desc with | .struct _ => True | _ => i.fields = [])
  zsc : s2 0 i.zero
  zsz : i.zero.cells.size = i.size
  sz1 : i.agg = false → i.size = 1
  eqk : ∀ kd, i.eqk = some kd → EqOk P t kd i.size
def tiAt (T : Tab) (t : Nat) : Option TI := (T[t / 16]?).bind fun r => r[t % 16]?
def TabOk (P : Program) (T : Tab) : Prop := ∀ t i, tiAt T t = some i → i.bad = false → TiOk P t i
theorem tiK_ok {P : Program} {T : Tab} (hT : TabOk P T) {t : Nat} {k : TI → Prop} (h : tiK T t k) : ∃ i, TiOk P t i ∧ k i := by
  obtain ⟨i, h1, h2, h3⟩ := (tiK_iff T t k).1 h
  exact ⟨i, hT t i h1 h2, h3⟩

section runs
variable {P : Program} {w : World}
theorem TiOk.run_und {t : TypeId} {i : TI} (h : TiOk P t i) : (underlying t).run P w = .ok i.desc w := by
  simp [underlying, h.und]
theorem TiOk.run_size {t : TypeId} {i : TI} (h : TiOk P t i) : (sizeOf t).run P w = .ok i.size w := by
  obtain ⟨x, h1, h2, _⟩ := h.inf
  simp [sizeOf, typeInfo, h1, h2]
theorem TiOk.run_zero {t : TypeId} {i : TI} (h : TiOk P t i) : (zeroValue t).run P w = .ok i.zero w := by
  obtain ⟨x, h1, _, _, h2⟩ := h.inf
  simp [zeroValue, typeInfo, h1, h2]
theorem TiOk.run_agg {t : TypeId} {i : TI} (h : TiOk P t i) : (isAgg t).run P w = .ok i.agg w := by
  simp only [isAgg, Sem.run_bind, h.run_und, Result.andThen_ok, h.agg]
  cases i.desc <;> rfl
theorem TiOk.run_esz {t : TypeId} {i : TI} (h : TiOk P t i) {e : TypeId} (he : i.desc = .slice e ∨ ∃ n, i.desc = .array n e) : (sizeOf e).run P w = .ok i.esz w := by
  obtain ⟨x, h1, h2⟩ := h.esz e he
  simp [sizeOf, typeInfo, h1, h2]
end runs

/-! ## Operands -/
section ops
variable {P : Program} {T : Tab} {G : List (Nat × Obj)} {r : Ren} {s : St} {a : Act} {w : World}
theorem clean_c3 {v : Value} (h : cleanV v = true) (r : Ren) (n : Nat) : c3 r v = v ∧ s3 n v := by
  cases v with
  | pointer p => cases p with
    | none => exact ⟨rfl, trivial⟩
    | some p => simp [cleanV] at h
  | slice p l c => cases p with
    | none => exact ⟨rfl, trivial⟩
    | some p => simp [cleanV] at h
  | map p => cases p with
    | none => exact ⟨rfl, trivial⟩
    | some p => simp [cleanV] at h
  | int k n => exact ⟨rfl, trivial⟩
  | bool b => exact ⟨rfl, trivial⟩
  | string b => exact ⟨rfl, trivial⟩
  | nilFunc => exact ⟨rfl, trivial⟩
  | nilIface => exact ⟨rfl, trivial⟩
  | _ => simp [cleanV] at h
theorem get2_of {t : List (List Value)} {i : Nat} {row : List Value} {v : Value} (h1 : t[i / 16]? = some row) (h2 : row[i % 16]? = some v) : get2 t i = some v := by
  unfold get2; rw [h1]; exact h2
theorem evK_ok (R : RepS G r s a w) {x : Operand} {k : Value → Prop} (h : evK s x k) : ∃ v, a.eval x = c3 r v ∧ s3 s.h.length v ∧ k v := by
  cases x with
  | tmp i =>
    simp only [evK, nthK_iff] at h
    obtain ⟨row, h1, v, h2, h3⟩ := h
    have hm : isMark v = false := by
      cases v <;> first | rfl | exact h3.elim
    have h4 : k v := by
      cases v <;> first | exact h3 | simp [isMark] at hm
    obtain ⟨hlt, ht⟩ := R.tmp i v (get2_of h1 h2)
    obtain ⟨e1, e2⟩ := ht hm
    refine ⟨v, ?_, e2, h4⟩
    simp [Act.eval, Array.getD_eq_getD_getElem?, e1]
  | const v =>
    simp only [evK, need_iff] at h
    obtain ⟨e1, e2⟩ := clean_c3 h.1 r s.h.length
    exact ⟨v, by rw [e1]; rfl, e2, h.2⟩
  | global g =>
    refine ⟨_, rfl, ?_, h⟩
    intro q hq
    cases hq
  | func f =>
    refine ⟨.func (.func f) #[] #[], by simp [Act.eval, c3, c2, c1], ?_, h⟩
    exact ⟨fun x hx => by simp at hx, fun x hx => by simp at hx⟩
theorem evsK_ok (R : RepS G r s a w) : ∀ (l : List Operand) (k : List Value → Prop), evsK s l k → ∃ vs, l.map a.eval = vs.map (c3 r) ∧ (∀ v ∈ vs, s3 s.h.length v) ∧ k vs := by
  intro l
  induction l with
  | nil => intro k h; exact ⟨[], rfl, by simp, h⟩
  | cons x l ih =>
    intro k h
    simp only [evsK_s] at h
    obtain ⟨v, e1, e2, h1⟩ := evK_ok R h
    obtain ⟨vs, e3, e4, h2⟩ := ih _ h1
    exact ⟨v :: vs, by simp [e1, e3], by simp; exact ⟨e2, e4⟩, h2⟩
theorem partsK_ok (R : RepS G r s a w) : ∀ (l : List (Nat × Operand)) (k : List (Nat × Value) → Prop), partsK s l k →
    ∃ vs, l.map (fun p => (p.1, a.eval p.2)) = vs.map (fun p => (p.1, c3 r p.2)) ∧ (∀ p ∈ vs, s3 s.h.length p.2) ∧ k vs := by
  intro l
  induction l with
  | nil => intro k h; exact ⟨[], rfl, by simp, h⟩
  | cons x l ih =>
    obtain ⟨i, x⟩ := x
    intro k h
    simp only [partsK_s] at h
    obtain ⟨v, e1, e2, h1⟩ := evK_ok R h
    obtain ⟨vs, e3, e4, h2⟩ := ih _ h1
    exact ⟨(i, v) :: vs, by simp [e1, e3], by simp; exact ⟨e2, fun a b => e4 (a, b)⟩, h2⟩

theorem c0_zero {y : Value} (hy : s0 0 y) (r : Ren) : c0 r y = y := by
  unfold c0
  split
  · rename_i p; obtain ⟨b, o, sp⟩ := p; cases sp with
    | none => rfl
    | some z => exact absurd (hy z rfl) (Nat.not_lt_zero _)
  · rename_i p l c; obtain ⟨b, o, sp⟩ := p; cases sp with
    | none => rfl
    | some z => exact absurd (hy z rfl) (Nat.not_lt_zero _)
  · exact absurd hy (Nat.not_lt_zero _)
  · rfl
theorem c1_zero {x : Value} (h0 : s1 0 x) (r : Ren) : c1 r x = x := by
  unfold c1
  split
  · rename_i fn fs cs
    have h1 : fs.map (c0 r) = fs := by
      rw [Array.map_congr_left (g := id) fun y hy => c0_zero (h0.1 y (Array.mem_toList_iff.2 hy)) r]; simp
    have h2 : cs.map (c0 r) = cs := by
      rw [Array.map_congr_left (g := id) fun y hy => c0_zero (h0.2 y (Array.mem_toList_iff.2 hy)) r]; simp
    rw [h1, h2]
  · rename_i hne
    exact c0_zero (s0_simple h0 hne) r
theorem zero_cells {z : Value} (h : s2 0 z) (r : Ren) : z.cells = (z.cells.toList.map (c1 r)).toArray ∧ ∀ x ∈ z.cells.toList, s1 0 x := by
  have h3 := s3_of_s2 h
  have ht : ∀ cs, z ≠ .tuple cs := by rintro cs rfl; exact h
  have hs := (cells_c3 (r := r) h3 ht).2
  refine ⟨?_, hs⟩
  apply Array.ext'
  simp only []
  symm
  rw [List.map_congr_left (g := id)]
  · simp
  · intro x hx; exact c1_zero (hs x hx) r

/-! ## Memory that is read -/
theorem glK_ok {G : List (Nat × Obj)} {g : Nat} {k : Obj → Prop} (h : glK G g k) : ∃ o, (g, o) ∈ G ∧ k o := by
  induction G with
  | nil => exact h.elim
  | cons x G ih =>
    obtain ⟨n, o⟩ := x
    simp only [glK_s] at h
    cases hb : Nat.beq n g with
    | true =>
      rw [hb] at h
      have : n = g := Nat.eq_of_beq_eq_true hb
      subst this
      exact ⟨o, by simp, h⟩
    | false =>
      rw [hb] at h
      obtain ⟨o', h1, h2⟩ := ih h
      exact ⟨o', List.mem_cons_of_mem _ h1, h2⟩
theorem toArr_map (c : Array Value) (f : Value → Value) : (c.toList.map f).toArray = c.map f := by cases c; simp
/-- cells known in a world -/
def CellsAt (w : World) (b : Nat) (l : List Value) : Prop := ∃ t f, w.heap[b]? = some (.cells l.toArray t f)
theorem cellsK_ok (R : RepH G r s.h w) {p : Addr} {k : List Value → Prop} (h : cellsK G s p k) :
    ∃ c, CellsAt w (cA r p).block (c.map (c1 r)) ∧ (∀ x ∈ c, s1 s.h.length x) ∧ k c ∧ cA r p = ⟨(cA r p).block, p.off, none⟩ := by
  obtain ⟨b, o, sp⟩ := p
  cases sp with
  | some q =>
    simp only [cellsK, nthK_iff] at h
    obtain ⟨ob, h1, h2⟩ := h
    cases ob with
    | cells c t f =>
      refine ⟨c.toList, ?_, R.sc _ _ h1, h2, rfl⟩
      have := R.ok _ _ h1
      simp only [ObjOk] at this
      split at this
      · exact ⟨t, (0, 0), by rw [toArr_map]; simpa [cA] using this⟩
      · obtain ⟨g, hg⟩ := this; exact ⟨t, g, by rw [toArr_map]; simpa [cA] using hg⟩
    | _ => exact h2.elim
  | none =>
    simp only [cellsK] at h
    obtain ⟨ob, h1, h2⟩ := glK_ok h
    obtain ⟨⟨c, t, f, rfl, hs, f', hw⟩, _⟩ := R.gl _ _ h1
    refine ⟨c.toList, ⟨t, f', ?_⟩, fun x hx => s1_mono (Nat.zero_le _) (hs x hx), h2, rfl⟩
    simp only [cA]
    rw [hw]
    congr 2
    apply Array.ext'
    simp only []
    symm
    rw [List.map_congr_left (g := id)]
    · simp
    · intro x hx; exact c1_zero (hs x hx) r
theorem CellsAt.cell {b : Nat} {l : List Value} (h : CellsAt w b l) {o : Nat} {v : Value} (hv : l[o]? = some v) : w.cell? ⟨b, o, none⟩ = some v := by
  obtain ⟨t, f, h⟩ := h
  simp [World.cell?, h, hv]
theorem partK_ok {c : List Value} {o n : Nat} {g : Bool} {k : Value → Prop} (hs : ∀ x ∈ c, s1 s.h.length x) (h : partK c o g n k) :
    ∃ v, s3 s.h.length v ∧ k v ∧ (g = true → o + n ≤ c.length ∧ v = .agg ((c.drop o).take n).toArray) ∧ (g = false → c[o]? = some v ∧ s1 s.h.length v) := by
  cases g with
  | true =>
    simp only [partK, dropK_iff, takeK_iff] at h
    obtain ⟨h1, h2, h3⟩ := h
    refine ⟨_, ?_, h3, fun _ => ⟨by simp at h2; omega, rfl⟩, fun h => by cases h⟩
    intro x hx
    exact hs x (List.mem_of_mem_drop (List.mem_of_mem_take hx))
  | false =>
    simp only [partK, nthK_iff] at h
    obtain ⟨v, h1, h2⟩ := h
    have := hs v (List.mem_of_getElem? h1)
    exact ⟨v, s3_of_s1 this, h2, fun h => (by cases h), fun _ => ⟨h1, this⟩⟩
theorem run_loadVar_l {t : TypeId} {i : TI} (ht : TiOk P t i) {b : Nat} {l : List Value} (hc : CellsAt w b l) {o : Nat} {u : Value}
    (hg : i.agg = true → o + i.size ≤ l.length ∧ u = .agg ((l.drop o).take i.size).toArray) (hf : i.agg = false → l[o]? = some u) :
    (loadVar t ⟨b, o, none⟩).run P w = .ok u w := by
  simp only [loadVar, Sem.run_bind, ht.run_agg, Result.andThen_ok]
  cases ha : i.agg with
  | true =>
    obtain ⟨h1, rfl⟩ := hg ha
    have hl := run_loadCells_list (P := P) w ⟨b, o, none⟩ ((l.drop o).take i.size) (by
      intro j u hj
      have hj' : l[o + j]? = some u := by
        rw [List.getElem?_take] at hj
        split at hj
        · rw [List.getElem?_drop] at hj; exact hj
        · simp at hj
      have := hc.cell hj'
      unfold Addr.add
      split
      · rename_i e; subst e; exact this
      · exact this)
    have hlen : ((l.drop o).take i.size).length = i.size := by simp; omega
    rw [hlen] at hl
    simp only [if_true, Sem.run_bind, ht.run_size, Result.andThen_ok, hl, Sem.run_pure]
  | false =>
    have h1 := hf ha
    have hcell : w.cell? ⟨b, o, none⟩ = some u := hc.cell h1
    simp only [Bool.false_eq_true, if_false, run_load, hcell]
theorem clean_c1 {v : Value} (h : cleanV v = true) (r : Ren) : c1 r v = v := by
  cases v <;> first | rfl | (simp [cleanV] at h; done) | skip
  · rename_i p; cases p <;> first | rfl | (simp [cleanV] at h)
  · rename_i p l c; cases p <;> first | rfl | (simp [cleanV] at h)
  · rename_i p; cases p <;> first | rfl | (simp [cleanV] at h)
theorem closed2_c2 {v : Value} (h : closed2 v = true) (r : Ren) : c2 r v = v := by
  by_cases hv : ∃ cs, v = .agg cs
  · obtain ⟨cs, rfl⟩ := hv
    have hc : ∀ x ∈ cs.toList, cleanV x = true := List.all_eq_true.1 h
    simp only [c2]
    congr 1
    apply Array.ext'
    rw [Array.toList_map]
    conv => rhs; rw [← List.map_id cs.toList]
    exact List.map_congr_left fun x hx => clean_c1 (hc x hx) r
  · have e1 : closed2 v = cleanV v := by cases v <;> first | rfl | exact absurd ⟨_, rfl⟩ hv
    have e2 : c2 r v = c1 r v := by cases v <;> first | rfl | exact absurd ⟨_, rfl⟩ hv
    rw [e2]; exact clean_c1 (e1 ▸ h) r
theorem hasAt_ok {h : List Obj} (R : RepH G r h w) {b off : Nat} {ob : Obj} {xs : List Value} (hb : h[b]? = some ob) (ha : HasAt ob off xs) (hc : ∀ x ∈ xs, cleanV x = true) {j : Nat} {x : Value} (hj : xs[j]? = some x) :
    w.cell? ⟨r b, off + j, none⟩ = some x := by
  have hcl : cleanV x = true := hc x (List.mem_of_getElem? hj)
  have H := R.ok b ob hb
  cases ob with
  | cells c t f =>
    have hx := ha j x hj
    have hm : (c.map (c1 r))[off + j]? = some x := by rw [Array.getElem?_map, hx]; simp [clean_c1 hcl]
    simp only [ObjOk] at H
    split at H
    · simp [World.cell?, H, hm]
    · obtain ⟨g, H⟩ := H
      simp [World.cell?, H, hm]
  | pending c t =>
    have hx := ha j x hj
    obtain ⟨g, H⟩ := H
    simp [World.cell?, H, hx]
  | _ => exact ha.elim
theorem clean_sc {v : Value} (h : cleanV v = true) (n : Nat) : s1 n v := by
  cases v <;> first | exact trivial | (simp [cleanV] at h; done) | skip
  · rename_i p; cases p <;> first | exact trivial | (simp [cleanV] at h)
  · rename_i p l c; cases p <;> first | exact trivial | (simp [cleanV] at h)
  · rename_i p; cases p <;> first | exact trivial | (simp [cleanV] at h)
theorem closed2_sc {v : Value} (h : closed2 v = true) (n : Nat) : s2 n v := by
  by_cases hv : ∃ cs, v = .agg cs
  · obtain ⟨cs, rfl⟩ := hv
    have hc : ∀ x ∈ cs.toList, cleanV x = true := List.all_eq_true.1 h
    exact fun x hx => clean_sc (hc x hx) n
  · have e1 : closed2 v = cleanV v := by cases v <;> first | rfl | exact absurd ⟨_, rfl⟩ hv
    have e2 : s2 n v = s1 n v := by cases v <;> first | rfl | exact absurd ⟨_, rfl⟩ hv
    rw [e2]; exact clean_sc (e1 ▸ h) n
theorem run_loadVar_cells {t : TypeId} {i : TI} (ht : TiOk P t i) {b : Nat} {c : List Value} (hc : CellsAt w b (c.map (c1 r))) {o : Nat} {v : Value}
    (hg : i.agg = true → o + i.size ≤ c.length ∧ v = .agg ((c.drop o).take i.size).toArray) (hf : i.agg = false → c[o]? = some v ∧ s1 s.h.length v) :
    (loadVar t ⟨b, o, none⟩).run P w = .ok (c3 r v) w := by
  simp only [loadVar, Sem.run_bind, ht.run_agg, Result.andThen_ok]
  cases ha : i.agg with
  | true =>
    obtain ⟨h1, rfl⟩ := hg ha
    have hl := run_loadCells_list (P := P) w ⟨b, o, none⟩ (((c.drop o).take i.size).map (c1 r)) (by
      intro j u hj
      have hj' : (c.map (c1 r))[o + j]? = some u := by
        rw [List.getElem?_map] at hj ⊢
        rw [List.getElem?_take] at hj
        split at hj
        · rw [List.getElem?_drop] at hj; exact hj
        · simp at hj
      have := hc.cell hj'
      unfold Addr.add
      split
      · rename_i e; subst e; exact this
      · exact this)
    have hlen : (((c.drop o).take i.size).map (c1 r)).length = i.size := by simp; omega
    rw [hlen] at hl
    simp only [if_true, Sem.run_bind, ht.run_size, Result.andThen_ok, hl, Sem.run_pure]
    simp [c3_agg]
  | false =>
    obtain ⟨h1, h2⟩ := hf ha
    have hcell : w.cell? ⟨b, o, none⟩ = some (c1 r v) := hc.cell (by rw [List.getElem?_map, h1]; rfl)
    simp only [Bool.false_eq_true, if_false, run_load, hcell, c3_s1 h2]

end ops
end Go.Proofs.YtjpjnjidchdlbaaDoor
