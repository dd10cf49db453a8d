/-
  Continuation: what is computed of an operation that turns nothing is what the model hands back (for every program and table of types that fit).
-/
import Derived.Test.YtjpjnjidchdlbaaDoorEngE
namespace Go.Proofs.YtjpjnjidchdlbaaDoor
set_option linter.unusedSimpArgs false
set_option linter.unusedVariables false
open Go Go.RowKit

section ops
variable {P : Program} {T : Tab} {G : List (Nat × Obj)} {r : Ren} {s : St} {a : Act} {w : World}

theorem overlay_list (off : Nat) : ∀ (vs : List Value) (n : Nat) (cells : Array Value), off + n + vs.length ≤ cells.size →
    ((vs.zipIdx n).foldl (fun (cs : Array Value) (x : Value × Nat) => cs.setIfInBounds (off + x.2) x.1) cells).toList =
      cells.toList.take (off + n) ++ vs ++ cells.toList.drop (off + n + vs.length) := by
  intro vs
  induction vs with
  | nil => intro n cells _; simp
  | cons v vs ih =>
    intro n cells h
    simp only [List.length_cons] at h
    simp only [List.zipIdx_cons, List.foldl_cons]
    rw [ih (n + 1) _ (by simp; omega)]
    simp only [Array.toList_setIfInBounds, List.length_cons]
    have hlt : off + n < cells.toList.length := by simp; omega
    have e1 : (cells.toList.set (off + n) v).take (off + (n + 1)) = cells.toList.take (off + n) ++ [v] := by
      rw [show off + (n + 1) = (off + n) + 1 from by omega, List.take_succ_eq_append_getElem (by simpa using hlt)]
      simp [List.take_set_of_le]
    have e2 : (cells.toList.set (off + n) v).drop (off + (n + 1) + vs.length) = cells.toList.drop (off + n + (vs.length + 1)) := by
      rw [show off + (n + 1) + vs.length = off + n + (vs.length + 1) from by omega]
      rw [List.drop_set_of_lt (by omega)]
    rw [e1, e2]; simp
theorem overlay (off : Nat) (vs cells : Array Value) (h : off + vs.size ≤ cells.size) :
    (vs.zipIdx.foldl (fun cs (c, j) => cs.setIfInBounds (off + j) c) cells) = (cells.toList.take off ++ vs.toList ++ cells.toList.drop (off + vs.size)).toArray := by
  apply Array.ext'
  have := overlay_list off vs.toList 0 cells (by simpa using h)
  simp only [Nat.add_zero] at this
  rw [← Array.foldl_toList]
  simpa using this
theorem notTup_ne {v : Value} (h : notTup v = true) : ∀ cs, v ≠ .tuple cs := by rintro cs rfl; cases h
theorem fillK_ok {n : Nat} {place : Nat → Option (Nat × Nat)} {pl : Nat → (Nat × Nat → Prop) → Prop} (hp : ∀ i q, pl i q → ∃ p, place i = some p ∧ q p) :
    ∀ (l : List (Nat × Value)) (cells : List Value) (k : List Value → Prop), (∀ x ∈ cells, s1 n x) → (∀ p ∈ l, s3 n p.2) → fillK cells pl l k →
      ∃ c, Instr.fill place (cells.map (c1 r)).toArray (l.map fun p => (p.1, c3 r p.2)) = some (c.map (c1 r)).toArray ∧ (∀ x ∈ c, s1 n x) ∧ c.length = cells.length ∧ k c := by
  intro l
  induction l with
  | nil => intro cells k hc _ h; exact ⟨cells, rfl, hc, rfl, h⟩
  | cons x l ih =>
    obtain ⟨i, v⟩ := x
    intro cells k hc hl h
    simp only [fillK_s] at h
    obtain ⟨⟨off, size⟩, hpl, h⟩ := hp _ _ h
    simp only [need_iff, writeK_iff, beq_iff_eq] at h
    obtain ⟨ht, hs, hlen, h⟩ := h
    obtain ⟨e1, e2⟩ := cells_c3 (r := r) (hl (i, v) (by simp)) (notTup_ne ht)
    simp only [Array.length_toList] at hlen
    have hc' : ∀ x ∈ cells.take off ++ v.cells.toList ++ cells.drop (off + v.cells.toList.length), s1 n x := by
      intro x hx
      simp only [List.mem_append] at hx
      rcases hx with (hx | hx) | hx
      · exact hc x (List.mem_of_mem_take hx)
      · exact e2 x hx
      · exact hc x (List.mem_of_mem_drop hx)
    obtain ⟨c, f1, f2, f3, f4⟩ := ih _ k hc' (fun p hp => hl p (List.mem_cons_of_mem _ hp)) h
    refine ⟨c, ?_, f2, ?_, f4⟩
    · simp only [List.map_cons, Instr.fill, hpl]
      have z1 : (c3 r v).cells.size = v.cells.size := by rw [e1]; simp
      rw [if_neg (by simp [z1, hs]; omega), overlay _ _ _ (by rw [z1]; simpa using hlen)]
      rw [← f1]
      congr 1
      simp [e1]
    · rw [f3]; simp; omega
theorem boundK_ok (R : RepS G r s a w) {x : Option Operand} {d y : Nat} {k : Nat → Prop} (h : boundK s x d y k) :
    ∃ n, k n ∧ (x = none → n = d) ∧ ∀ o code, x = some o → (Instr.sliceBound (a.eval o) y code).run P w = .ok n w := by
  cases x with
  | none => exact ⟨d, h, fun _ => rfl, by simp⟩
  | some o =>
    obtain ⟨v, e1, e2, h⟩ := evK_ok R h
    cases v with
    | int ki i =>
      simp only [need_iff, decide_eq_true_eq] at h
      refine ⟨_, h.2, by simp, ?_⟩
      intro o' code ho
      cases ho
      rw [e1]
      exact run_sliceBound w ki i y code h.1.1 h.1.2
    | _ => exact h.elim
theorem sliceBounds_ok (R : RepS G r s a w) {b : Bool} {lo hi mx : Option Operand} {len cap : Nat} {k : Nat → Nat → Nat → Prop}
    (h : boundK s mx cap cap fun m => boundK s hi len m fun h => boundK s lo 0 h fun l => need (isSome hi || !(isSome mx)) (k l h m)) :
    ∃ l h m, (Instr.sliceBounds b len cap (lo.map a.eval) (hi.map a.eval) (mx.map a.eval)).run P w = .ok (l, h, m) w ∧ k l h m := by
  obtain ⟨m, h, m1, m2⟩ := boundK_ok (P := P) R h
  obtain ⟨z, h, z1, z2⟩ := boundK_ok (P := P) R h
  obtain ⟨l, h, l1, l2⟩ := boundK_ok (P := P) R h
  simp only [need_iff] at h
  refine ⟨l, z, m, ?_, h.2⟩
  have hq := h.1
  clear h
  have M : ∀ o, mx = some o → ∀ c, (Instr.sliceBound (a.eval o) cap c).run P w = .ok m w := fun o e c => m2 o c e
  have Z : ∀ o, hi = some o → ∀ c, (Instr.sliceBound (a.eval o) m c).run P w = .ok z w := fun o e c => z2 o c e
  have L : ∀ o, lo = some o → ∀ c, (Instr.sliceBound (a.eval o) z c).run P w = .ok l w := fun o e c => l2 o c e
  clear m2 z2 l2
  cases mx with
  | none =>
    have := m1 rfl; subst this; clear M m1
    cases hi with
    | none =>
      have := z1 rfl; subst this; clear Z z1
      cases lo with
      | none => have := l1 rfl; subst this; simp [Instr.sliceBounds]
      | some o => simp [Instr.sliceBounds, L o rfl]
    | some oh =>
      have Zo := Z oh rfl
      cases lo with
      | none => have := l1 rfl; subst this; simp [Instr.sliceBounds, Zo]
      | some o => simp [Instr.sliceBounds, Zo, L o rfl]
  | some om =>
    have Mo := M om rfl
    cases hi with
    | none => simp [isSome] at hq
    | some oh =>
      have Zo := Z oh rfl
      cases lo with
      | none => have := l1 rfl; subst this; simp [Instr.sliceBounds, Mo, Zo]
      | some o => simp [Instr.sliceBounds, Mo, Zo, L o rfl]
theorem cA_sliceAddr (r : Ren) (p : Addr) (l m sz : Nat) : cA r (sliceAddr p l m sz) = if m = l then cA r p else (cA r p).add (l * sz) := by
  obtain ⟨b, o, sp⟩ := p
  unfold sliceAddr
  split
  · rfl
  · unfold Addr.add
    split
    · rename_i h; cases sp <;> simp [cA, h]
    · cases sp <;> simp [cA]
theorem sA_sliceAddr {n : Nat} {p : Addr} (h : sA n p) (l m sz : Nat) : sA n (sliceAddr p l m sz) := by
  unfold sliceAddr; split
  · exact h
  · exact h
theorem maxK_ok {op : Bool} : ∀ (l : List Value) (acc : Value) (k : Value → Prop), (∃ n i, acc = .int n i) → maxK op l acc k →
    ∃ v, (l.foldlM (if op then Builtin.max2 else Builtin.min2) acc).run P w = .ok v w ∧ (∀ x ∈ l, ∃ n i, x = .int n i) ∧ plainV v ∧ k v := by
  intro l
  induction l with
  | nil => intro acc k ha h; exact ⟨acc, rfl, by simp, .inl ha, h⟩
  | cons y l ih =>
    intro acc k ha h
    obtain ⟨n, i, rfl⟩ := ha
    cases y with
    | int ny j =>
      simp only [maxK_s] at h
      obtain ⟨v, h1, h2, h3⟩ := ih _ _ ⟨_, _, rfl⟩ h
      refine ⟨v, ?_, ?_, h3⟩
      · rw [List.foldlM_cons]
        cases op
        · simpa [Builtin.min2] using h1
        · simpa [Builtin.max2] using h1
      · intro x hx
        rcases List.mem_cons.1 hx with rfl | hx
        · exact ⟨_, _, rfl⟩
        · exact h2 x hx
    | _ => exact h.elim

theorem caps_ok {xs : Array Operand} {vs : List Value} {n : Nat} (h : (xs.map a.eval).toList = vs.map (c3 r)) (hs : ∀ v ∈ vs, s3 n v) (hc : ∀ v ∈ vs, isCap v = true) :
    xs.map a.eval = (vs.map (c0 r)).toArray ∧ ∀ v ∈ vs, s0 n v := by
  have key : ∀ v ∈ vs, c3 r v = c0 r v ∧ s0 n v := by
    intro v hv
    have h1 := hs v hv
    have h2 := hc v hv
    cases v <;> first | exact ⟨rfl, h1⟩ | (simp [isCap] at h2)
  refine ⟨?_, fun v hv => (key v hv).2⟩
  apply Array.ext'
  rw [h]
  exact List.map_congr_left fun v hv => (key v hv).1
theorem run_fields (fs : Array Field) (h : ∀ f ∈ fs.toList, (P.info? f.type).isSome = true) :
    (fs.mapM (m := Sem) fun f => do pure (f.offset, ← sizeOf f.type)).run P w = .ok (fs.map fun f => (f.offset, P.cellsOf f.type)) w := by
  obtain ⟨l⟩ := fs
  rw [List.mapM_toArray]
  have key : ∀ (l : List Field), (∀ f ∈ l, (P.info? f.type).isSome = true) → (l.mapM (m := Sem) fun f => do pure (f.offset, ← sizeOf f.type)).run P w = .ok (l.map fun f => (f.offset, P.cellsOf f.type)) w := by
    intro l
    induction l with
    | nil => intro _; rfl
    | cons f l ih =>
      intro h
      have hsz : (sizeOf f.type).run P w = .ok (P.cellsOf f.type) w := by
        have := h f (by simp)
        cases hx : P.info? f.type with
        | none => rw [hx] at this; cases this
        | some y => simp [sizeOf, typeInfo, hx, Program.cellsOf]
      simp only [List.mapM_cons, Sem.run_bind, hsz, Result.andThen_ok, Sem.run_pure, ih fun f hf => h f (List.mem_cons_of_mem _ hf), List.map_cons]
  simp only [Sem.run_map, key l h, Result.andThen_ok]
  simp

end ops
end Go.Proofs.YtjpjnjidchdlbaaDoor
