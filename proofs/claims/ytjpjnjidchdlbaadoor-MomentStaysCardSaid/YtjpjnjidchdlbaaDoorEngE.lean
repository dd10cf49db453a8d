/-
  What is computed of an operation that turns nothing is what the model hands back (for every program and table of types that fit).
-/
import Derived.Test.YtjpjnjidchdlbaaDoorEngD
import Derived.Lib.SliceRun
namespace Go.Proofs.YtjpjnjidchdlbaaDoor
set_option linter.unusedSimpArgs false
set_option linter.unusedVariables false
open Go Go.RowKit

section ops
variable {P : Program} {T : Tab} {G : List (Nat × Obj)} {r : Ren} {s : St} {a : Act} {w : World}

theorem eqCellsK_ok {kd : IntKind} : ∀ (xs ys : List Value) (k : Bool → Prop), eqCellsK xs ys kd k →
    ∃ l m : List Int, xs = l.map (Value.int kd) ∧ ys = m.map (Value.int kd) ∧ l.length = m.length ∧ k (l == m) := by
  intro xs
  induction xs with
  | nil =>
    intro ys k h
    cases ys with
    | nil => exact ⟨[], [], rfl, rfl, rfl, h⟩
    | cons y ys => exact h.elim
  | cons x xs ih =>
    intro ys k h
    cases ys with
    | nil => exact h.elim
    | cons y ys =>
      cases x with
      | int kx b =>
        cases y with
        | int ky c =>
          simp only [eqCellsK_s, need_iff, decide_eq_true_eq] at h
          obtain ⟨rfl, rfl, h⟩ := h
          obtain ⟨l, m, rfl, rfl, hl, hk⟩ := ih ys _ h
          exact ⟨b :: l, c :: m, rfl, rfl, by simp [hl], hk⟩
        | _ => exact h.elim
      | _ => exact h.elim
theorem c1_ints (r : Ren) (kd : IntKind) (l : List Int) : (l.map (Value.int kd)).map (c1 r) = l.map (Value.int kd) := by
  rw [List.map_map]; rfl
def plainV (v : Value) : Prop := (∃ k n, v = .int k n) ∨ ∃ b, v = .bool b
theorem plainV_c3 {v : Value} (h : plainV v) (r : Ren) (n : Nat) : c3 r v = v ∧ s3 n v := by
  rcases h with ⟨k, m, rfl⟩ | ⟨b, rfl⟩ <;> exact ⟨rfl, trivial⟩
theorem binIntK_ok {op : BinOp} {t : TypeId} {ox oy : Operand} {kx ky : IntKind} {x y : Int} {k : Value → Prop} (h : binIntK op kx x ky y k) :
    ∃ v, ((do eqGuard op t ox oy (.int kx x) (.int ky y); binOp op t (.int kx x) (.int ky y)) : Sem Value).run P w = .ok v w ∧ plainV v ∧ k v := by
  have hg : (eqGuard op t ox oy (.int kx x) (.int ky y)).run P w = .ok () w := by
    cases op <;> simp [eqGuard]
  simp only [Sem.run_bind, hg, Result.andThen_ok]
  cases op <;> simp only [binIntK, need_iff, decide_eq_true_eq, wrapS_eq] at h
  case shl => obtain ⟨h0, h⟩ := h; exact ⟨_, by simp only [binOp, Op.shift]; rw [if_neg (by omega)]; rfl, .inl ⟨_, _, rfl⟩, h⟩
  case shr => obtain ⟨h0, h⟩ := h; exact ⟨_, by simp only [binOp, Op.shift]; rw [if_neg (by omega)]; rfl, .inl ⟨_, _, rfl⟩, h⟩
  case quo =>
    obtain ⟨rfl, h0, h⟩ := h
    have h0' : ¬ y = 0 := by simpa using h0
    exact ⟨_, by simp only [binOp, Op.intDiv]; rw [if_neg (by simp), if_neg h0']; rfl, .inl ⟨_, _, rfl⟩, h⟩
  case rem =>
    obtain ⟨rfl, h0, h⟩ := h
    have h0' : ¬ y = 0 := by simpa using h0
    exact ⟨_, by simp only [binOp, Op.intDiv]; rw [if_neg (by simp), if_neg h0']; rfl, .inl ⟨_, _, rfl⟩, h⟩
  all_goals
    obtain ⟨rfl, h⟩ := h
    first
      | exact ⟨_, by simp only [binOp]; rw [if_neg (by simp)]; rfl, .inl ⟨_, _, rfl⟩, h⟩
      | exact ⟨_, by simp only [binOp]; rw [if_neg (by simp)]; rfl, .inr ⟨_, rfl⟩, h⟩
theorem binK_ok (hT : TabOk P T) {op : BinOp} {t : TypeId} {ox oy : Operand} {x y : Value} {k : Value → Prop} (h : binK T op t x y k) :
    ∃ v, ((do eqGuard op t ox oy (c3 r x) (c3 r y); binOp op t (c3 r x) (c3 r y)) : Sem Value).run P w = .ok v w ∧ plainV v ∧ k v := by
  cases x with
  | int kx x => cases y with
    | int ky y => exact binIntK_ok h
    | _ => exact h.elim
  | string x => cases y with
    | string y =>
      cases op <;> first
        | exact h.elim
        | exact ⟨_, by simp only [c3, c2, c1, c0, Sem.run_bind]; simp [eqGuard, binOp, Op.stringOp], .inr ⟨_, rfl⟩, h⟩
    | _ => exact h.elim
  | slice p n c => cases y with
    | slice q n' c' =>
      cases q with
      | some q => exact h.elim
      | none =>
        cases op <;> try exact h.elim
        obtain ⟨i, hi, h⟩ := tiK_ok hT h
        simp only [need_iff] at h
        have hu := hi.und
        obtain ⟨e, hd⟩ : ∃ e, i.desc = .slice e := by
          have := h.1
          cases hh : i.desc <;> rw [hh] at this <;> first | exact ⟨_, rfl⟩ | (simp [isSliceD] at this)
        rw [hd] at hu
        have hv : ∃ p', c3 r (.slice p n c) = .slice p' n c ∧ p'.isNone = nilA p := by cases p <;> exact ⟨_, rfl, rfl⟩
        obtain ⟨p', hp, hn⟩ := hv
        have hq : c3 r (.slice none n' c') = .slice none n' c' := rfl
        refine ⟨_, ?_, .inr ⟨_, rfl⟩, h.2⟩
        rw [hp, hq, ← hn]
        have hg : (eqGuard .eql t ox oy (.slice p' n c) (.slice none n' c')).run P w = .ok () w := by simp [eqGuard]
        simp only [Sem.run_bind, hg, Result.andThen_ok]
        exact Go.Lib.run_eql_slice_nil w t e p' n c n' c' hu
    | _ => exact h.elim
  | bool x => cases y with
    | bool y =>
      cases op with
      | eql =>
        obtain ⟨i, hi, h⟩ := tiK_ok hT h
        simp only [need_iff] at h
        have hu := hi.und
        have hd : i.desc = .bool := by
          have := h.1
          cases hh : i.desc <;> rw [hh] at this <;> first | rfl | (simp [isBoolD] at this)
        rw [hd] at hu
        refine ⟨_, ?_, .inr ⟨_, rfl⟩, h.2⟩
        have hg : (eqGuard .eql t ox oy (.bool x) (.bool y)).run P w = .ok () w := by simp [eqGuard]
        simp only [c3, c2, c1, c0, Sem.run_bind, hg, Result.andThen_ok]
        exact run_eql_bool w t x y hu
      | neq =>
        obtain ⟨i, hi, h⟩ := tiK_ok hT h
        simp only [need_iff] at h
        have hu := hi.und
        have hd : i.desc = .bool := by
          have := h.1
          cases hh : i.desc <;> rw [hh] at this <;> first | rfl | (simp [isBoolD] at this)
        rw [hd] at hu
        refine ⟨_, ?_, .inr ⟨_, rfl⟩, h.2⟩
        have hg : (eqGuard .neq t ox oy (.bool x) (.bool y)).run P w = .ok () w := by simp [eqGuard]
        simp only [c3, c2, c1, c0, Sem.run_bind, hg, Result.andThen_ok]
        exact run_neq_bool w t x y hu
      | _ => exact h.elim
    | _ => exact h.elim
  | agg xs => cases y with
    | agg ys =>
      have key : ∀ (i : TI), TiOk P t i → ∀ kd, i.eqk = some kd → xs.size = i.size → ∀ k' : Bool → Prop, eqCellsK xs.toList ys.toList kd k' →
          ∃ b, (eqGuard op t ox oy (c3 r (.agg xs)) (c3 r (.agg ys))).run P w = .ok () w ∧ (Op.equal t (c3 r (.agg xs)) (c3 r (.agg ys))).run P w = .ok b w ∧ k' b := by
        intro i hi kd hk hs k' he
        obtain ⟨l, m, hx, hy, hl, hk'⟩ := eqCellsK_ok _ _ _ he
        have hE := hi.eqk kd hk
        have e1 : xs.map (c1 r) = (l.map (Value.int kd)).toArray := by
          rw [← toArr_map, hx, c1_ints]
        have e2 : ys.map (c1 r) = (m.map (Value.int kd)).toArray := by
          rw [← toArr_map, hy, c1_ints]
        have hlen : l.length = i.size := by
          have : xs.toList.length = (l.map (Value.int kd)).length := by rw [hx]
          simp at this; omega
        refine ⟨l == m, run_eqGuard_agg w op t ox oy _ _ hE.guard, ?_, hk'⟩
        simp only [c3_agg]
        rw [e1, e2]
        exact hE.eql l m hlen (by omega) w
      cases op with
      | eql =>
        obtain ⟨i, hi, h⟩ := tiK_ok hT h
        cases hk : i.eqk with
        | none => rw [hk] at h; exact h.elim
        | some kd =>
          rw [hk] at h
          simp only [need_iff, beq_iff_eq] at h
          obtain ⟨b, h1, h2, h3⟩ := key i hi kd hk h.1 _ h.2
          refine ⟨_, ?_, .inr ⟨_, rfl⟩, h3⟩
          simp only [Sem.run_bind, h1, Result.andThen_ok]
          simp only [c3_agg] at h2 ⊢
          rw [binOp]
          · simp [h2]
          all_goals simp
      | neq =>
        obtain ⟨i, hi, h⟩ := tiK_ok hT h
        cases hk : i.eqk with
        | none => rw [hk] at h; exact h.elim
        | some kd =>
          rw [hk] at h
          simp only [need_iff, beq_iff_eq] at h
          obtain ⟨b, h1, h2, h3⟩ := key i hi kd hk h.1 _ h.2
          refine ⟨_, ?_, .inr ⟨_, rfl⟩, h3⟩
          simp only [Sem.run_bind, h1, Result.andThen_ok]
          simp only [c3_agg] at h2 ⊢
          rw [binOp]
          · simp [h2]
          all_goals simp
      | _ => exact h.elim
    | _ => exact h.elim
  | _ => exact h.elim
theorem unK_ok {op : UnOp} {x : Value} {k : Value → Prop} (h : unK op x k) : ∃ v, (Op.unary op (c3 r x)).run P w = .ok v w ∧ plainV v ∧ k v := by
  cases x with
  | int kx n =>
    simp only [unK, wrapS_eq] at h
    cases op <;> first | exact h.elim | exact ⟨_, rfl, .inl ⟨_, _, rfl⟩, h⟩
  | bool b => cases op <;> first | exact h.elim | exact ⟨_, rfl, .inr ⟨_, rfl⟩, h⟩
  | _ => exact h.elim

end ops
end Go.Proofs.YtjpjnjidchdlbaaDoor
