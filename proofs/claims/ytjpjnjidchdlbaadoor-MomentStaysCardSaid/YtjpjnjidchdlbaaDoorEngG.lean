/-
  What is computed of an operation that turns nothing is what the model hands back: all kinds of operations together (for every program and table of types that fit).
-/
import Derived.Test.YtjpjnjidchdlbaaDoorEngF
import Derived.Laws.IdiomStrings
import Derived.Laws.BytesArg
namespace Go.Proofs.YtjpjnjidchdlbaaDoor
set_option linter.unusedSimpArgs false
set_option linter.unusedVariables false
open Go Go.RowKit

section ops
variable {P : Program} {T : Tab} {G : List (Nat × Obj)} {r : Ren} {s : St} {a : Act} {w : World}

theorem add_cA (r : Ren) (p : Addr) (n : Nat) : (cA r p).add n = cA r ⟨p.block, p.off + n, p.spot⟩ := by
  obtain ⟨b, o, sp⟩ := p
  unfold Addr.add
  split
  · rename_i h; cases sp <;> simp [cA, h]
  · cases sp <;> simp [cA]
theorem sub_toNat {n : Int} (h : 0 ≤ n) : ((n.toNat : Nat) : Int) = n := Int.toNat_of_nonneg h
theorem loadK_ok (R : RepH G r s.h w) {p : Addr} {t : TypeId} {i : TI} (ht : TiOk P t i) {k : Value → Prop} (h : loadK G s p i.agg i.size k) :
    ∃ v, (loadVar t (cA r p)).run P w = .ok (c3 r v) w ∧ s3 s.h.length v ∧ k v := by
  have old : (cellsK G s p fun c => partK c p.off i.agg i.size k) → ∃ v, (loadVar t (cA r p)).run P w = .ok (c3 r v) w ∧ s3 s.h.length v ∧ k v := by
    intro h
    obtain ⟨c, c1', c2', h, c3'⟩ := cellsK_ok R h
    obtain ⟨v, q1, q2, q3, q4⟩ := partK_ok c2' h
    refine ⟨v, ?_, q1, q2⟩
    rw [c3']
    exact run_loadVar_cells (r := r) (s := s) ht c1' q3 q4
  obtain ⟨b, o, sp⟩ := p
  cases sp with
  | none => exact old h
  | some q =>
    obtain ⟨ob, h1, h2⟩ := (nthK_iff _ _ _).1 h
    cases ob with
    | cells c e f => exact old ((nthK_iff _ _ _).2 ⟨_, h1, h2⟩)
    | pending c e =>
      have H : partK c.toList o i.agg i.size (fun v => need (closed2 v) (k v)) := h2
      obtain ⟨g, hw⟩ : ∃ g, w.heap[r b]? = some (.cells c e g) := R.ok _ _ h1
      have hc : CellsAt w (r b) c.toList := ⟨e, g, by simpa using hw⟩
      have key : ∃ v, closed2 v = true ∧ k v ∧ (i.agg = true → o + i.size ≤ c.toList.length ∧ v = .agg ((c.toList.drop o).take i.size).toArray) ∧ (i.agg = false → c.toList[o]? = some v) := by
        cases ha : i.agg with
        | true =>
          rw [ha] at H
          simp only [partK, dropK_iff, takeK_iff, need_iff] at H
          obtain ⟨q1, q2, q3, q4⟩ := H
          exact ⟨_, q3, q4, fun _ => ⟨by simp only [List.length_drop] at q2; omega, rfl⟩, fun h => by cases h⟩
        | false =>
          rw [ha] at H
          simp only [partK, nthK_iff, need_iff] at H
          obtain ⟨v, q1, q2, q3⟩ := H
          exact ⟨v, q2, q3, fun h => (by cases h), fun _ => q1⟩
      obtain ⟨v, q1, q2, q3, q4⟩ := key
      have hs2 := closed2_sc q1 s.h.length
      refine ⟨v, ?_, ?_, q2⟩
      · rw [c3_of_s2 hs2, closed2_c2 q1]
        exact run_loadVar_l ht hc q3 q4
      · exact s3_of_s2 hs2
    | _ => exact h2.elim
theorem pureK_ok (hT : TabOk P T) (R : RepS G r s a w) (o : Oper) {k : Value → Prop} (h : pureK T G s o.op k) :
    ∃ v, (execOp a.eval o).run P w = .ok (.value (c3 r v)) w ∧ s3 s.h.length v ∧ k v := by
  obtain ⟨dst, op, type, pos, after, guard⟩ := o
  cases op with
  | move x =>
    obtain ⟨v, e1, e2, h⟩ := evK_ok R h
    exact ⟨v, by simp [execOp, e1], e2, h⟩
  | assign x =>
    obtain ⟨v, e1, e2, h⟩ := evK_ok R h
    exact ⟨v, by simp [execOp, e1], e2, h⟩
  | pick c x y =>
    obtain ⟨v, e1, e2, h⟩ := evK_ok R h
    cases v with
    | bool b =>
      simp only [bcase_iff] at h
      cases b with
      | true =>
        obtain ⟨u, f1, f2, h⟩ := evK_ok R h
        exact ⟨u, by simp [execOp, e1, f1, c3, c2, c1, c0, asBool], f2, h⟩
      | false =>
        obtain ⟨u, f1, f2, h⟩ := evK_ok R h
        exact ⟨u, by simp [execOp, e1, f1, c3, c2, c1, c0, asBool], f2, h⟩
    | _ => exact h.elim
  | binOp op t x y yt =>
    obtain ⟨u, e1, e2, h⟩ := evK_ok R h
    obtain ⟨v, f1, f2, h⟩ := evK_ok R h
    obtain ⟨z, g1, g2, h⟩ := binK_ok (P := P) (r := r) (w := w) (ox := x) (oy := y) hT h
    obtain ⟨q1, q2⟩ := plainV_c3 g2 r s.h.length
    refine ⟨z, ?_, q2, h⟩
    simp only [execOp, e1, f1, q1]
    rw [Sem.run_bind, g1]; rfl
  | unOp op t x =>
    obtain ⟨u, e1, e2, h⟩ := evK_ok R h
    obtain ⟨z, g1, g2, h⟩ := unK_ok (P := P) (r := r) (w := w) h
    obtain ⟨q1, q2⟩ := plainV_c3 g2 r s.h.length
    refine ⟨z, ?_, q2, h⟩
    simp only [execOp, e1, q1]
    rw [Sem.run_bind, g1]; rfl
  | convert src dst x =>
    obtain ⟨u, e1, e2, h⟩ := evK_ok R h
    cases u with
    | int ki n =>
      obtain ⟨i, hi, h⟩ := tiK_ok hT h
      cases hd : i.desc <;> rw [hd] at h <;> try exact h.elim
      rename_i k1
      obtain ⟨j, hj, h⟩ := tiK_ok hT h
      cases hd2 : j.desc <;> rw [hd2] at h <;> try exact h.elim
      rename_i k2
      simp only [kindK, wrapS_eq] at h
      refine ⟨_, ?_, by exact trivial, h⟩
      simp only [execOp, e1, c3, c2, c1, c0, Sem.run_bind]
      rw [convert]
      simp only [Sem.run_bind, hi.run_und, hj.run_und, Result.andThen_ok, hd, hd2]
      rfl
    | slice p n c =>
      obtain ⟨i, hi, h⟩ := tiK_ok hT h
      cases hd : i.desc <;> rw [hd] at h <;> try exact h.elim
      rename_i e
      obtain ⟨j, hj, h⟩ := tiK_ok hT h
      cases hd2 : j.desc <;> rw [hd2] at h <;> try exact h.elim
      rename_i kb
      cases kb <;> try exact h.elim
      obtain ⟨m, hm, h⟩ := tiK_ok hT h
      cases hd3 : m.desc <;> rw [hd3] at h <;> try exact h.elim
      have u1 : P.underlying src = some (.slice e) := by rw [← hd]; exact hi.und
      have u2 : P.underlying e = some (.int .u8) := by rw [← hd2]; exact hj.und
      have u3 : P.underlying dst = some .string := by rw [← hd3]; exact hm.und
      cases p with
      | none =>
        have H : k (.string ByteArray.empty) := h
        refine ⟨_, ?_, by exact trivial, H⟩
        have hr := run_convert_bytes_nil (P := P) w src e u1 u2 n c dst u3
        simp only [execOp, e1, c3, c2, c1, c0, Sem.run_bind]
        rw [hr]
        rfl
      | some p =>
        obtain ⟨b, o, sp⟩ := p
        cases sp with
        | none => exact h.elim
        | some q =>
          obtain ⟨ob, hb, l, hl, ha, H⟩ := (nthK_iff _ _ _).1 h
          refine ⟨_, ?_, by exact trivial, H⟩
          have hr := run_convert_bytes_back (P := P) w src dst e ⟨r b, o, none⟩ c l u1 u2 u3 (fun j hj => by
            have hadd : (⟨r b, o, none⟩ : Addr).add j = ⟨r b, o + j, none⟩ := Addr.add_lit _ _ _
            rw [hadd]
            exact hasAt_ok R.heap hb ha (fun x hx => by obtain ⟨y, _, rfl⟩ := List.mem_map.1 hx; rfl) (by simp [List.getElem?_eq_getElem hj]))
          rw [hl] at hr
          simp only [execOp, e1, c3, c2, c1, c0, cA, Sem.run_bind]
          rw [hr]
          rfl
    | _ => exact h.elim
  | extract x i =>
    obtain ⟨u, e1, e2, h⟩ := evK_ok R h
    cases u with
    | tuple vs =>
      simp only [nthK_iff] at h
      obtain ⟨v, h1, h⟩ := h
      have h2 : vs[i]? = some v := by simpa using h1
      have h3 : s2 s.h.length v := e2 v (List.mem_of_getElem? h1)
      refine ⟨v, ?_, s3_of_s2 h3, h⟩
      simp only [execOp, e1, c3, Instr.extract, Sem.run_bind, Array.getElem?_map, h2]
      simp only [Option.map_some, Sem.run_pure, Result.andThen_ok]
      rw [← c3_of_s2 h3]; rfl
    | _ => exact h.elim
  | fieldAddr t x f =>
    obtain ⟨u, e1, e2, h⟩ := evK_ok R h
    cases u with
    | pointer p => cases p with
      | some p =>
        obtain ⟨i, hi, h⟩ := tiK_ok hT h
        simp only [nthK_iff] at h
        obtain ⟨⟨off, size⟩, h1, h⟩ := h
        simp only [need_iff, litK_iff] at h
        obtain ⟨hz, h⟩ := h
        refine ⟨_, ?_, ?_, h⟩
        · cases hd : i.desc with
          | struct fs =>
            obtain ⟨hf, hfi⟩ := hi.fld fs hd
            rw [hf, List.getElem?_map] at h1
            cases hq : fs.toList[f]? with
            | none => rw [hq] at h1; cases h1
            | some fl =>
              rw [hq] at h1
              simp only [Option.map_some, Option.some.injEq, Prod.mk.injEq] at h1
              obtain ⟨rfl, rfl⟩ := h1
              have hq' : fs[f]? = some fl := by simpa using hq
              have hsz : (sizeOf fl.type).run P w = .ok (P.cellsOf fl.type) w := by
                have := hfi fl (List.mem_of_getElem? hq)
                cases hx : P.info? fl.type with
                | none => rw [hx] at this; cases this
                | some y => simp [sizeOf, typeInfo, hx, Program.cellsOf]
              have hne : ¬ P.cellsOf fl.type = 0 := by
                intro e; rw [e] at hz; cases hz
              simp only [execOp, e1, c3, c2, c1, c0, Sem.run_bind, Instr.fieldAt, hi.run_und, hd, Result.andThen_ok, hq', Instr.sureAddr, fieldPlace, hsz, Sem.run_pure, Sem.run_ite]
              rw [if_neg hne]
              simp only [Result.andThen_ok, add_cA]
          | _ =>
            simp only [execOp]
            exfalso
            have := hi.fldn
            simp [hd] at this
            rw [this] at h1; cases h1
        · exact fun q hq => e2 q hq
      | none => exact h.elim
    | _ => exact h.elim
  | indexAddr t x ix =>
    obtain ⟨u, e1, e2, h⟩ := evK_ok R h
    obtain ⟨v, f1, f2, h⟩ := evK_ok R h
    cases v with
    | int ki n =>
      obtain ⟨i, hi, h⟩ := tiK_ok hT h
      cases u with
      | pointer p => cases p with
        | some p =>
          cases hd : i.desc <;> rw [hd] at h <;> try exact h.elim
          rename_i len e
          simp only [need_iff, decide_eq_true_eq, litK_iff] at h
          obtain ⟨hb, h⟩ := h
          refine ⟨_, ?_, ?_, h⟩
          · simp only [execOp, e1, f1, c3, c2, c1, c0, Sem.run_bind, Instr.indexAt, hi.run_und, hd, Result.andThen_ok, asIntOf, Instr.sureAddr, Sem.run_pure, Sem.run_ite, hi.run_esz (.inr ⟨_, hd⟩)]
            rw [if_pos hb]
            simp only [Result.andThen_ok, add_cA]
          · exact fun q hq => e2 q hq
        | none => exact h.elim
      | slice p len cap => cases p with
        | some p =>
          cases hd : i.desc <;> rw [hd] at h <;> try exact h.elim
          rename_i e
          simp only [need_iff, decide_eq_true_eq, litK_iff] at h
          obtain ⟨hb, h⟩ := h
          refine ⟨_, ?_, ?_, h⟩
          · simp only [execOp, e1, f1, c3, c2, c1, c0, Sem.run_bind, Instr.indexAt, hi.run_und, hd, Result.andThen_ok, asIntOf, Instr.sureAddr, Sem.run_pure, Sem.run_ite, hi.run_esz (.inl hd)]
            rw [if_pos hb]
            simp only [Result.andThen_ok, add_cA]
          · exact fun q hq => e2 q hq
        | none => exact h.elim
      | _ => exact h.elim
    | _ => exact h.elim
  | index t x ix =>
    obtain ⟨u, e1, e2, h⟩ := evK_ok R h
    obtain ⟨v, f1, f2, h⟩ := evK_ok R h
    cases v with
    | int ki n =>
      obtain ⟨i, hi, h⟩ := tiK_ok hT h
      cases u with
      | agg cs =>
        cases hd : i.desc <;> rw [hd] at h <;> try exact h.elim
        rename_i len e
        simp only [need_iff, decide_eq_true_eq] at h
        obtain ⟨hb, h⟩ := h
        obtain ⟨j, hj, h⟩ := tiK_ok hT h
        obtain ⟨v, q1, q2, q3, q4⟩ := partK_ok (s := s) e2 h
        refine ⟨v, ?_, q1, q2⟩
        have hes : j.size = i.esz := by
          obtain ⟨y1, y2, y3⟩ := hi.esz e (.inr ⟨_, hd⟩)
          obtain ⟨z1, z2, z3, _⟩ := hj.inf
          rw [y2] at z2; cases z2; omega
        simp only [execOp, e1, f1, c3_agg, Sem.run_bind, Instr.index, hi.run_und, hd, Result.andThen_ok, asIntOf, Sem.run_pure, Sem.run_ite, hi.run_esz (.inr ⟨_, hd⟩), part, hj.run_agg, show c3 r (.int ki n) = .int ki n from rfl]
        rw [if_pos hb]
        cases hg : j.agg with
        | true =>
          obtain ⟨g1, rfl⟩ := q3 hg
          simp only [if_true, Result.andThen_ok, c3_agg]
          congr 3
          apply Array.ext'
          simp [List.map_take, List.map_drop, hes]
        | false =>
          obtain ⟨g1, g2⟩ := q4 hg
          have : (cs.map (c1 r))[n.toNat * i.esz]? = some (c1 r v) := by
            rw [Array.getElem?_map]
            have : cs[n.toNat * i.esz]? = some v := by simpa using g1
            rw [this]; rfl
          simp only [Bool.false_eq_true, if_false, this, Sem.run_pure, Result.andThen_ok, c3_s1 g2]
      | _ => exact h.elim
    | _ => exact h.elim
  | load t x =>
    obtain ⟨u, e1, e2, h⟩ := evK_ok R h
    cases u with
    | pointer p => cases p with
      | some p =>
        obtain ⟨i, hi, h⟩ := tiK_ok hT h
        obtain ⟨v, this, q1, q2⟩ := loadK_ok R.heap hi h
        refine ⟨v, ?_, q1, q2⟩
        simp only [execOp, e1, c3, c2, c1, c0, Sem.run_bind, Instr.loadAt, Instr.sureAddr, Sem.run_pure, Result.andThen_ok]
        rw [this]; rfl
      | none => exact h.elim
    | _ => exact h.elim
  | build t parts =>
    obtain ⟨ps, e1, e2, h⟩ := partsK_ok R _ _ h
    obtain ⟨i, hi, h⟩ := tiK_ok hT h
    have hz : (zeroValue t).run P w = .ok i.zero w := hi.run_zero
    have hzc : i.zero.cells = (i.zero.cells.toList.map (c1 r)).toArray ∧ ∀ x ∈ i.zero.cells.toList, s1 s.h.length x := by
      have h0 := zero_cells hi.zsc r
      exact ⟨h0.1, fun x hx => s1_mono (Nat.zero_le _) (h0.2 x hx)⟩
    have hps : (parts.map fun (j, x) => (j, a.eval x)).toList = ps.map fun p => (p.1, c3 r p.2) := by
      rw [← e1]; simp
    cases hd : i.desc <;> rw [hd] at h <;> try exact h.elim
    · rename_i len e
      obtain ⟨c, f1, f2, f3, f4⟩ := fillK_ok (r := r) (place := fun j => some (j * i.esz, i.esz)) (fun j q hq => by
        simp only [need_iff] at hq; exact ⟨_, rfl, hq.2⟩) ps _ _ hzc.2 e2 h
      refine ⟨.agg ⟨c⟩, ?_, f2, f4⟩
      rw [← hzc.1] at f1
      simp only [execOp, Sem.run_bind, Instr.build, hz, hi.run_und, hd, Result.andThen_ok, hi.run_esz (.inr ⟨_, hd⟩), hps, f1, Sem.run_pure, c3_agg]
      congr 3
      simp
    · rename_i fs
      obtain ⟨hf, hfi⟩ := hi.fld fs hd
      have hpl : (fs.mapM (m := Sem) fun f => do pure (f.offset, ← sizeOf f.type)).run P w = .ok (fs.map fun f => (f.offset, P.cellsOf f.type)) w := run_fields fs hfi
      obtain ⟨c, f1, f2, f3, f4⟩ := fillK_ok (r := r) (place := ((fs.map fun f => (f.offset, P.cellsOf f.type))[·]?)) (fun j q hq => by
        rw [nthK_iff] at hq
        obtain ⟨p, hp, hq⟩ := hq
        refine ⟨p, ?_, hq⟩
        rw [hf] at hp
        simpa using hp) ps _ _ hzc.2 e2 h
      refine ⟨.agg ⟨c⟩, ?_, f2, f4⟩
      rw [← hzc.1] at f1
      simp only [execOp, Sem.run_bind, Instr.build, hz, hi.run_und, hd, Result.andThen_ok, hpl, hps, f1, Sem.run_pure, c3_agg]
      congr 3
      simp
  | makeFunc fn first caps =>
    obtain ⟨fs, e1, e2, h⟩ := evsK_ok R _ _ h
    obtain ⟨cs, f1, f2, h⟩ := evsK_ok R _ _ h
    simp only [need_iff] at h
    obtain ⟨hs, h⟩ := h
    have g1 : first.map a.eval = (fs.map (c0 r)).toArray ∧ ∀ x ∈ fs, s0 s.h.length x := caps_ok (by rw [← e1]; simp) e2 (fun x hx => (List.all_eq_true.1 hs) x (List.mem_append_left _ hx))
    have g2 : caps.map a.eval = (cs.map (c0 r)).toArray ∧ ∀ x ∈ cs, s0 s.h.length x := caps_ok (by rw [← f1]; simp) f2 (fun x hx => (List.all_eq_true.1 hs) x (List.mem_append_right _ hx))
    refine ⟨_, ?_, by exact ⟨g1.2, g2.2⟩, h⟩
    simp only [execOp, Sem.run_bind, Instr.makeFunc, Sem.run_pure, Result.andThen_ok, g1.1, g2.1]
    simp [c3, c2, c1]
  | slice t x lo hi mx =>
    obtain ⟨u, e1, e2, h⟩ := evK_ok R h
    obtain ⟨i, hi', h⟩ := tiK_ok hT h
    cases u with
    | slice p len cap => cases p with
      | some p =>
        cases hd : i.desc <;> rw [hd] at h <;> try exact h.elim
        rename_i e
        obtain ⟨l, z, m, h1, h⟩ := sliceBounds_ok (P := P) (b := true) R (k := fun l h m => k (.slice (some (sliceAddr p l m i.esz)) (h - l) (m - l))) h
        refine ⟨_, ?_, by exact sA_sliceAddr e2 l m i.esz, h⟩
        simp only [execOp, e1, c3, c2, c1, c0, Sem.run_bind, Instr.sliceAt, Instr.slice, hi'.run_und, hd, Result.andThen_ok, h1, hi'.run_esz (.inl hd), Sem.run_pure, cA_sliceAddr]
        split <;> rfl
      | none =>
        cases hd : i.desc <;> rw [hd] at h <;> try exact h.elim
        rename_i e
        obtain ⟨l, z, m, h1, h⟩ := sliceBounds_ok (P := P) (b := true) R (k := fun l h m => k (.slice none (h - l) (m - l))) h
        refine ⟨_, ?_, by trivial, h⟩
        simp only [execOp, e1, c3, c2, c1, c0, Sem.run_bind, Instr.sliceAt, Instr.slice, hi'.run_und, hd, Result.andThen_ok, h1, hi'.run_esz (.inl hd), Sem.run_pure]
        split <;> rfl
    | pointer p => cases p with
      | some p =>
        cases hd : i.desc <;> rw [hd] at h <;> try exact h.elim
        rename_i n e
        obtain ⟨l, z, m, h1, h⟩ := sliceBounds_ok (P := P) (b := false) R (k := fun l h m => k (.slice (some (sliceAddr p l m i.esz)) (h - l) (m - l))) h
        refine ⟨_, ?_, by exact sA_sliceAddr e2 l m i.esz, h⟩
        simp only [execOp, e1, c3, c2, c1, c0, Sem.run_bind, Instr.sliceAt, hi'.run_und, hd, Result.andThen_ok, h1, hi'.run_esz (.inr ⟨_, hd⟩), Sem.run_pure, cA_sliceAddr, Instr.sureAddr]
      | none => exact h.elim
    | _ => exact h.elim
  | sliceToArrayPointer t x =>
    obtain ⟨u, e1, e2, h⟩ := evK_ok R h
    cases u with
    | slice p len cap => cases p with
      | some p =>
        obtain ⟨i, hi, h⟩ := tiK_ok hT h
        cases hd : i.desc <;> rw [hd] at h <;> try exact h.elim
        rename_i n e
        simp only [need_iff, decide_eq_true_eq] at h
        refine ⟨_, ?_, ?_, h.2⟩
        · simp only [execOp, e1, c3, c2, c1, c0, Sem.run_bind, Instr.arrayAt, hi.run_und, hd, Result.andThen_ok, Sem.run_ite]
          rw [if_neg (by omega)]; rfl
        · exact fun q hq => e2 q hq
      | none => exact h.elim
    | _ => exact h.elim
  | call c =>
    obtain ⟨callee, args, ts⟩ := c
    cases callee with
    | builtin b =>
      cases b with
      | len =>
        obtain ⟨vs, e1, e2, h⟩ := evsK_ok R _ _ h
        cases vs with
        | nil => exact h.elim
        | cons v vs =>
          have ha : (args.map a.eval)[0]? = some (c3 r v) := by
            have : (args.map a.eval).toList[0]? = some (c3 r v) := by simp only [Array.toList_map]; rw [e1]; rfl
            simpa using this
          simp only at h
          cases hts : ts.toList with
          | nil => rw [hts] at h; exact h.elim
          | cons t tl =>
            rw [hts] at h
            have ht0 : ts[0]? = some t := by
              have : ts.toList[0]? = some t := by rw [hts]; rfl
              simpa using this
            obtain ⟨i, hi, h⟩ := tiK_ok hT h
            cases v with
            | slice p n cap =>
              cases hd : i.desc <;> rw [hd] at h <;> try exact h.elim
              refine ⟨_, ?_, by exact trivial, h⟩
              have hv : ∃ q, c3 r (.slice p n cap) = .slice q n cap := by cases p <;> exact ⟨_, rfl⟩
              obtain ⟨q, hq⟩ := hv
              rw [hq] at ha
              simp only [execOp, resolve, Sem.run_bind, Sem.run_pure, Result.andThen_ok, invoke, builtin, Builtin.len_, ht0, ha, hi.run_und, hd]
              rfl
            | string z =>
              cases hd : i.desc <;> rw [hd] at h <;> try exact h.elim
              refine ⟨_, ?_, by exact trivial, h⟩
              rw [show c3 r (.string z) = .string z from rfl] at ha
              simp only [execOp, resolve, Sem.run_bind, Sem.run_pure, Result.andThen_ok, invoke, builtin, Builtin.len_, ht0, ha, hi.run_und, hd]
              rfl
            | _ => exact h.elim
      | max =>
        obtain ⟨vs, e1, e2, h⟩ := evsK_ok R _ _ h
        cases vs with
        | nil => exact h.elim
        | cons v vs =>
          have hvi : (∃ n i, v = .int n i) := by simp only [need_iff] at h; cases v <;> first | exact ⟨_, _, rfl⟩ | (simp [isInt] at h)
          simp only [need_iff] at h
          obtain ⟨z, h1, h2, h3, h4⟩ := maxK_ok (P := P) (w := w) vs v k hvi h.2
          obtain ⟨q1, q2⟩ := plainV_c3 h3 r s.h.length
          refine ⟨z, ?_, q2, h4⟩
          obtain ⟨n, i, rfl⟩ := hvi
          have hl : (args.map a.eval).toList = .int n i :: vs := by
            simp only [Array.toList_map]; rw [e1]
            simp only [List.map_cons]
            congr 1
            rw [List.map_congr_left (g := id)]
            · simp
            · intro x hx; obtain ⟨n, i, rfl⟩ := h2 x hx; rfl
          simp only [execOp, resolve, Sem.run_bind, Sem.run_pure, Result.andThen_ok, invoke, builtin, Builtin.max_, hl, q1]
          simp only [if_true] at h1
          rw [h1]; rfl
      | min =>
        obtain ⟨vs, e1, e2, h⟩ := evsK_ok R _ _ h
        cases vs with
        | nil => exact h.elim
        | cons v vs =>
          have hvi : (∃ n i, v = .int n i) := by simp only [need_iff] at h; cases v <;> first | exact ⟨_, _, rfl⟩ | (simp [isInt] at h)
          simp only [need_iff] at h
          obtain ⟨z, h1, h2, h3, h4⟩ := maxK_ok (P := P) (w := w) vs v k hvi h.2
          obtain ⟨q1, q2⟩ := plainV_c3 h3 r s.h.length
          refine ⟨z, ?_, q2, h4⟩
          obtain ⟨n, i, rfl⟩ := hvi
          have hl : (args.map a.eval).toList = .int n i :: vs := by
            simp only [Array.toList_map]; rw [e1]
            simp only [List.map_cons]
            congr 1
            rw [List.map_congr_left (g := id)]
            · simp
            · intro x hx; obtain ⟨n, i, rfl⟩ := h2 x hx; rfl
          simp only [execOp, resolve, Sem.run_bind, Sem.run_pure, Result.andThen_ok, invoke, builtin, Builtin.min_, hl, q1]
          simp only [Bool.false_eq_true, if_false] at h1
          rw [h1]; rfl
      | _ => exact h.elim
    | _ => exact h.elim
  | _ => exact h.elim

end ops
end Go.Proofs.YtjpjnjidchdlbaaDoor
