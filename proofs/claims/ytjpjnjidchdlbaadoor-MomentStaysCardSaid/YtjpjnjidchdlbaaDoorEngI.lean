/-
  Code that is run on abstract states does in every world what was computed (for every program and table of types that fit; loops, calls, ranges over functions and regions that draw their order are left as they are owed).
-/
import Derived.Test.YtjpjnjidchdlbaaDoorEngH
namespace Go.Proofs.YtjpjnjidchdlbaaDoor
set_option linter.unusedSimpArgs false
set_option linter.unusedVariables false
open Go Go.RowKit

theorem fen_fn (ro : Option Nat) (f : FuncId) : (fen ro).fn f := by cases ro <;> trivial
theorem fen_depth (ro : Option Nat) : (fen ro).depth = none := by cases ro <;> rfl
theorem fen_round (ro : Option Nat) : (fen ro).round = ro := by cases ro <;> rfl

section
variable {P : Program} {T : Tab} {G : List (Nat × Obj)} {ro : Option Nat} {r : Ren} {s : St} {a : Act} {w : World}
theorem wp_of_value {o : Oper} {v : Value} {w' : World} {N : Act → World → Prop} {Q : Exit → Act → World → Prop} (hd : ∀ c, o.op ≠ .defer c)
    (he : (execOp a.eval o).run P w = .ok (.value v) w') (hN : N (a.put o.dst v) w') : o.wpIn (fen ro) 0 P a w N Q :=
  ⟨fun f _ => fen_fn ro f, by rw [Oper.semAt_eq _ _ _ hd, he]; exact hN⟩
theorem wp_of_skip {o : Oper} {w' : World} {N : Act → World → Prop} {Q : Exit → Act → World → Prop} (hd : ∀ c, o.op ≠ .defer c)
    (he : (execOp a.eval o).run P w = .ok .skip w') (hN : N (a.put o.dst undef) w') : o.wpIn (fen ro) 0 P a w N Q :=
  ⟨fun f _ => fen_fn ro f, by rw [Oper.semAt_eq _ _ _ hd, he]; exact hN⟩
theorem wp_of_enter {o : Oper} {f : FuncId} {args : Array Value} {R : Ending → World → Prop} {N : Act → World → Prop} {Q : Exit → Act → World → Prop} (hd : ∀ c, o.op ≠ .defer c)
    (he : (execOp a.eval o).run P w = .ok (.enter f args) w) (hc : Calls P f args w R) (hN : ∀ e w', R e w' → ∃ v, e = .returned v ∧ N (a.put o.dst v) w') :
    o.wpIn (fen ro) 0 P a w N Q := by
  refine ⟨fun f _ => fen_fn ro f, ?_⟩
  rw [Oper.semAt_eq _ _ _ hd, he, Oper.uponIn_enter]
  refine ⟨fun h => (by rw [fen_depth] at h; cases h), ?_⟩
  have key : CallsIn Fence.wide 0 P f args w (fun
      | .returned v, w'' => N (a.put o.dst v) w''
      | .panicked chain, w'' => Q (.panic chain) a w''
      | .outgrown, _ => LetsOut Q) := by
    refine callsIn_wide.2 (fun cs => ?_)
    obtain ⟨e, w', fr, hR, rest⟩ := hc cs
    obtain ⟨v, rfl, h⟩ := hN e w' hR
    exact ⟨_, w', fr, h, rest⟩
  cases ro with
  | none => exact key
  | some l => exact key
theorem heap_set_self {w : World} {b : Nat} {o : Obj} (h : w.heap[b]? = some o) : { w with heap := w.heap.setIfInBounds b o } = w := by
  have : w.heap.setIfInBounds b o = w.heap := by
    obtain ⟨hlt, he⟩ := Array.getElem?_eq_some_iff.1 h
    apply Array.ext
    · simp
    · intro i h1 h2
      rw [Array.getElem_setIfInBounds]
      split
      · rename_i e; subst e; exact he.symm
      · rfl
  rw [this]
theorem run_storeCells (b o : Nat) (t : TypeId) : ∀ (vs : List Value) (i : Nat) (c : Array Value) (w : World), w.heap[b]? = some (.cells c t (0, 0)) → (∀ v ∈ vs, v.oneCell' = true) → o + i + vs.length ≤ c.size →
    (storeCells ⟨b, o, none⟩ vs i).run P w = .ok () { w with heap := w.heap.setIfInBounds b (.cells (c.toList.take (o + i) ++ vs ++ c.toList.drop (o + i + vs.length)).toArray t (0, 0)) } := by
  intro vs
  induction vs with
  | nil =>
    intro i c w hw _ _
    simp only [storeCells, Sem.run_pure, List.append_nil, List.length_nil, Nat.add_zero, List.take_append_drop]
    rw [heap_set_self (o := .cells c.toList.toArray t (0, 0)) (by simpa using hw)]
  | cons v vs ih =>
    intro i c w hw hv hl
    simp only [List.length_cons] at hl
    have ha : (⟨b, o, none⟩ : Addr).add i = ⟨b, o + i, none⟩ := by
      unfold Addr.add; split
      · rename_i e; subst e; rfl
      · rfl
    have hlt : o + i < c.size := by omega
    simp only [storeCells, Sem.run_bind, ha]
    rw [run_store P w _ v _ (hv v (by simp))]
    have hc : w.cell? ⟨b, o + i, none⟩ = some c[o + i] := by simp [World.cell?, hw, hlt]
    have hf : w.frozen? ⟨b, o + i, none⟩ = false := by simp [World.frozen?, hw]
    simp only [hc, hf, Bool.false_eq_true, if_false, Result.andThen_ok]
    have hblt : b < w.heap.size := (Array.getElem?_eq_some_iff.1 hw).1
    have hw1 : (w.setCell ⟨b, o + i, none⟩ v).heap[b]? = some (.cells (c.setIfInBounds (o + i) v) t (0, 0)) := by
      simp [World.setCell, Array.getElem?_modify, hw]
    rw [ih (i + 1) (c.setIfInBounds (o + i) v) _ hw1 (fun x hx => hv x (List.mem_cons_of_mem _ hx)) (by simp; omega)]
    have hhe : (w.setCell ⟨b, o + i, none⟩ v) = { w with heap := w.heap.setIfInBounds b (.cells (c.setIfInBounds (o + i) v) t (0, 0)) } := by
      have hheap : (w.setCell ⟨b, o + i, none⟩ v).heap = w.heap.setIfInBounds b (.cells (c.setIfInBounds (o + i) v) t (0, 0)) := by
        obtain ⟨hlt', he⟩ := Array.getElem?_eq_some_iff.1 hw
        simp only [World.setCell]
        apply Array.ext
        · simp
        · intro j h1 h2
          rw [Array.getElem_setIfInBounds, Array.getElem_modify]
          split
          · rename_i e; subst e; rw [he]; rfl
          · rfl
      show World.mk (w.setCell ⟨b, o + i, none⟩ v).heap w.tape w.drawn w.os w.output = _
      rw [hheap]
    rw [hhe]
    congr 2
    simp only [Array.setIfInBounds_setIfInBounds]
    congr 3
    have e1 : (c.setIfInBounds (o + i) v).toList.take (o + (i + 1)) = c.toList.take (o + i) ++ [v] := by
      rw [Array.toList_setIfInBounds, show o + (i + 1) = (o + i) + 1 from by omega, List.take_succ_eq_append_getElem (by simpa using hlt)]
      simp [List.take_set_of_le]
    have e2 : (c.setIfInBounds (o + i) v).toList.drop (o + (i + 1) + vs.length) = c.toList.drop (o + i + (vs.length + 1)) := by
      rw [Array.toList_setIfInBounds, show o + (i + 1) + vs.length = o + i + (vs.length + 1) from by omega, List.drop_set_of_lt (by omega)]
    rw [e1, e2]; simp
theorem oneCell_s1 {n : Nat} {r : Ren} {v : Value} (h : s1 n v) : (c1 r v).oneCell' = true := by
  cases v with
  | agg cs => exact h.elim
  | tuple cs => exact h.elim
  | pointer p => cases p <;> rfl
  | slice p l c => cases p <;> rfl
  | map p => cases p <;> rfl
  | _ => rfl
theorem flat_range (z : Array Value) : ∀ (len : Nat), ((Array.range (len * z.size)).map (fun i => z[i % z.size]!)) = (List.replicate len z.toList).flatten.toArray := by
  intro len
  apply Array.ext'
  simp only [Array.toList_map, Array.toList_range]
  induction len with
  | zero => simp
  | succ len ih =>
    rw [Nat.succ_mul, List.range_add, List.map_append, ih, List.replicate_succ', List.flatten_append]
    congr 1
    simp only [List.map_map, List.flatten_cons, List.flatten_nil, List.append_nil]
    apply List.ext_getElem
    · simp
    · intro i h1 h2
      have hi : i < z.size := by simpa using h2
      simp only [List.getElem_map, List.getElem_range, Function.comp_apply]
      rw [show (len * z.size + i) % z.size = i from by rw [Nat.mul_comm, Nat.mul_add_mod, Nat.mod_eq_of_lt hi]]
      simp [hi]
theorem ao_out {o : Oper} {K : St → Prop} (h : AO P G ro o s K) (R : RepS G r s a w) {N : Act → World → Prop} {Q : Exit → Act → World → Prop}
    (hN : ∀ r' s' a' w', Step r s.h w r' s'.h w' → RepS G r' s' a' w' → K s' → N a' w') : o.wpIn (fen ro) 0 P a w N Q := by
  unfold AO at h; exact h r a w R N Q hN
theorem ao_pure (hT : TabOk P T) {o : Oper} {K : St → Prop} (hd : ∀ c, o.op ≠ .defer c) (h : pureK T G s o.op fun v => putK s o.dst v K) : AO P G ro o s K := by
  unfold AO
  intro r a w R N Q hN
  obtain ⟨v, h1, h2, h⟩ := pureK_ok (P := P) hT R o h
  obtain ⟨s', g1, g2, g3⟩ := putK_ok R h2 h
  exact wp_of_value hd h1 (hN r s' _ w (by rw [g2]; exact Step.refl _ _ _) g1 g3)
theorem opK_ok (hT : TabOk P T) {o : Oper} {K : St → Prop} (h : opK P T G ro s o K) : AO P G ro o s K := by
  unfold AO
  intro r a w R N Q hN
  have pure_case : (pureK T G s o.op fun v => putK s o.dst v K) → (∀ c, o.op ≠ .defer c) → o.wpIn (fen ro) 0 P a w N Q := by
    intro h hd
    obtain ⟨v, h1, h2, h⟩ := pureK_ok (P := P) hT R o h
    obtain ⟨s', g1, g2, g3⟩ := putK_ok R h2 h
    exact wp_of_value hd h1 (hN r s' _ w (by rw [g2]; exact Step.refl _ _ _) g1 g3)
  obtain ⟨dst, op, type, pos, after, guard⟩ := o
  cases op with
  | alloc t =>
    obtain ⟨i, hi, h⟩ := tiK_ok hT h
    simp only [arrK_iff, pushK, cntK_iff, appK_iff, Nat.zero_add] at h
    obtain ⟨z1, z2⟩ := zero_cells hi.zsc r
    have R' := R.push (c := ⟨i.zero.cells.toList⟩) t (fun x hx => s1_mono (Nat.zero_le _) (z2 x hx))
    obtain ⟨s', g1, g2, g3⟩ := putK_ok R' (v := ptr s.h.length 0) (by intro q hq; simp) h
    have S' := Step.push r s.h w (.cells ⟨i.zero.cells.toList⟩ t) (.cells ((⟨i.zero.cells.toList⟩ : Array Value).map (c1 r)) t)
    refine wp_of_value (by intro c; simp) (v := .pointer (some ⟨w.heap.size, 0, none⟩)) ?_ (hN _ s' _ _ (by rw [g2]; exact S') (by rw [c3_ptr_push] at g1; exact g1) g3)
    have hz : (⟨i.zero.cells.toList⟩ : Array Value).map (c1 r) = i.zero.cells := by
      exact (toArr_map _ _).symm.trans z1.symm
    simp only [execOp, Instr.alloc, Sem.run_bind, hi.run_zero, Result.andThen_ok, newVar, newRow, run_newObj, Sem.run_pure]
    rw [hz]; rfl
  | box t x =>
    obtain ⟨v, e1, e2, h⟩ := evK_ok R h
    simp only [need_iff, arrK_iff, pushK, cntK_iff, appK_iff, Nat.zero_add] at h
    obtain ⟨ht, h⟩ := h
    obtain ⟨f1, f2⟩ := cells_c3 (r := r) e2 (notTup_ne ht)
    have R' := R.push (c := ⟨v.cells.toList⟩) t f2
    obtain ⟨s', g1, g2, g3⟩ := putK_ok R' (v := ptr s.h.length 0) (by intro q hq; simp) h
    have S' := Step.push r s.h w (.cells ⟨v.cells.toList⟩ t) (.cells ((⟨v.cells.toList⟩ : Array Value).map (c1 r)) t)
    refine wp_of_value (by intro c; simp) (v := .pointer (some ⟨w.heap.size, 0, none⟩)) ?_ (hN _ s' _ _ (by rw [g2]; exact S') (by rw [c3_ptr_push] at g1; exact g1) g3)
    simp only [execOp, Instr.box, Sem.run_bind, e1, Result.andThen_ok, newVar, newRow, run_newObj, Sem.run_pure, f1]
    rfl
  | store t x y =>
    obtain ⟨u, e1, e2, h⟩ := evK_ok R h
    obtain ⟨v, f1, f2, h⟩ := evK_ok R h
    cases u with
    | pointer p => cases p with
      | some p =>
        obtain ⟨b, off, sp⟩ := p
        cases sp with
        | none => exact h.elim
        | some q =>
          obtain ⟨i, hi, h⟩ := tiK_ok hT h
          simp only [need_iff, Bool.and_eq_true, beq_iff_eq, nthK_iff] at h
          obtain ⟨⟨ht, hs⟩, ob, hb, h⟩ := h
          cases ob with
          | cells c e f =>
            obtain ⟨f0, f9⟩ := f
            cases f0 with
            | succ n => exact h.elim
            | zero =>
              simp only [writeK_iff, heapK, List.length_cons, List.length_nil, Nat.zero_add] at h
              obtain ⟨hl, hl2, h⟩ := h
              obtain ⟨g1, g2⟩ := cells_c3 (r := r) f2 (notTup_ne ht)
              have hbl : b < s.h.length := (List.getElem?_eq_some_iff.1 hb).1
              let c' : Array Value := ⟨c.toList.take off ++ v.cells.toList ++ c.toList.drop (off + v.cells.toList.length)⟩
              have hc' : ∀ x ∈ c'.toList, s1 s.h.length x := by
                intro x hx
                simp only [c', List.mem_append] at hx
                rcases hx with (hx | hx) | hx
                · exact R.heap.sc b _ hb x (List.mem_of_mem_take hx)
                · exact g2 x hx
                · exact R.heap.sc b _ hb x (List.mem_of_mem_drop hx)
              have hset : s.h.take b ++ [Obj.cells c' e] ++ s.h.drop (b + 1) = s.h.set b (.cells c' e) := by
                rw [List.set_eq_take_append_cons_drop, if_pos hbl]; simp
              have H' := R.heap.set hb rfl hc'
              have S' : Step r s.h w r (s.h.set b (.cells c' e)) { w with heap := w.heap.setIfInBounds (r b) (.cells (c'.map (c1 r)) e (0, 0)) } := Step.set (c' := c') hb rfl _
              have R' : RepS G r ⟨s.t, s.h.set b (.cells c' e), s.d⟩ a { w with heap := w.heap.setIfInBounds (r b) (.cells (c'.map (c1 r)) e (0, 0)) } := R.move H' (by simp) (fun _ _ => rfl) S'.dfr
              rw [show s.h.take b ++ [Obj.cells ⟨c.toList.take off ++ v.cells.toList ++ c.toList.drop (off + v.cells.toList.length)⟩ e] ++ s.h.drop (b + 1) = s.h.set b (.cells c' e) from hset] at h
              obtain ⟨s', q1, q2, q3⟩ := putK_ok R' (v := undef) (by intro x hx; simp at hx) h
              refine wp_of_skip (by intro c; simp) ?_ (hN r s' _ _ (by rw [q2]; exact S') (by simpa [c3, undef] using q1) q3)
              have hw : w.heap[r b]? = some (.cells (c.map (c1 r)) e (0, 0)) := by
                have := R.heap.ok b _ hb
                simpa [ObjOk] using this
              have hrun := run_storeCells (P := P) (r b) off e ((v.cells.map (c1 r)).toList) 0 (c.map (c1 r)) w hw (by
                intro x hx
                simp only [Array.toList_map, List.mem_map] at hx
                obtain ⟨y, hy, rfl⟩ := hx
                exact oneCell_s1 (g2 y hy)) (by simp at hl ⊢; omega)
              have e1' : a.eval x = .pointer (some ⟨r b, off, none⟩) := e1
              have hcs : (c3 r v).cells.size = i.size := by rw [g1]; simpa using hs
              simp only [execOp, e1', f1, Instr.storeAt, Instr.sureAddr, Sem.run_bind, Sem.run_pure, Result.andThen_ok, storeVar, hi.run_size, Sem.run_ite]
              rw [if_neg (by omega)]
              rw [g1, hrun]
              simp only [Result.andThen_ok]
              congr 3
              simp [c', List.map_take, List.map_drop]
          | _ => exact h.elim
      | none => exact h.elim
    | _ => exact h.elim
  | buildSlice t len parts =>
    obtain ⟨ps, e1, e2, h⟩ := partsK_ok R _ _ h
    obtain ⟨i, hi, h⟩ := tiK_ok hT h
    cases hd : i.desc <;> rw [hd] at h <;> try exact h.elim
    rename_i e
    obtain ⟨j, hj, h⟩ := tiK_ok hT h
    simp only [need_iff, decide_eq_true_eq, arrK_iff, repK_iff, List.append_nil] at h
    obtain ⟨hlen, h⟩ := h
    obtain ⟨z1, z2⟩ := zero_cells hj.zsc r
    have hes : j.size = i.esz := by
      obtain ⟨y1, y2, y3⟩ := hi.esz e (.inl hd)
      obtain ⟨x1, x2, x3, _⟩ := hj.inf
      rw [y2] at x2; cases x2; omega
    have hfl : ∀ x ∈ (List.replicate len j.zero.cells.toList).flatten, s1 s.h.length x := by
      intro x hx
      simp only [List.mem_flatten, List.mem_replicate] at hx
      obtain ⟨l, ⟨_, rfl⟩, hx⟩ := hx
      exact s1_mono (Nat.zero_le _) (z2 x hx)
    obtain ⟨c, f1, f2, f3, h⟩ := fillK_ok (r := r) (place := fun n => some (n * j.size, j.size)) (fun n q hq => ⟨_, rfl, hq⟩) ps _ _ hfl e2 h
    simp only [pushK, cntK_iff, appK_iff, Nat.zero_add] at h
    have R' := R.push (c := ⟨c⟩) e f2
    have S' := Step.push r s.h w (.cells ⟨c⟩ e) (.cells ((⟨c⟩ : Array Value).map (c1 r)) e)
    obtain ⟨s', g1, g2, g3⟩ := putK_ok R' (v := slc s.h.length 0 len len) (by intro q hq; simp) h
    refine wp_of_value (by intro c; simp) (v := .slice (some ⟨w.heap.size, 0, none⟩) len len) ?_ (hN _ s' _ _ (by rw [g2]; exact S') (by rw [c3_slc_push] at g1; exact g1) g3)
    have hps : (parts.map fun (j, x) => (j, a.eval x)).toList = ps.map fun p => (p.1, c3 r p.2) := by
      rw [← e1]; simp
    have hzm : ((List.replicate len j.zero.cells.toList).flatten.map (c1 r)).toArray = (List.replicate len j.zero.cells.toList).flatten.toArray := by
      congr 1
      rw [List.map_congr_left (g := id)]
      · simp
      · intro x hx
        simp only [List.mem_flatten, List.mem_replicate] at hx
        obtain ⟨l, ⟨_, rfl⟩, hx⟩ := hx
        exact c1_zero (z2 x hx) r
    rw [hzm] at f1
    have hle : ¬ len * j.size > 2 ^ 24 := by
      have : (2 : Nat) ^ 24 = 16777216 := by decide
      omega
    have hsz : (sizeOf e).run P w = .ok j.size w := hj.run_size
    simp only [execOp, Instr.buildSlice, Sem.run_bind, hi.run_und, hd, Result.andThen_ok, hsz, Sem.run_ite]
    rw [if_neg hle]
    simp only [Result.andThen_ok, Sem.run_pure]
    have fin : ∀ (z : Array Value), ((Array.range (len * j.size)).map (fun q => z[q % z.size]!)) = (List.replicate len j.zero.cells.toList).flatten.toArray →
        ((match Instr.fill (fun q => some (q * j.size, j.size)) ((Array.range (len * j.size)).map (fun q => z[q % z.size]!)) (parts.map fun (j, x) => (j, a.eval x)).toList with
          | some cells => do pure (.slice (some (← newRow e cells)) len len)
          | _ => stuck "buildSlice: a part of the wrong size") : Sem Value).run P w = .ok (.slice (some ⟨w.heap.size, 0, none⟩) len len) (w.alloc (.cells ((⟨c⟩ : Array Value).map (c1 r)) e)) := by
      intro z hz
      rw [hz, hps, f1]
      simp only [Sem.run_bind, newRow, run_newObj, Result.andThen_ok, Sem.run_pure]
      rw [← toArr_map]
      rfl
    by_cases h0 : len * j.size = 0
    · rw [if_pos h0]
      have := fin #[] (by
        rw [h0]
        rcases Nat.mul_eq_zero.1 h0 with h1 | h1
        · subst h1; simp
        · have : j.zero.cells.toList = [] := by
            have := hj.zsz; rw [h1] at this; simpa using this
          rw [this]
          have : (List.replicate len ([] : List Value)).flatten = [] := by simp
          rw [this]; simp)
      exact congrArg (fun q : Result Value => q.andThen fun a w' => Result.ok (Next.value a) w') this
    · rw [if_neg h0]
      simp only [hj.run_zero, Result.andThen_ok]
      have := fin j.zero.cells (by rw [← hj.zsz]; exact flat_range _ _)
      exact congrArg (fun q : Result Value => q.andThen fun a w' => Result.ok (Next.value a) w') this
  | call c =>
    obtain ⟨callee, args, ts⟩ := c
    cases callee with
    | builtin b =>
      cases b with
      | append => exact ao_out h R hN
      | cap => exact ao_out h R hN
      | _ => exact pure_case h (by intro c; simp)
    | invoke x m => exact h.elim
    | value f =>
      obtain ⟨fv, e1, e2, h⟩ := evK_ok R h
      obtain ⟨vs, f1, f2, h⟩ := evsK_ok R _ _ h
      cases fv with
      | func fn fs cs =>
        cases fn with
        | yield l => exact ao_out h R hN
        | func n =>
          simp only [callK] at h
          cases hfs : fs.toList with
          | cons x xs => rw [hfs] at h; exact h.elim
          | nil =>
            rw [hfs] at h
            simp only [arrK_iff, appK_iff] at h
            have hK := h
            clear h
            have hfs0 : fs = #[] := by
              apply Array.ext'; simpa using hfs
            subst hfs0
            unfold AC at hK
            obtain ⟨⟨fnc, hf1, hf2, hf3⟩, hcall⟩ := hK
            have hcs : ∀ x ∈ cs.toList, s0 s.h.length x := e2.2
            have hcc : ∀ x ∈ cs.toList, c3 r x = c0 r x ∧ s3 s.h.length x := by
              intro x hx
              have := hcs x hx
              cases x <;> first | exact ⟨rfl, this⟩ | exact this.elim
            have hc := hcall r w R.heap (by
              intro v hv
              rcases List.mem_append.1 hv with hv | hv
              · exact f2 v hv
              · exact (hcc v hv).2)
            have hargs : ((vs ++ cs.toList).map (c3 r)).toArray = args.map a.eval ++ cs.map (c0 r) := by
              apply Array.ext'
              simp only [List.map_append, Array.toList_append, Array.toList_map]
              rw [← f1]
              congr 1
              exact List.map_congr_left fun x hx => (hcc x hx).1
            rw [hargs] at hc
            refine wp_of_enter (by intro c; simp) ?_ hc ?_
            · have e1' : a.eval f = .func (.func n) #[] (cs.map (c0 r)) := by rw [e1]; simp [c3, c2, c1]
              have hb : fnc.body.isNone = false := by
                cases hbb : fnc.body with
                | none => rw [hbb] at hf3; cases hf3
                | some _ => rfl
              simp only [execOp, resolve, e1', Deferred.ofValue, Sem.run_bind, Sem.run_pure, Result.andThen_ok, invoke, callFunc, run_program, hf1, hf2, hb, Bool.false_eq_true, if_false]
              simp
            · rintro e w' ⟨r', h', v, S, H, hv, rfl, hk⟩
              refine ⟨_, rfl, ?_⟩
              have R' : RepS G r' ⟨s.t, h', s.d⟩ a w' := R.move H S.len S.ext S.dfr
              simp only [heapK] at hk
              obtain ⟨s', g1, g2, g3⟩ := putK_ok R' (v := v) hv hk
              exact hN r' s' _ w' (by rw [g2]; exact S) g1 g3
        | _ => exact h.elim
      | _ => exact h.elim
  | convert src dst x =>
    have h' : (match Nat.beq src dst with
      | true => AO P G ro _ s K
      | false => pureK T G s _ fun v => putK s _ v K) := h
    cases hb : Nat.beq src dst with
    | true => rw [hb] at h'; exact ao_out h' R hN
    | false => rw [hb] at h'; exact pure_case h' (by intro c; simp)
  | makeSlice t l c => exact ao_out h R hN
  | makeMap t x => exact ao_out h R hN
  | insert t m k v => exact ao_out h R hN
  | lookup t m k b => exact ao_out h R hN
  | go c => exact h.elim
  | defer c => exact h.elim
  | _ => exact pure_case h (by intro c; simp)
/-! ## Regions -/
theorem guardK_ok (hT : TabOk P T) {ops : Array Oper} {o : Oper} {K : St → Prop} (R : RepS G r s a w) (h : guardK P T G ro ops.toList s o K) {N : Act → World → Prop} {Q : Exit → Act → World → Prop}
    (hN : ∀ r' s' a' w', Step r s.h w r' s'.h w' → RepS G r' s' a' w' → K s' → N a' w') :
    (Region.wanted o (yielded ops a.tmps) = true → o.wpIn (fen ro) 0 P a w N Q) ∧ (Region.wanted o (yielded ops a.tmps) = false → N (a.put o.dst undef) w) := by
  obtain ⟨dst, op, type, pos, after, guard⟩ := o
  cases guard with
  | none => exact ⟨fun _ => ao_out (opK_ok hT h) R hN, fun h => by simp [Region.wanted] at h⟩
  | some g =>
    obtain ⟨j, want⟩ := g
    simp only [guardK, nthK_iff] at h
    obtain ⟨p, hp, h⟩ := h
    cases hd : p.dst with
    | none => rw [hd] at h; exact h.elim
    | some d =>
      rw [hd] at h
      simp only at h
      obtain ⟨row, h1, v, h2, h⟩ := h
      cases v with
      | bool b =>
        simp only [bcase_iff] at h
        have hg := get2_of h1 h2
        obtain ⟨g1, g2⟩ := R.tmp d _ hg
        obtain ⟨g3, g4⟩ := g2 rfl
        obtain ⟨s', q1, q2, h⟩ := putK_same R (v := .bool b) trivial g3 h
        have hp' : ops[j]? = some p := by simpa using hp
        have hy : yielded ops a.tmps j = some b := by
          simp [yielded, hp', hd, g3, c3, c2, c1, c0]
        have hw : Region.wanted (⟨dst, op, type, pos, after, some (j, want)⟩ : Oper) (yielded ops a.tmps) = (b == want) := by
          simp only [Region.wanted, hy]
          cases b <;> cases want <;> rfl
        rw [hw]
        refine ⟨fun hb => ?_, fun hb => ?_⟩
        · rw [hb] at h
          exact ao_out (opK_ok hT h) q1 (fun r' s'' a' w' S R' k => hN r' s'' a' w' (by rw [q2] at S; exact S) R' k)
        · rw [hb] at h
          obtain ⟨s'', z1, z2, h⟩ := putK_ok q1 (v := undef) (by intro x hx; simp at hx) h
          exact hN r s'' _ w (by rw [z2, q2]; exact Step.refl _ _ _) (by simpa [c3, undef] using z1) h
      | tuple cs =>
        have hg := get2_of h1 h2
        obtain ⟨g1, g2⟩ := R.tmp d _ hg
        obtain ⟨g3, g4⟩ := g2 rfl
        have hp' : ops[j]? = some p := by simpa using hp
        have hy : yielded ops a.tmps j = none := by
          simp [yielded, hp', hd, g3, c3]
        have hw : Region.wanted (⟨dst, op, type, pos, after, some (j, want)⟩ : Oper) (yielded ops a.tmps) = false := by
          simp only [Region.wanted, hy]
          cases want <;> rfl
        rw [hw]
        refine ⟨fun hb => (by cases hb), fun _ => ?_⟩
        simp only at h
        obtain ⟨s'', z1, z2, h⟩ := putK_ok R (v := undef) (by intro x hx; simp at hx) h
        exact hN r s'' _ w (by rw [z2]; exact Step.refl _ _ _) (by simpa [c3, undef] using z1) h
      | _ => exact h.elim
theorem opsK_ok (hT : TabOk P T) {ops : Array Oper} {K : St → Prop} {Q : Exit → Act → World → Prop} : ∀ (l : List Oper) (i : Nat), ops.toList.drop i = l → ∀ (s : St) (r : Ren) (a : Act) (w : World), RepS G r s a w → opsK P T G ro ops.toList l s K →
    (∀ r' s' a' w', Step r s.h w r' s'.h w' → RepS G r' s' a' w' → K s' → Q .normal a' w') → wpOpsIn (fen ro) 0 P ops Q (List.range' i l.length) a w := by
  intro l
  induction l with
  | nil => intro i _ s r a w R h hQ; exact hQ r s a w (Step.refl _ _ _) R h
  | cons o l ih =>
    intro i hi s r a w R h hQ
    have ho : ops[i]? = some o := by
      have : ops.toList[i]? = some o := by
        have := congrArg (fun q : List Oper => q[0]?) hi
        simpa using this
      simpa using this
    have hl : ops.toList.drop (i + 1) = l := by
      have := congrArg List.tail hi
      simpa using this
    simp only [List.length_cons, List.range'_succ, wpOpsIn, ho]
    simp only [opsK_s] at h
    have key := guardK_ok (ro := ro) (Q := Q) (N := wpOpsIn (fen ro) 0 P ops Q (List.range' (i + 1) l.length)) hT R h (fun r' s' a' w' S R' k =>
      ih (i + 1) hl s' r' a' w' R' k (fun r'' s'' a'' w'' S' R'' k' => hQ r'' s'' a'' w'' (S.trans S') R'' k'))
    by_cases hw : Region.wanted o (yielded ops a.tmps) = true
    · rw [if_pos hw]; exact key.1 hw
    · rw [if_neg hw]
      exact ⟨fun f _ => fen_fn ro f, key.2 (by simpa using hw)⟩

/-! ## Code -/
theorem aw_out {c : Code} {K : Exit → St → Prop} (h : AW P G ro c s K) (R : RepS G r s a w) :
    c.wpIn (fen ro) 0 P (fun e a' w' => ∃ r' s', Step r s.h w r' s'.h w' ∧ RepS G r' s' a' w' ∧ K e s') a w := by
  unfold AW at h; exact h r a w R
theorem aw_mono {c : Code} {K K' : Exit → St → Prop} (h : AW P G ro c s K) (hk : ∀ e s, K e s → K' e s) : AW P G ro c s K' := by
  unfold AW
  intro r a w R
  refine wpIn_mono (aw_out h R) ?_
  rintro e a' w' ⟨r', s', S, R', k⟩
  exact ⟨r', s', S, R', hk _ _ k⟩
/-- what a continuation says in every world -/
def Post (G : List (Nat × Obj)) (r : Ren) (h : List Obj) (w : World) (K : Exit → St → Prop) : Exit → Act → World → Prop :=
  fun e a' w' => ∃ r' s', Step r h w r' s'.h w' ∧ RepS G r' s' a' w' ∧ K e s'
theorem post_step {r r' : Ren} {h h' : List Obj} {w w' : World} (S : Step r h w r' h' w') {K : Exit → St → Prop} {e : Exit} {a : Act} {w'' : World} (p : Post G r' h' w' K e a w'') : Post G r h w K e a w'' := by
  obtain ⟨q, s', S', R', k⟩ := p
  exact ⟨q, s', S.trans S', R', k⟩
theorem run_ok (hT : TabOk P T) : ∀ (c : Code) (s : St) (K : Exit → St → Prop), run P T G ro c s K → AW P G ro c s K := by
  intro c
  induction c with
  | skip => intro s K h; unfold AW; intro r a w R; exact wpIn_skip ⟨r, s, Step.refl _ _ _, R, h⟩
  | label l => intro s K h; unfold AW; intro r a w R; exact wpIn_label ⟨r, s, Step.refl _ _ _, R, h⟩
  | exit i => intro s K h; unfold AW; intro r a w R; exact wpIn_exit ⟨r, s, Step.refl _ _ _, R, h⟩
  | goto l => intro s K h; unfold AW; intro r a w R; exact wpIn_goto ⟨r, s, Step.refl _ _ _, R, h⟩
  | ret => intro s K h; unfold AW; intro r a w R; exact wpIn_ret ⟨r, s, Step.refl _ _ _, R, h⟩
  | refuse m => intro s K h; exact h.elim
  | loop body ih => intro s K h; exact h
  | rangeFunc f ps x y ih1 ih2 => intro s K h; exact h
  | scope body ih => intro s K h; exact h
  | region id ops draw =>
    intro s K h
    cases draw with
    | true =>
      have h' : AD P G ro ops s fun s => K .normal s := h
      unfold AD at h'
      refine aw_mono (h' id) ?_
      intro e s' k
      cases e <;> first | exact k | exact k.elim
    | false =>
      unfold AW
      intro r a w R
      refine wpIn_region ?_
      have := opsK_ok (ro := ro) (Q := Post G r s.h w K) hT ops.toList 0 (by simp) s r a w R h (fun r' s' a' w' S R' k => ⟨r', s', S, R', k⟩)
      rw [List.range_eq_range']
      have e : ops.toList.length = ops.size := by simp
      rw [e] at this
      exact this
  | seq x y ih1 ih2 =>
    intro s K h
    have h1 := ih1 _ _ h
    unfold AW
    intro r a w R
    refine wpIn_seq (wpIn_mono (aw_out h1 R) ?_)
    rintro e a' w' ⟨r', s', S, R', k⟩
    cases e with
    | normal =>
      have h2 := ih2 _ _ k
      refine wpIn_mono (aw_out h2 R') ?_
      rintro e a'' w'' ⟨r'', s'', S', R'', k'⟩
      exact ⟨r'', s'', S.trans S', R'', k'⟩
    | exit i => exact ⟨r', s', S, R', k⟩
    | goto i => exact ⟨r', s', S, R', k⟩
    | ret => exact ⟨r', s', S, R', k⟩
    | panic c => exact k.elim
    | outgrown => exact k.elim
  | cond c x y ih1 ih2 =>
    intro s K h
    unfold AW
    intro r a w R
    obtain ⟨v, e1, e2, h⟩ := evK_ok R h
    cases v with
    | bool b =>
      replace h := (bcase_iff _ _).1 h
      cases b with
      | true =>
        have h' : run P T G ro x s K := h
        exact wpIn_cond_true e1 (aw_out (ih1 _ _ h') R)
      | false =>
        have h' : run P T G ro y s K := h
        exact wpIn_cond_false e1 (aw_out (ih2 _ _ h') R)
    | _ => exact h.elim
  | block id body ih =>
    intro s K h
    have h1 := ih _ _ h
    unfold AW
    intro r a w R
    refine wpIn_block (wpIn_mono (aw_out h1 R) ?_)
    rintro e a' w' ⟨r', s', S, R', k⟩
    cases e with
    | normal => exact ⟨r', s', S, R', k⟩
    | exit i =>
      simp only [Exit.inBlock]
      simp only at k
      cases hb : Nat.beq i id with
      | true =>
        rw [hb] at k
        rw [if_pos (Nat.eq_of_beq_eq_true hb)]
        exact ⟨r', s', S, R', k⟩
      | false =>
        rw [hb] at k
        rw [if_neg (Nat.ne_of_beq_eq_false hb)]
        exact ⟨r', s', S, R', k⟩
    | goto i => exact ⟨r', s', S, R', k⟩
    | ret => exact ⟨r', s', S, R', k⟩
    | panic c => exact k.elim
    | outgrown => exact k.elim
end
end Go.Proofs.YtjpjnjidchdlbaaDoor
