/-
  From a function's body that is run on an abstract state to the call that is owed; calls from greater heaps; loops (no condition).
-/
import Derived.Test.YtjpjnjidchdlbaaDoorEngI
namespace Go.Proofs.YtjpjnjidchdlbaaDoor
set_option linter.unusedSimpArgs false
set_option linter.unusedVariables false
open Go Go.RowKit

section
variable {P : Program} {T : Tab} {G : List (Nat × Obj)} {ro : Option Nat} {r : Ren} {s : St} {a : Act} {w : World}

/-! ## Results -/
def resAt (tmps : Array Value) : ResultVar → Sem Value
  | .tmp t => pure (tmps.getD t undef)
  | .cell a t => do loadVar t (← asAddr (tmps.getD a undef))
def retOf (vs : List Value) : Value := match vs with
  | [v] => v
  | _ => .tuple vs.toArray
theorem results_eq (fn : Func) (tmps : Array Value) (w : World) {vs : List Value} (h : (fn.results.toList.mapM (resAt tmps)).run P w = .ok vs w) :
    (results fn tmps).run P w = .ok (retOf vs) w := by
  have h2 : (fn.results.mapM (resAt tmps)).run P w = .ok vs.toArray w := by
    have e : fn.results = fn.results.toList.toArray := by simp
    rw [e, List.mapM_toArray, Sem.run_map, h]; rfl
  unfold results
  rw [Sem.run_bind]
  refine (congrArg (fun q : Result (Array Value) => q.andThen _) (show Sem.run P _ w = _ from h2)).trans ?_
  simp only [Result.andThen_ok, Sem.run_pure]
  congr 1
  match vs with
  | [] => rfl
  | [v] => rfl
  | v :: u :: t => simp [retOf]
theorem evK_mono {x : Operand} {k k' : Value → Prop} (hk : ∀ v, k v → k' v) (h : evK s x k) : evK s x k' := by
  cases x with
  | tmp i =>
    simp only [evK, nthK_iff] at h ⊢
    obtain ⟨row, h1, v, h2, h3⟩ := h
    refine ⟨row, h1, v, h2, ?_⟩
    cases v <;> first | exact h3.elim | exact hk _ h3
  | const v =>
    simp only [evK, need_iff] at h ⊢
    exact ⟨h.1, hk _ h.2⟩
  | global g => exact hk _ h
  | func f => exact hk _ h
theorem ldK_pure {t : TypeId} {x : Operand} {k : Value → Prop} (h : ldK T s t x k) : pureK T [] s (.load t x) k := by
  have key : ∀ (a : Addr) (i : TI), (cellsK [] s a fun c => partK c a.off i.agg i.size k) → loadK [] s a i.agg i.size k := by
    intro a i h
    obtain ⟨b, o, sp⟩ := a
    cases sp with
    | none => exact h
    | some q =>
      obtain ⟨ob, h1, h2⟩ := (nthK_iff _ _ _).1 h
      cases ob with
      | cells c e f => exact (nthK_iff _ _ _).2 ⟨_, h1, h2⟩
      | _ => exact h2.elim
  have hv : ∀ v : Value, (match v with
      | .pointer p => match p with
        | some a => tiK T t fun i => cellsK [] s a fun c => partK c a.off i.agg i.size k
        | none => False
      | _ => False) → (match v with
      | .pointer p => match p with
        | some a => tiK T t fun i => loadK [] s a i.agg i.size k
        | none => False
      | _ => False) := by
    intro v h
    cases v <;> try exact h.elim
    rename_i p
    cases p with
    | none => exact h.elim
    | some a =>
      obtain ⟨i, h1, h2, h3⟩ := (tiK_iff _ _ _).1 h
      exact (tiK_iff _ _ _).2 ⟨i, h1, h2, key a i h3⟩
  unfold ldK at h
  show evK s x fun a => match a with
      | .pointer p => match p with
        | some a => tiK T t fun i => loadK [] s a i.agg i.size k
        | none => False
      | _ => False
  exact evK_mono hv h
theorem resK_ok (hT : TabOk P T) (R : RepS G r s a w) : ∀ (l : List ResultVar) (k : List Value → Prop), resK T s l k →
    ∃ vs, (l.mapM (resAt a.tmps)).run P w = .ok (vs.map (c3 r)) w ∧ (∀ v ∈ vs, s3 s.h.length v ∧ notTup v = true) ∧ k vs := by
  have R0 : RepS [] r s a w := ⟨⟨R.heap.ok, R.heap.inj, R.heap.sc, fun g o h => by cases h⟩, R.tmp, R.dfr, R.dok⟩
  intro l
  induction l with
  | nil => intro k h; exact ⟨[], rfl, by simp, h⟩
  | cons x l ih =>
    intro k h
    cases x with
    | tmp t =>
      simp only [resK_t, resK_c] at h
      obtain ⟨v, e1, e2, h⟩ := evK_ok R h
      rw [need_iff] at h
      obtain ⟨ht, h⟩ := h
      obtain ⟨vs, f1, f2, h⟩ := ih _ h
      refine ⟨v :: vs, ?_, ?_, h⟩
      · have e1' : a.tmps.getD t undef = c3 r v := e1
        simp only [List.mapM_cons, Sem.run_bind, resAt, Sem.run_pure, Result.andThen_ok, f1, e1']
        rfl
      · intro u hu
        rcases List.mem_cons.1 hu with rfl | hu
        · exact ⟨e2, ht⟩
        · exact f2 u hu
    | cell q t =>
      obtain ⟨v, e1, e2, h⟩ := pureK_ok (P := P) hT R0 ⟨none, .load t (.tmp q), 0, "", #[], none⟩ (ldK_pure h)
      rw [need_iff] at h
      obtain ⟨ht, h⟩ := h
      obtain ⟨vs, f1, f2, h⟩ := ih _ h
      refine ⟨v :: vs, ?_, ?_, h⟩
      · have e1' : (do loadVar t (← asAddr (a.tmps.getD q undef)) : Sem Value).run P w = .ok (c3 r v) w := by
          simp only [execOp, Sem.run_bind, Instr.loadAt] at e1
          have ev : a.eval (.tmp q) = a.tmps.getD q undef := rfl
          rw [ev] at e1
          cases hq : a.tmps.getD q undef with
          | pointer p => cases p with
            | some p =>
              rw [hq] at e1
              simp only [Instr.sureAddr, Sem.run_pure, Result.andThen_ok] at e1
              simp only [Sem.run_bind, asAddr, Sem.run_pure, Result.andThen_ok]
              cases hr : (loadVar t p).run P w with
              | ok z w' => rw [hr] at e1; simp only [Result.andThen_ok] at e1; cases e1; rfl
              | halt z w' => rw [hr] at e1; cases e1
            | none => rw [hq] at e1; cases e1
          | _ => rw [hq] at e1; cases e1
        simp only [List.mapM_cons, Sem.run_bind, resAt] at e1' ⊢
        rw [e1']
        simp only [Result.andThen_ok, f1, Sem.run_pure]
        rfl
      · intro u hu
        rcases List.mem_cons.1 hu with rfl | hu
        · exact ⟨e2, ht⟩
        · exact f2 u hu
theorem tupK_ok {vs : List Value} {k : Value → Prop} (h : tupK vs k) (hs : ∀ v ∈ vs, s3 s.h.length v ∧ notTup v = true) :
    ∃ v, retOf (vs.map (c3 r)) = c3 r v ∧ s3 s.h.length v ∧ k v := by
  have key : ∀ v ∈ vs, c3 r v = c2 r v ∧ s2 s.h.length v := by
    intro v hv
    obtain ⟨h1, h2⟩ := hs v hv
    have := s2_simple h1 (notTup_ne h2)
    exact ⟨c3_of_s2 this, this⟩
  match vs, h, hs, key with
  | [], h, _, _ => exact ⟨_, by simp [retOf, c3], by intro x hx; simp at hx, h⟩
  | [v], h, hs, _ => exact ⟨v, rfl, (hs v (by simp)).1, h⟩
  | v :: u :: t, h, _, key =>
    refine ⟨_, ?_, by exact fun x hx => (key x hx).2, h⟩
    simp only [List.map_cons, retOf]
    rw [show c3 r (.tuple ⟨v :: u :: t⟩) = .tuple ((⟨v :: u :: t⟩ : Array Value).map (c2 r)) from rfl]
    congr 1
    apply Array.ext'
    simp only [Array.toList_map, List.map_cons]
    rw [(key v (by simp)).1, (key u (by simp)).1]
    congr 2
    exact List.map_congr_left fun x hx => (key x (by simp [hx])).1

/-! ## The marks that ranges over functions leave behind -/
def unmark (h : List Obj) (d : List Nat) : List Obj := match d with
  | [] => h
  | i :: d => unmark (h.set i (.coro none)) d
theorem RepH.unmark1 {h : List Obj} (R : RepH G r h w) {i : Nat} {o : Option (List Deferred)} (hi : h[i]? = some (.deferred o)) :
    RepH G r (h.set i (.coro none)) { w with heap := w.heap.setIfInBounds (r i) (.deferred none) } := by
  have hlt : i < h.length := (List.getElem?_eq_some_iff.1 hi).1
  have old : ∀ j u, (h.set i (.coro none))[j]? = some u → (j ≠ i ∧ h[j]? = some u) ∨ (j = i ∧ u = .coro none) := by
    intro j u hj
    rw [List.getElem?_set] at hj
    by_cases e : i = j
    · rw [if_pos e, if_pos hlt] at hj
      cases hj; exact .inr ⟨e.symm, rfl⟩
    · rw [if_neg e] at hj; exact .inl ⟨fun h => e h.symm, hj⟩
  have ne : ∀ j u, h[j]? = some u → j ≠ i → alive u = true → r i ≠ r j := fun j u hj hji ha e => hji (R.inj i j _ u hi hj rfl ha e).symm
  refine ⟨fun j u hj => ?_, fun j l u v hj hl hh ha hr => ?_, fun j u hj v hv => ?_, fun g u hg => ?_⟩
  · rcases old j u hj with ⟨h1, h2⟩ | ⟨rfl, rfl⟩
    · by_cases ha : alive u = true
      · refine ObjOk.congr (h := h) (fun _ _ => rfl) (R.sc j u h2) ?_ (R.ok j u h2)
        simp [ne j u h2 h1 ha]
      · cases u <;> first | trivial | (simp [alive] at ha)
    · trivial
  · rcases old j u hj with ⟨h1, h2⟩ | ⟨rfl, rfl⟩
    · rcases old l v hl with ⟨g1, g2⟩ | ⟨rfl, rfl⟩
      · exact R.inj j l u v h2 g2 hh ha hr
      · cases ha
    · cases hh
  · rw [List.length_set]
    rcases old j u hj with ⟨h1, h2⟩ | ⟨rfl, rfl⟩
    · exact R.sc j u h2 v hv
    · cases hv
  · obtain ⟨⟨c', t', f', rfl, h1, f'', h2⟩, h3⟩ := R.gl g u hg
    have hne : r i ≠ g := h3 i _ hi rfl
    refine ⟨⟨c', t', f', rfl, h1, f'', by simp [hne, h2]⟩, fun j u hj hh => ?_⟩
    rcases old j u hj with ⟨g1, g2⟩ | ⟨rfl, rfl⟩
    · exact h3 j u g2 hh
    · cases hh
/-- a heap of which marks have been taken -/
structure Taken (r : Ren) (d : List Nat) (h : List Obj) (w : World) (h' : List Obj) (w' : World) : Prop where
  len : h'.length = h.length
  keep : Keep (HotSet r h) w w'
  own : ∀ k, HotSet r h' k → HotSet r h k
  same : ∀ i, i ∉ d → h'[i]? = h[i]?
theorem leaves_marks {fn : Func} {tmps : Array Value} {E : Ending → World → Prop} : ∀ (d : List Nat) (h : List Obj) (w : World), RepH G r h w → (∀ i ∈ d, ∃ o, h[i]? = some (.deferred o)) → d.Nodup →
    (∀ h' w', RepH G r h' w' → Taken r d h w h' w' → ∃ v, (results fn tmps).run P w' = .ok v w' ∧ E (.returned v) w') →
    LeavesInM Fence.wide 0 P fn tmps E (d.map (markOf r)) .returning w := by
  intro d
  induction d with
  | nil =>
    intro h w R _ _ hE
    exact hE h w R ⟨rfl, Keep.refl _ _, fun _ h => h, fun _ _ => rfl⟩
  | cons i d ih =>
    intro h w R hd hn hE
    obtain ⟨o, ho⟩ := hd i (by simp)
    have hw : w.heap[r i]? = some (.deferred (some [])) := R.ok i _ ho
    have hlt : i < h.length := (List.getElem?_eq_some_iff.1 ho).1
    refine ⟨by simp, .inl ⟨r i, { w with heap := w.heap.setIfInBounds (r i) (.deferred none) }, rfl, ?_, ?_⟩⟩
    · simp [Instr.takeDeferred, getObj, setObj, Sem.run, bind, Sem.bind, hw, pure]
    · refine ih _ _ (R.unmark1 ho) ?_ (List.nodup_cons.1 hn).2 ?_
      · intro j hj
        obtain ⟨o', ho'⟩ := hd j (by simp [hj])
        have : i ≠ j := by rintro rfl; exact (List.nodup_cons.1 hn).1 hj
        exact ⟨o', by rw [List.getElem?_set_ne this]; exact ho'⟩
      · intro h' w' R' t
        refine hE h' w' R' ⟨by rw [t.len, List.length_set], ?_, ?_, ?_⟩
        · refine ⟨t.keep.os, t.keep.tape, t.keep.output, by have := t.keep.size; simpa using this, fun k hk hs => ?_⟩
          have hne : r i ≠ k := fun e => hs ⟨i, _, ho, rfl, e⟩
          rw [t.keep.block k (by simpa using hk) ?_]
          · simp [hne]
          · rintro ⟨j, u, hj, hh, e⟩
            rw [List.getElem?_set] at hj
            by_cases q : i = j
            · rw [if_pos q, if_pos hlt] at hj; cases hj; cases hh
            · rw [if_neg q] at hj; exact hs ⟨j, u, hj, hh, e⟩
        · intro k hk
          obtain ⟨j, u, hj, hh, e⟩ := t.own k hk
          rw [List.getElem?_set] at hj
          by_cases q : i = j
          · rw [if_pos q, if_pos hlt] at hj; cases hj; cases hh
          · rw [if_neg q] at hj; exact ⟨j, u, hj, hh, e⟩
        · intro j hj
          have h1 : i ≠ j := fun e => hj (by simp [e])
          rw [t.same j (fun h => hj (List.mem_cons_of_mem _ h)), List.getElem?_set_ne h1]
end
end Go.Proofs.YtjpjnjidchdlbaaDoor
