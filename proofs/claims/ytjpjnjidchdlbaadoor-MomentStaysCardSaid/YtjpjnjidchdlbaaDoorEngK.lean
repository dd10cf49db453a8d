/-
  A call that is owed, from the function's body; calls from greater heaps (no condition).
-/
import Derived.Test.YtjpjnjidchdlbaaDoorEngJ
namespace Go.Proofs.YtjpjnjidchdlbaaDoor
set_option linter.unusedSimpArgs false
set_option linter.unusedVariables false
open Go Go.RowKit

/-! ## Names put for names -/
theorem cA_rA (r t : Ren) (a : Addr) : cA r (rA t a) = cA (r ∘ t) a := by
  obtain ⟨b, o, sp⟩ := a
  cases sp <;> rfl
theorem c0_r0 (r t : Ren) (v : Value) : c0 r (r0 t v) = c0 (r ∘ t) v := by
  cases v with
  | pointer p => cases p with
    | none => rfl
    | some p => simp only [r0, c0, cA_rA]
  | slice p l c => cases p with
    | none => rfl
    | some p => simp only [r0, c0, cA_rA]
  | map p => cases p with
    | none => rfl
    | some p => rfl
  | _ => rfl
theorem c1_r1 (r t : Ren) (v : Value) : c1 r (r1 t v) = c1 (r ∘ t) v := by
  have hm : ∀ cs : Array Value, (cs.map (r0 t)).map (c0 r) = cs.map (c0 (r ∘ t)) := by
    intro cs; rw [Array.map_map]; congr 1; funext x; exact c0_r0 r t x
  cases v with
  | func f fs cs => simp only [r1, c1, hm]
  | pointer p => cases p with
    | none => rfl
    | some p => exact c0_r0 r t (.pointer (some p))
  | slice p l c => cases p with
    | none => rfl
    | some p => exact c0_r0 r t (.slice (some p) l c)
  | map p => cases p with
    | none => rfl
    | some p => exact c0_r0 r t (.map (some p))
  | _ => rfl
theorem c2_r2 (r t : Ren) (v : Value) : c2 r (r2 t v) = c2 (r ∘ t) v := by
  cases v with
  | agg cs =>
    simp only [r2, c2, Array.map_map]
    congr 2; funext x; exact c1_r1 r t x
  | func f fs cs => exact c1_r1 r t (.func f fs cs)
  | pointer p => cases p with
    | none => rfl
    | some p => exact c1_r1 r t (.pointer (some p))
  | slice p l c => cases p with
    | none => rfl
    | some p => exact c1_r1 r t (.slice (some p) l c)
  | map p => cases p with
    | none => rfl
    | some p => exact c1_r1 r t (.map (some p))
  | _ => rfl
theorem c3_r3 (r t : Ren) (v : Value) : c3 r (r3 t v) = c3 (r ∘ t) v := by
  cases v with
  | tuple cs =>
    simp only [r3, c3, Array.map_map]
    congr 2; funext x; exact c2_r2 r t x
  | agg cs => exact c2_r2 r t (.agg cs)
  | func f fs cs => exact c2_r2 r t (.func f fs cs)
  | pointer p => cases p with
    | none => rfl
    | some p => exact c2_r2 r t (.pointer (some p))
  | slice p l c => cases p with
    | none => rfl
    | some p => exact c2_r2 r t (.slice (some p) l c)
  | map p => cases p with
    | none => rfl
    | some p => exact c2_r2 r t (.map (some p))
  | _ => rfl
theorem s0_r0 {n m : Nat} {t : Ren} (ht : ∀ i, i < n → t i < m) {v : Value} (h : s0 n v) : s0 m (r0 t v) := by
  have key : ∀ a : Addr, sA n a → sA m (rA t a) := by
    intro a ha
    obtain ⟨b, o, sp⟩ := a
    cases sp with
    | none => intro s hs; cases hs
    | some q => intro s hs; exact ht b (ha q rfl)
  cases v with
  | pointer p => cases p with
    | none => trivial
    | some p => exact key p h
  | slice p l c => cases p with
    | none => trivial
    | some p => exact key p h
  | map p => cases p with
    | none => trivial
    | some p => exact ht p h
  | agg _ => exact h.elim
  | tuple _ => exact h.elim
  | func _ _ _ => exact h.elim
  | _ => trivial
theorem s1_r1 {n m : Nat} {t : Ren} (ht : ∀ i, i < n → t i < m) {v : Value} (h : s1 n v) : s1 m (r1 t v) := by
  cases v with
  | func f fs cs =>
    refine ⟨fun x hx => ?_, fun x hx => ?_⟩
    · simp only [Array.toList_map, List.mem_map] at hx
      obtain ⟨y, hy, rfl⟩ := hx
      exact s0_r0 ht (h.1 y hy)
    · simp only [Array.toList_map, List.mem_map] at hx
      obtain ⟨y, hy, rfl⟩ := hx
      exact s0_r0 ht (h.2 y hy)
  | pointer p => cases p with
    | none => trivial
    | some p => exact s0_r0 (v := .pointer (some p)) ht h
  | slice p l c => cases p with
    | none => trivial
    | some p => exact s0_r0 (v := .slice (some p) l c) ht h
  | map p => cases p with
    | none => trivial
    | some p => exact s0_r0 (v := .map (some p)) ht h
  | agg _ => exact h.elim
  | tuple _ => exact h.elim
  | _ => trivial
theorem s2_r2 {n m : Nat} {t : Ren} (ht : ∀ i, i < n → t i < m) {v : Value} (h : s2 n v) : s2 m (r2 t v) := by
  cases v with
  | agg cs =>
    intro x hx
    simp only [Array.toList_map, List.mem_map] at hx
    obtain ⟨y, hy, rfl⟩ := hx
    exact s1_r1 ht (h y hy)
  | func f fs cs => exact s1_r1 (v := .func f fs cs) ht h
  | pointer p => cases p with
    | none => trivial
    | some p => exact s1_r1 (v := .pointer (some p)) ht h
  | slice p l c => cases p with
    | none => trivial
    | some p => exact s1_r1 (v := .slice (some p) l c) ht h
  | map p => cases p with
    | none => trivial
    | some p => exact s1_r1 (v := .map (some p)) ht h
  | tuple _ => exact h.elim
  | _ => trivial
theorem s3_r3 {n m : Nat} {t : Ren} (ht : ∀ i, i < n → t i < m) {v : Value} (h : s3 n v) : s3 m (r3 t v) := by
  cases v with
  | tuple cs =>
    intro x hx
    simp only [Array.toList_map, List.mem_map] at hx
    obtain ⟨y, hy, rfl⟩ := hx
    exact s2_r2 ht (h y hy)
  | agg cs => exact s2_r2 (v := .agg cs) ht h
  | func f fs cs => exact s2_r2 (v := .func f fs cs) ht h
  | pointer p => cases p with
    | none => trivial
    | some p => exact s2_r2 (v := .pointer (some p)) ht h
  | slice p l c => cases p with
    | none => trivial
    | some p => exact s2_r2 (v := .slice (some p) l c) ht h
  | map p => cases p with
    | none => trivial
    | some p => exact s2_r2 (v := .map (some p)) ht h
  | _ => trivial
def rO (t : Ren) (o : Obj) : Obj := match o with
  | .cells c e f => .cells (c.map (r1 t)) e f
  | .map es k => .map (es.map fun e => { key := e.key, val := r1 t e.val, born := e.born }) k
  | .loop l => .loop { l with tmps := l.tmps.map (r1 t) }
  | o => o
theorem isMark_r1 (t : Ren) (v : Value) : isMark (r1 t v) = isMark v := by
  cases v with
  | pointer p => cases p <;> rfl
  | slice p l c => cases p <;> rfl
  | map p => cases p <;> rfl
  | _ => rfl
theorem LoopOk_rO {r t : Ren} {b : Nat} {l : Loop} {w : World} : LoopOk r b { l with tmps := l.tmps.map (r1 t) } w ↔ LoopOk (r ∘ t) b l w := by
  constructor
  · rintro ⟨e, arr, d, h1, h2, h3⟩
    refine ⟨e, arr, d, h1, by simpa using h2, fun i v hv hm => ?_⟩
    have := h3 i (r1 t v) (by simp [hv]) (by rw [isMark_r1]; exact hm)
    rw [this, c1_r1]
  · rintro ⟨e, arr, d, h1, h2, h3⟩
    refine ⟨e, arr, d, h1, by simpa using h2, fun i v hv hm => ?_⟩
    simp only [Array.getElem?_map, Option.map_eq_some_iff] at hv
    obtain ⟨u, hu, rfl⟩ := hv
    rw [isMark_r1] at hm
    rw [h3 i u hu hm, c1_r1]
theorem ObjOk_rO {r t : Ren} {b : Nat} {o : Obj} {w : World} : ObjOk r b (rO t o) w ↔ ObjOk (r ∘ t) b o w := by
  cases o with
  | cells c e f =>
    have : (c.map (r1 t)).map (c1 r) = c.map (c1 (r ∘ t)) := by
      rw [Array.map_map]; congr 1; funext x; exact c1_r1 r t x
    simp only [rO, ObjOk, this]
  | map es k =>
    have : (es.map fun e => ({ key := e.key, val := r1 t e.val, born := e.born } : MapEntry)).map (fun e => ({ key := e.key, val := c1 r e.val, born := e.born } : MapEntry)) = es.map (fun e => { key := e.key, val := c1 (r ∘ t) e.val, born := e.born }) := by
      rw [Array.map_map]; congr 1; funext x; simp [c1_r1 r t x.val]
    simp only [rO, ObjOk, this]
  | loop l => exact LoopOk_rO
  | _ => exact Iff.rfl
theorem hot_rO (t : Ren) (o : Obj) : hot (rO t o) = hot o := by cases o <;> rfl
theorem alive_rO (t : Ren) (o : Obj) : alive (rO t o) = alive o := by cases o <;> rfl

theorem map_self (f : Value → Value) (c : Array Value) (h : ∀ y ∈ c.toList, f y = y) : c.map f = c := by
  have := Array.map_congr_left (g := id) (xs := c) (f := f) fun y hy => h y (Array.mem_toList_iff.2 hy)
  rw [this]; simp
theorem r0_id {n : Nat} {t : Ren} (ht : ∀ i, i < n → t i = i) {v : Value} (h : s0 n v) : r0 t v = v := by
  have key : ∀ a : Addr, sA n a → rA t a = a := by
    intro a ha
    obtain ⟨b, o, sp⟩ := a
    cases sp with
    | none => rfl
    | some q => simp only [rA]; rw [ht b (ha q rfl)]
  cases v with
  | pointer p => cases p with
    | none => rfl
    | some p => simp only [r0]; rw [key p h]
  | slice p l c => cases p with
    | none => rfl
    | some p => simp only [r0]; rw [key p h]
  | map p => cases p with
    | none => rfl
    | some p => simp only [r0]; rw [ht p h]
  | _ => rfl
theorem r1_id {n : Nat} {t : Ren} (ht : ∀ i, i < n → t i = i) {v : Value} (h : s1 n v) : r1 t v = v := by
  cases v with
  | func f fs cs =>
    have h1 : fs.map (r0 t) = fs := map_self _ _ fun y hy => r0_id ht (h.1 y hy)
    have h2 : cs.map (r0 t) = cs := map_self _ _ fun y hy => r0_id ht (h.2 y hy)
    simp only [r1, h1, h2]
  | pointer p => cases p with
    | none => rfl
    | some p => exact r0_id (v := .pointer (some p)) ht h
  | slice p l c => cases p with
    | none => rfl
    | some p => exact r0_id (v := .slice (some p) l c) ht h
  | map p => cases p with
    | none => rfl
    | some p => exact r0_id (v := .map (some p)) ht h
  | _ => rfl
theorem rO_id {n : Nat} {t : Ren} (ht : ∀ i, i < n → t i = i) {o : Obj} (h : ∀ v ∈ cellsOf o, s1 n v) : rO t o = o := by
  cases o with
  | cells c e f =>
    have : c.map (r1 t) = c := map_self _ _ fun y hy => r1_id ht (h y hy)
    simp only [rO, this]
  | map es k =>
    have : es.map (fun e => ({ key := e.key, val := r1 t e.val, born := e.born } : MapEntry)) = es := by
      rw [Array.map_congr_left (g := id)]
      · simp
      · intro y hy
        rw [r1_id ht (h y.val (by simp only [cellsOf, List.mem_map]; exact ⟨y, Array.mem_toList_iff.2 hy, rfl⟩))]; rfl
    simp only [rO, this]
  | loop l =>
    have : l.tmps.map (r1 t) = l.tmps := map_self _ _ fun y hy => r1_id ht (h y hy)
    simp only [rO, this]
  | _ => rfl
/-- a block may be known to be read alone -/
def ObjLe (a b : Obj) : Prop := a = b ∨ (∃ (c : Array Value) (e : TypeId) (f g : Nat × Nat), a = .cells c e f ∧ f.1 ≠ 0 ∧ b = .cells c e g) ∨
  ∃ (c : Array Value) (e : TypeId) (g : Nat × Nat), a = .pending c e ∧ (∀ x ∈ c.toList, cleanV x = true) ∧ b = .cells c e g
theorem ObjOk.le {r : Ren} {b : Nat} {o o' : Obj} {w : World} (h : ObjOk r b o' w) (hl : ObjLe o o') : ObjOk r b o w := by
  rcases hl with rfl | ⟨c, e, f, g, rfl, hf, rfl⟩ | ⟨c, e, g, rfl, hc, rfl⟩
  · exact h
  rotate_left
  · have hm : c.map (c1 r) = c := map_self _ _ fun y hy => clean_c1 (hc y hy) r
    simp only [ObjOk, hm] at h ⊢
    split at h
    · exact ⟨_, h⟩
    · exact h
  · simp only [ObjOk, if_neg hf] at h ⊢
    split at h
    · exact ⟨_, h⟩
    · exact h
theorem RepH.pick {G : List (Nat × Obj)} {r t : Ren} {h h' : List Obj} {w : World} (R : RepH G r h w) (hok : ∀ (i : Nat) (o : Obj), h'[i]? = some o → ∃ o', h[t i]? = some o' ∧ ObjLe (rO t o) o')
    (hinj : ∀ (i j : Nat) (o u : Obj), h'[i]? = some o → h'[j]? = some u → hot o = true → alive u = true → t i = t j → i = j)
    (hsc : ∀ (i : Nat) (o : Obj), h'[i]? = some o → ∀ v ∈ cellsOf o, s1 h'.length v) : RepH G (r ∘ t) h' w := by
  have hhot : ∀ (i : Nat) (o : Obj), h'[i]? = some o → hot o = true → ∃ o', h[t i]? = some o' ∧ hot o' = true := by
    intro i o hi hh
    obtain ⟨o', h1, h2⟩ := hok i o hi
    refine ⟨o', h1, ?_⟩
    rcases h2 with e | ⟨c, e, f, g, h3, h4, _⟩ | ⟨c, e, g, h3, _, _⟩
    · rw [← e, hot_rO]; exact hh
    rotate_left
    · have := hot_rO t o
      rw [h3, hh] at this
      simp [hot] at this
    · have := hot_rO t o
      rw [h3, hh] at this
      simp [hot] at this
      exact absurd this h4
  refine ⟨fun i o hi => ?_, fun i j o u hi hj hh ha hr => ?_, hsc, fun g o hg => ⟨(R.gl g o hg).1, fun i u hi hh => ?_⟩⟩
  · obtain ⟨o', h1, h2⟩ := hok i o hi
    exact ObjOk_rO.1 ((R.ok _ _ h1).le h2)
  · obtain ⟨o', h1, h2⟩ := hhot i o hi hh
    obtain ⟨u', h3, h4⟩ := hok j u hj
    have ha' : alive u' = true := by
      rcases h4 with e | ⟨c, e, f, g, _, _, rfl⟩ | ⟨c, e, g, _, _, rfl⟩
      · rw [← e, alive_rO]; exact ha
      · rfl
      · rfl
    exact hinj i j o u hi hj hh ha (R.inj _ _ _ _ h1 h3 h2 ha' hr)
  · obtain ⟨o', h1, h2⟩ := hhot i u hi hh
    exact (R.gl g o hg).2 _ _ h1 h2

/-! ## From the body to the call -/
/-- names: those below n stay; behind them come those of l -/
def tau (n : Nat) (l : List Nat) : Ren := fun i => if i < n then i else l.getD (i - n) 0
/-- what a body leaves, told in names of its own -/
def Fin (h0 : List Obj) (k : Value → List Obj → Prop) (v : Value) (s : St) : Prop :=
  ∃ (h1 : List Obj) (sel : List Nat) (u : Value) (news : List Obj), v = r3 (tau h0.length sel) u ∧ s3 (h0.length + sel.length) u ∧ h1.length = h0.length ∧
    (∀ (i : Nat) (o : Obj), h1[i]? = some o → (h0[i]? = some o ∧ s.h[i]? = some o) ∨ (s.h[i]? = some (rO (tau h0.length sel) o) ∧ ∀ x ∈ cellsOf o, s1 (h0.length + sel.length) x)) ∧ news.length = sel.length ∧
    (∀ (j : Nat) (o : Obj), news[j]? = some o → ((∃ c t f, o = .cells c t f) ∨ ∃ es n, o = .map es n) ∧ (∀ x ∈ cellsOf o, s1 (h0.length + sel.length) x) ∧ h0.length ≤ sel.getD j 0 ∧ s.h[sel.getD j 0]? = some (rO (tau h0.length sel) o)) ∧
    sel.Nodup ∧ k u (h1 ++ news)
def nodupB (l : List Nat) : Bool := match l with
  | [] => true
  | i :: l => !(l.contains i) && nodupB l
theorem nodupB_ok : ∀ {l : List Nat}, nodupB l = true → l.Nodup := by
  intro l
  induction l with
  | nil => intro _; exact List.nodup_nil
  | cons i l ih =>
    intro h
    simp only [nodupB, Bool.and_eq_true, Bool.not_eq_true', List.contains_eq_mem, decide_eq_false_iff_not] at h
    exact List.nodup_cons.2 ⟨h.1, ih h.2⟩
/-- the marks are the callee's own, each once -/
def marksB (n : Nat) (d : List Nat) : Bool := nodupB d && d.all fun i => Nat.ble n i
/-- what a call of fn owes, by its body -/
def BodyOk (P : Program) (T : Tab) (G : List (Nat × Obj)) (fn : Func) (args : List Value) (h0 : List Obj) (k : Value → List Obj → Prop) : Prop :=
  bodyK P T G fn args h0 fun v s => marksB h0.length s.d = true ∧ Fin h0 k v s

section
variable {P : Program} {T : Tab} {G : List (Nat × Obj)} {ro : Option Nat} {r : Ren} {s : St} {a : Act} {w : World}
theorem rowK_ok : ∀ (n : Nat) (l : List Value) (m : Nat) (k : List Value → List Value → Nat → Prop), rowK n l m k →
    ∃ row l' m', row.length ≤ n ∧ (row.length < n → l' = [] ∧ m' = 0) ∧ row ++ l' ++ List.replicate m' undef = l ++ List.replicate m undef ∧ k row l' m' := by
  intro n
  induction n with
  | zero => intro l m k h; exact ⟨[], l, m, by simp, by simp, rfl, h⟩
  | succ n ih =>
    intro l m k h
    cases l with
    | cons v l =>
      obtain ⟨row, l', m', h1, h2, h3, h4⟩ := ih l m _ h
      exact ⟨v :: row, l', m', by simp; omega, fun hh => h2 (by simp at hh; omega), by simpa using h3, h4⟩
    | nil =>
      cases m with
      | zero => exact ⟨[], [], 0, by simp, fun _ => ⟨rfl, rfl⟩, rfl, h⟩
      | succ m =>
        obtain ⟨row, l', m', h1, h2, h3, h4⟩ := ih [] m _ h
        exact ⟨undef :: row, l', m', by simp; omega, fun hh => h2 (by simp at hh; omega), by simpa [List.replicate_succ] using h3, h4⟩
theorem rowsK_ok : ∀ (n : Nat) (l : List Value) (m : Nat) (k : List (List Value) → Prop), rowsK n l m k →
    ∃ t, (∀ i v, get2 t i = some v → (l ++ List.replicate m undef)[i]? = some v) ∧ k t := by
  intro n
  induction n with
  | zero => intro l m k h; exact ⟨[], fun i v hv => by simp [get2] at hv, h⟩
  | succ n ih =>
    intro l m k h
    rw [rowsK_s] at h
    obtain ⟨row, l', m', h1, h2, h3, h4⟩ := rowK_ok 16 l m _ h
    obtain ⟨t, h5, h6⟩ := ih l' m' _ h4
    refine ⟨row :: t, fun i v hv => ?_, h6⟩
    rw [← h3, List.append_assoc]
    unfold get2 at hv
    by_cases hi : i < 16
    · have e1 : i / 16 = 0 := by omega
      have e2 : i % 16 = i := by omega
      rw [e1, e2] at hv
      simp only [List.getElem?_cons_zero, Option.bind_some] at hv
      rw [List.getElem?_append_left (List.getElem?_eq_some_iff.1 hv).1]
      exact hv
    · obtain ⟨q, hq⟩ : ∃ q, i / 16 = q + 1 := ⟨i / 16 - 1, by omega⟩
      rw [hq] at hv
      simp only [List.getElem?_cons_succ] at hv
      by_cases hr : row.length < 16
      · obtain ⟨rfl, rfl⟩ := h2 hr
        have : get2 t (i - 16) = some v := by
          unfold get2; rw [show (i - 16) / 16 = q from by omega, show (i - 16) % 16 = i % 16 from by omega]; exact hv
        have := h5 _ _ this
        simp at this
      · have hl : row.length = 16 := by omega
        rw [List.getElem?_append_right (by omega), hl]
        refine h5 (i - 16) v ?_
        unfold get2; rw [show (i - 16) / 16 = q from by omega, show (i - 16) % 16 = i % 16 from by omega]; exact hv
theorem ac_of_body (hT : TabOk P T) {f : FuncId} {fn : Func} {args : List Value} {h0 : List Obj} {k : Value → List Obj → Prop} (hf : Has P f fn) (h : BodyOk P T G fn args h0 k)
    : AC P G f args h0 k := by
  unfold AC
  refine ⟨⟨fn, hf⟩, fun r w R hargs => ?_⟩
  obtain ⟨hf1, hf2, hf3⟩ := hf
  unfold BodyOk bodyK at h
  cases hb : fn.body with
  | none => rw [hb] at h; exact h.elim
  | some c =>
    rw [hb] at h
    obtain ⟨t, ht, h⟩ := rowsK_ok _ _ _ _ h
    have hrun := run_ok (ro := none) hT c _ _ h
    let A0 : Act := { tmps := (args.map (c3 r)).toArray ++ Array.replicate (fn.ntmps - (args.map (c3 r)).toArray.size) undef, defers := [] }
    have hsz : (args.map (c3 r)).toArray.size = args.length := by simp
    have RS : RepS G r ⟨t, h0, []⟩ A0 w := by
      refine ⟨R, fun i v hv => ?_, rfl, fun i hi => by cases hi⟩
      have h1 := ht i v hv
      have hA : A0.tmps.toList = (args ++ List.replicate (fn.ntmps - args.length) undef).map (c3 r) := by
        simp only [A0, hsz]
        simp [c3, undef]
      have h2 : A0.tmps.toList[i]? = some (c3 r v) := by rw [hA, List.getElem?_map, h1]; rfl
      have h3 : A0.tmps[i]? = some (c3 r v) := by simpa using h2
      refine ⟨(Array.getElem?_eq_some_iff.1 h3).1, fun _ => ⟨h3, ?_⟩⟩
      rcases List.mem_append.1 (List.mem_of_getElem? h1) with h4 | h4
      · exact hargs v h4
      · rw [(List.mem_replicate.1 h4).2]; intro x hx; simp at hx
    refine callsIn_wide.1 (callsIn_of_wp_marks (n := 0) hf1 hb trivial ?_ rfl)
    refine wpIn_mono (aw_out hrun RS) ?_
    have fin : ∀ r' s' a' w', Step r h0 w r' s'.h w' → RepS G r' s' a' w' → (resK T s' fn.results.toList fun l => tupK l fun v => marksB h0.length s'.d = true ∧ Fin h0 k v s') →
        LeavesInM Fence.wide 0 P fn a'.tmps (fun e w' => ∃ r' h' v, Step r h0 w r' h' w' ∧ RepH G r' h' w' ∧ s3 h'.length v ∧ e = .returned (c3 r' v) ∧ k v h') a'.defers .returning w' := by
      intro r' s' a' w' S R' hk
      have hk0 := hk
      obtain ⟨vs0, _, _, hk1⟩ := resK_ok hT R' _ _ hk0
      have hmk : marksB h0.length s'.d = true := by
        match vs0, hk1 with
        | [], hk1 => exact hk1.1
        | [v], hk1 => exact hk1.1
        | v :: u :: t, hk1 => exact hk1.1
      have hnd : nodupB s'.d = true := by simp only [marksB, Bool.and_eq_true] at hmk; exact hmk.1
      have hge0 : ∀ i ∈ s'.d, h0.length ≤ i := by
        simp only [marksB, Bool.and_eq_true, List.all_eq_true] at hmk
        exact fun i hi => Nat.le_of_ble_eq_true (hmk.2 i hi)
      rw [R'.dfr]
      refine leaves_marks s'.d s'.h w' R'.heap R'.dok (nodupB_ok hnd) ?_
      intro h2 w2 R2 tk
      have hcell : ∀ (b : Nat) (c : Array Value) (t : TypeId) (f : Nat × Nat), s'.h[b]? = some (.cells c t f) → h2[b]? = some (.cells c t f) := by
        intro b c t f hb
        rw [tk.same b ?_]; exact hb
        intro hd
        obtain ⟨o, ho⟩ := R'.dok b hd
        rw [ho] at hb; cases hb
      have hmap : ∀ (b : Nat) (es : Array MapEntry) (n : Nat), s'.h[b]? = some (.map es n) → h2[b]? = some (.map es n) := by
        intro b es n hb
        rw [tk.same b ?_]; exact hb
        intro hd
        obtain ⟨o, ho⟩ := R'.dok b hd
        rw [ho] at hb; cases hb
      have RS2 : RepS G r' ⟨s'.t, h2, []⟩ { a' with defers := [] } w2 := by
        refine ⟨R2, fun i v hv => ?_, rfl, fun i hi => by cases hi⟩
        obtain ⟨q1, q2⟩ := R'.tmp i v hv
        exact ⟨q1, fun hm => ⟨(q2 hm).1, by rw [tk.len]; exact (q2 hm).2⟩⟩
      have hres : ∀ (l : List ResultVar) (k1 k2 : List Value → Prop), (∀ x, k1 x → k2 x) → resK T s' l k1 → resK T ⟨s'.t, h2, []⟩ l k2 := by
        intro l
        induction l with
        | nil => intro k1 k2 hk h; exact hk _ h
        | cons x l ih =>
          intro k1 k2 hkk h
          cases x with
          | tmp q =>
            simp only [resK_t, evK, nthK_iff] at h ⊢
            obtain ⟨row, g1, v, g2, g3⟩ := h
            refine ⟨row, g1, v, g2, ?_⟩
            cases v <;> first
              | exact g3.elim
              | (simp only [need_iff] at g3 ⊢; exact ⟨g3.1, ih _ _ (fun x hx => hkk _ hx) g3.2⟩)
          | cell q ty =>
            simp only [resK_c, ldK, evK, nthK_iff] at h ⊢
            obtain ⟨row, g1, v, g2, g3⟩ := h
            refine ⟨row, g1, v, g2, ?_⟩
            cases v <;> first | exact g3.elim | skip
            rename_i p
            cases p with
            | none => exact g3.elim
            | some p =>
              simp only [tiK_iff] at g3 ⊢
              obtain ⟨i, z1, z2, z3⟩ := g3
              refine ⟨i, z1, z2, ?_⟩
              have hp : ∀ c, (partK c p.off i.agg i.size fun v => need (notTup v) (resK T s' l fun vs => k1 (v :: vs))) → partK c p.off i.agg i.size fun v => need (notTup v) (resK T ⟨s'.t, h2, []⟩ l fun vs => k2 (v :: vs)) := by
                intro c hc
                cases hg : i.agg <;> rw [hg] at hc <;> simp only [partK, dropK_iff, takeK_iff, nthK_iff, need_iff] at hc ⊢
                · obtain ⟨u, y1, y2, y3⟩ := hc
                  exact ⟨u, y1, y2, ih _ _ (fun x hx => hkk _ hx) y3⟩
                · exact ⟨hc.1, hc.2.1, hc.2.2.1, ih _ _ (fun x hx => hkk _ hx) hc.2.2.2⟩
              obtain ⟨b, o, sp⟩ := p
              cases sp with
              | none => simp only [cellsK, glK_n] at z3
              | some sp =>
                simp only [cellsK, nthK_iff] at z3 ⊢
                obtain ⟨ob, y1, y2⟩ := z3
                cases ob with
                | cells c t f => exact ⟨_, hcell b c t f y1, hp _ y2⟩
                | _ => exact y2.elim
      have hk2 := hres _ _ _ (fun x hx => hx) hk
      obtain ⟨vs, f1, f2, hk2⟩ := resK_ok hT RS2 _ _ hk2
      obtain ⟨v, g1, g2, _, h1, sel, u, news, rfl, e2, e0, e3, e4, e5, e6, e7⟩ := tupK_ok hk2 f2
      have hrr := results_eq fn a'.tmps w2 f1
      have hid : ∀ i, i < h0.length → tau h0.length sel i = i := fun i hi => by simp only [tau, if_pos hi]
      have e3' : ∀ (i : Nat) (o : Obj), h1[i]? = some o → s'.h[i]? = some (rO (tau h0.length sel) o) ∧ ∀ x ∈ cellsOf o, s1 (h0.length + sel.length) x := by
        intro i o hi
        rcases e3 i o hi with ⟨q1, q2⟩ | q
        · exact ⟨by rw [rO_id hid (R.sc i _ q1)]; exact q2, fun x hx => s1_mono (by omega) (R.sc i _ q1 x hx)⟩
        · exact q
      have at1 : ∀ i, i < h0.length → ∃ o, h1[i]? = some o := fun i hi => ⟨_, List.getElem?_eq_getElem (by omega)⟩
      refine ⟨_, hrr, r' ∘ tau h0.length sel, h1 ++ news, u, ?_, ?_, ?_, ?_, e7⟩
      · refine ⟨by simp; omega, fun i hi => ?_, ⟨tk.keep.os.trans S.keep.os, tk.keep.tape.trans S.keep.tape, tk.keep.output.trans S.keep.output, Nat.le_trans S.keep.size tk.keep.size, fun b hb hs => ?_⟩, ?_, ?_, ?_⟩
        · simp only [Function.comp_apply, tau, if_pos hi]
          exact S.ext i hi
        · rw [tk.keep.block b (Nat.lt_of_lt_of_le hb S.keep.size) ?_]
          · exact S.keep.block b hb hs
          · intro hh
            rcases S.hots hh with q | q
            · exact hs q
            · omega
        · intro i o hi ha hh
          by_cases hlt : i < h0.length
          · rw [List.getElem?_append_left (by omega)] at hi
            rcases hh with hh | hh
            · have := S.own _ _ (e3' i o hi).1 (by rw [alive_rO]; exact ha) (.inl (by rw [hot_rO]; exact hh))
              simpa only [Function.comp_apply, tau, if_pos hlt] using this
            · omega
          · rw [List.getElem?_append_right (by omega)] at hi
            obtain ⟨_, _, q0, q⟩ := e5 _ _ hi
            have := S.own _ _ q (by rw [alive_rO]; exact ha) (.inr q0)
            rw [e0] at this
            simpa only [Function.comp_apply, tau, if_neg hlt] using this
        · intro i o hi ha
          have hlt : i < h0.length := (List.getElem?_eq_some_iff.1 hi).1
          obtain ⟨o1, ho1⟩ := at1 i hlt
          obtain ⟨o', ho', hd⟩ := S.dead i o hi ha
          have := (e3' i o1 ho1).1
          rw [ho'] at this
          cases this
          exact ⟨o1, by rw [List.getElem?_append_left (by omega)]; exact ho1, by rw [← alive_rO (tau h0.length sel)]; exact hd⟩
        · intro i o hi
          have hlt : i < h0.length := (List.getElem?_eq_some_iff.1 hi).1
          obtain ⟨o1, ho1⟩ := at1 i hlt
          have h3 := S.dfr i o hi
          rw [(e3' i o1 ho1).1] at h3
          rw [List.getElem?_append_left (by omega), ho1]
          cases o1 <;> first | (simp only [rO] at h3; exact h3) | (simp [rO] at h3)
      · refine R2.pick ?_ ?_ ?_
        · intro i o hi
          by_cases hlt : i < h0.length
          · rw [List.getElem?_append_left (by omega)] at hi
            refine ⟨_, ?_, .inl rfl⟩
            rw [hid i hlt, tk.same i (fun hd => by have := hge0 i hd; omega)]
            exact (e3' i o hi).1
          · rw [List.getElem?_append_right (by omega)] at hi
            obtain ⟨⟨c, t', f, rfl⟩ | ⟨es, n, rfl⟩, _, _, q⟩ := e5 _ _ hi
            · refine ⟨rO (tau h0.length sel) (.cells c t' f), ?_, .inl rfl⟩
              simp only [tau, if_neg hlt]
              rw [e0] at q
              exact hcell _ _ _ _ q
            · refine ⟨rO (tau h0.length sel) (.map es n), ?_, .inl rfl⟩
              simp only [tau, if_neg hlt]
              rw [e0] at q
              exact hmap _ _ _ q
        · intro i j o u hi hj _ _ he
          have hi' : i < h0.length + sel.length := by
            have := (List.getElem?_eq_some_iff.1 hi).1
            rw [List.length_append, e4, e0] at this; exact this
          have hj' : j < h0.length + sel.length := by
            have := (List.getElem?_eq_some_iff.1 hj).1
            rw [List.length_append, e4, e0] at this; exact this
          have hge : ∀ i o, (h1 ++ news)[i]? = some o → ¬ i < h0.length → h0.length ≤ sel.getD (i - h0.length) 0 := by
            intro i o hi hlt
            rw [List.getElem?_append_right (by omega)] at hi
            have := (e5 _ _ hi).2.2.1
            rw [e0] at this; exact this
          by_cases h1 : i < h0.length
          · by_cases h2 : j < h0.length
            · rw [hid i h1, hid j h2] at he; exact he
            · have := hge j u hj h2
              rw [hid i h1] at he
              simp only [tau, if_neg h2] at he; omega
          · by_cases h2 : j < h0.length
            · have := hge i o hi h1
              rw [hid j h2] at he
              simp only [tau, if_neg h1] at he; omega
            · simp only [tau, if_neg h1, if_neg h2] at he
              have a1 : i - h0.length < sel.length := by omega
              have a2 : j - h0.length < sel.length := by omega
              have : i - h0.length = j - h0.length := by
                refine (List.getElem_inj (h₀ := a1) (h₁ := a2) e6).1 ?_
                simpa [List.getD_eq_getElem?_getD, a1, a2] using he
              omega
        · intro i o hi v hv
          rw [List.length_append, e4, e0]
          by_cases hlt : i < h0.length
          · rw [List.getElem?_append_left (by omega)] at hi
            exact (e3' i o hi).2 v hv
          · rw [List.getElem?_append_right (by omega)] at hi
            exact (e5 _ _ hi).2.1 v hv
      · rw [List.length_append, e4, e0]; exact e2
      · rw [g1, c3_r3]
    rintro e a' w' ⟨r', s', S, R', hk⟩
    cases e with
    | normal => exact fin r' s' a' w' S R' hk
    | ret => exact fin r' s' a' w' S R' hk
    | exit i => exact hk.elim
    | goto i => exact hk.elim
    | panic c => exact hk.elim
    | outgrown => exact hk.elim
end
end Go.Proofs.YtjpjnjidchdlbaaDoor
