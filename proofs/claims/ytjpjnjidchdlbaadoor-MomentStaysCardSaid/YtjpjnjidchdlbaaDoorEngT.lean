/-
  The rules for ranges over functions in a form that is reckoned; what a body leaves, all its new blocks kept.
-/
import Derived.Test.YtjpjnjidchdlbaaDoorEngS
namespace Go.Proofs.YtjpjnjidchdlbaaDoor
set_option linter.unusedSimpArgs false
set_option linter.unusedVariables false
open Go Go.RowKit

section
variable {P : Program} {T : Tab} {G : List (Nat × Obj)} {ro : Option Nat} {s : St}
def mark : Value := .chan none
def keep1K (v : Value) (k : Value → Prop) : Prop := match v with
  | .agg _ => k mark
  | .tuple _ => k mark
  | v => k v
def keepRowK (row rest : List Value) : (List Value → Prop) → Prop :=
  List.rec (motive := fun _ => (List Value → Prop) → Prop) (fun k => k rest) (fun v _ ih k => keep1K v fun v => ih fun l => k (v :: l)) row
theorem keepRowK_s (v : Value) (row rest : List Value) (k : List Value → Prop) : keepRowK (v :: row) rest k = keep1K v fun v => keepRowK row rest fun l => k (v :: l) := rfl
def lenK {α : Type} (l : List α) : Nat → Prop → Prop :=
  List.rec (motive := fun _ => Nat → Prop → Prop) (fun n k => match n with
    | 0 => k
    | _ + 1 => False) (fun _ _ ih n k => match n with
    | 0 => False
    | n + 1 => ih n k) l
theorem lenK_00 {α : Type} (k : Prop) : lenK ([] : List α) 0 k = k := rfl
theorem lenK_01 {α : Type} (n : Nat) (k : Prop) : lenK ([] : List α) (n + 1) k = False := rfl
theorem lenK_10 {α : Type} (a : α) (l : List α) (k : Prop) : lenK (a :: l) 0 k = False := rfl
theorem lenK_11 {α : Type} (a : α) (l : List α) (n : Nat) (k : Prop) : lenK (a :: l) (n + 1) k = lenK l n k := rfl
def leK {α : Type} (l : List α) : Nat → Prop → Prop :=
  List.rec (motive := fun _ => Nat → Prop → Prop) (fun _ k => k) (fun _ _ ih n k => match n with
    | 0 => False
    | n + 1 => ih n k) l
theorem leK_n {α : Type} (n : Nat) (k : Prop) : leK ([] : List α) n k = k := rfl
theorem leK_10 {α : Type} (a : α) (l : List α) (k : Prop) : leK (a :: l) 0 k = False := rfl
theorem leK_11 {α : Type} (a : α) (l : List α) (n : Nat) (k : Prop) : leK (a :: l) (n + 1) k = leK l n k := rfl
theorem leK_iff {α : Type} {k : Prop} : ∀ (l : List α) (n : Nat), leK l n k ↔ l.length ≤ n ∧ k
  | [], _ => by simp [leK_n, leK_10]
  | _ :: l, 0 => by simp [leK_n, leK_10]
  | _ :: l, n + 1 => by simp [leK_11, leK_iff l n]
def flatK (t : List (List Value)) : (List Value → Prop) → Prop :=
  List.rec (motive := fun _ => (List Value → Prop) → Prop) (fun k => k []) (fun row t ih k => match t with
    | [] => leK row 16 (keepRowK row [] k)
    | _ :: _ => lenK row 16 (ih fun l => keepRowK row l k)) t
theorem lenK_iff {α : Type} {k : Prop} : ∀ (l : List α) (n : Nat), lenK l n k ↔ l.length = n ∧ k
  | [], 0 => by simp [lenK_00, lenK_01, lenK_10]
  | [], n + 1 => by simp [lenK_00, lenK_01, lenK_10]
  | _ :: l, 0 => by simp [lenK_00, lenK_01, lenK_10]
  | _ :: l, n + 1 => by simp [lenK_11, lenK_iff l n]
def keep1 (v : Value) : Value := match v with
  | .agg _ => mark
  | .tuple _ => mark
  | v => v
theorem keep1K_iff (v : Value) (k : Value → Prop) : keep1K v k ↔ k (keep1 v) := by cases v <;> exact Iff.rfl
theorem keepRowK_iff : ∀ (row rest : List Value) (k : List Value → Prop), keepRowK row rest k ↔ k (row.map keep1 ++ rest)
  | [], rest, k => Iff.rfl
  | v :: row, rest, k => by simp only [keepRowK_s, keep1K_iff, keepRowK_iff row, List.map_cons, List.cons_append]
theorem keep1_ok {u : Value} (h : isMark (keep1 u) = false) : u = keep1 u ∧ noAgg (keep1 u) = true := by
  cases u <;> first | exact ⟨rfl, rfl⟩ | (simp [keep1, mark, isMark] at h)
theorem flatK_ok : ∀ (t : List (List Value)) (k : List Value → Prop), flatK t k → ∃ fl, k fl ∧ ∀ (i : Nat) (v : Value), fl[i]? = some v → ∃ u, get2 t i = some u ∧ v = keep1 u
  | [], k, h => ⟨[], h, fun i v hv => by simp at hv⟩
  | [row], k, h => by
    have h' : leK row 16 (keepRowK row [] k) := h
    rw [leK_iff, keepRowK_iff] at h'
    refine ⟨_, h'.2, fun i v hv => ?_⟩
    simp only [List.append_nil, List.getElem?_map, Option.map_eq_some_iff] at hv
    obtain ⟨u, hu, rfl⟩ := hv
    have hi : i < row.length := (List.getElem?_eq_some_iff.1 hu).1
    refine ⟨u, ?_, rfl⟩
    unfold get2
    rw [show i / 16 = 0 from by omega, show i % 16 = i from by omega]
    simpa using hu
  | row :: r2 :: t, k, h => by
    have h' : lenK row 16 (flatK (r2 :: t) fun l => keepRowK row l k) := h
    rw [lenK_iff] at h'
    obtain ⟨hl, h'⟩ := h'
    obtain ⟨fl, hk, hf⟩ := flatK_ok (r2 :: t) _ h'
    rw [keepRowK_iff] at hk
    refine ⟨_, hk, fun i v hv => ?_⟩
    by_cases hi : i < 16
    · rw [List.getElem?_append_left (by simp; omega)] at hv
      simp only [List.getElem?_map, Option.map_eq_some_iff] at hv
      obtain ⟨u, hu, rfl⟩ := hv
      refine ⟨u, ?_, rfl⟩
      unfold get2
      rw [show i / 16 = 0 from by omega, show i % 16 = i from by omega]
      simpa using hu
    · rw [List.getElem?_append_right (by simp; omega), List.length_map, hl] at hv
      obtain ⟨u, hu, rfl⟩ := hf _ _ hv
      refine ⟨u, ?_, rfl⟩
      unfold get2 at hu ⊢
      rw [show i / 16 = (i - 16) / 16 + 1 from by omega, show i % 16 = (i - 16) % 16 from by omega, List.getElem?_cons_succ]
      exact hu
def putsK (fl : List Value) (ps : List Nat) : List Value → (List Value → Prop) → Prop :=
  List.rec (motive := fun _ => List Value → List Value → (List Value → Prop) → Prop) (fun fl vs k => match vs with
    | [] => k fl
    | _ :: _ => False) (fun p _ ih fl vs k => match vs with
    | [] => False
    | v :: vs => writeK fl p [v] fun fl => ih fl vs k) ps fl
theorem putsK_01 (fl : List Value) (v : Value) (vs : List Value) (k : List Value → Prop) : putsK fl [] (v :: vs) k = False := rfl
theorem putsK_10 (fl : List Value) (p : Nat) (ps : List Nat) (k : List Value → Prop) : putsK fl (p :: ps) [] k = False := rfl
theorem putsK_11 (fl : List Value) (p : Nat) (ps : List Nat) (v : Value) (vs : List Value) (k : List Value → Prop) : putsK fl (p :: ps) (v :: vs) k = writeK fl p [v] fun fl => putsK fl ps vs k := rfl
theorem putsK_ok : ∀ (ps : List Nat) (vs fl : List Value) (k : List Value → Prop), putsK fl ps vs k → vs.length = ps.length ∧ k (putsL fl (ps.zip vs))
  | [], [], fl, k, h => ⟨rfl, h⟩
  | [], _ :: _, fl, k, h => by simp [putsK_01, putsK_10] at h
  | _ :: _, [], fl, k, h => by simp [putsK_01, putsK_10] at h
  | p :: ps, v :: vs, fl, k, h => by
    simp only [putsK_11, writeK_iff, List.length_cons, List.length_nil] at h
    obtain ⟨h1, h2⟩ := h
    obtain ⟨h3, h4⟩ := putsK_ok ps vs _ _ h2
    refine ⟨by simp [h3], ?_⟩
    rw [show p + (0 + 1) = p + 1 from rfl, set_take (by omega)] at h4
    simpa [putsL] using h4
/-- an object of the heap is turned -/
def setK (h : List Obj) (n : Nat) (o : Obj) (k : List Obj → Prop) : Prop := writeK h n [o] k
theorem setK_ok {h : List Obj} {n : Nat} {o : Obj} {k : List Obj → Prop} (H : setK h n o k) : k (h.set n o) := by
  obtain ⟨h1, h2⟩ := (writeK_iff _ _ _ _).1 H
  simp only [List.length_cons, List.length_nil] at h1 h2
  rw [show n + (0 + 1) = n + 1 from rfl, set_take (by omega)] at h2
  exact h2
def endR (n l : Nat) (t : List (List Value)) (d : List Nat) (dst : Option Nat) (K : St → Prop) (h : List Obj) (l2 : Loop) (st : LoopState) (pd : Option Code) (b : Bool) : Prop :=
  l2.defers = l ∧ setK h n (.loop { l2 with state := st, pending := pd }) fun h => putK ⟨t, h, d⟩ dst (.bool b) K
/-- a round has ended, reckoned -/
def YEndK (n l : Nat) (t : List (List Value)) (d : List Nat) (dst : Option Nat) (K : St → Prop) (e : Exit) (s2 : St) : Prop := nthK s2.h n fun ob => match ob with
  | .loop l2 => match e with
    | .normal => endR n l t d dst K s2.h l2 .ready none true
    | .ret => endR n l t d dst K s2.h l2 .done (some .ret) false
    | .exit i => endR n l t d dst K s2.h l2 .done (some (.exit i)) false
    | .goto i => endR n l t d dst K s2.h l2 .done (some (.goto i)) false
    | _ => False
  | _ => False
def YBodyK (P : Program) (G : List (Nat × Obj)) (n l : Nat) (body : Code) (E : Exit → St → Prop) (e : Exit) (s1 : St) : Prop := match e with
  | .normal => nthK s1.h n fun ob => match ob with
    | .loop l1 => l1.defers = l ∧ l1.state = .ready ∧ setK s1.h n (.loop { l1 with state := .busy, pending := l1.pending }) fun h => AW P G (some l) body ⟨s1.t, h, s1.d⟩ E
    | _ => False
  | _ => False
theorem yend_of {n l : Nat} {o : Oper} {K : St → Prop} {e : Exit} {s2 : St} (h : YEndK n l s.t s.d o.dst K e s2) : YEnd n l s o K e s2 := by
  obtain ⟨ob, hn, h⟩ := (nthK_iff _ _ _).1 h
  cases ob <;> try exact h.elim
  rename_i l2
  cases e <;> try exact h.elim
  all_goals exact ⟨l2, hn, h.1, setK_ok h.2⟩
/-- a call of yield, reckoned: n names the loop's record, m rows of sixteen hold the round's slots -/
theorem ao_yieldK (n m : Nat) {o : Oper} {K : St → Prop} {c : Call} {f : Operand} {l : Nat} (hop : o.op = .call c) (hcal : c.callee = .value f)
    (hev : evK s f fun v => v = .func (.yield l) #[] #[])
    (h : evsK s c.args.toList fun vs => nthK s.h n fun ob => match ob with
      | .loop l0 => l0.defers = l ∧ putsK l0.tmps.toList l0.params.toList vs fun fl => rowsK m fl 0 fun t0 =>
        AW P G (some l) l0.assign ⟨t0, s.h, []⟩ (YBodyK P G n l l0.body (YEndK n l s.t s.d o.dst K))
      | _ => False) : AO P G ro o s K := by
  obtain ⟨vs, hv, hg⟩ := tr2_evs (L := fun _ => True) (s := s) (s' := s) ⟨fun _ _ _ h => h, fun _ _ h _ => h⟩ c.args.toList (fun _ _ => trivial) _ h
  obtain ⟨ob, hn, hv⟩ := (nthK_iff _ _ _).1 hv
  cases ob <;> try exact hv.elim
  rename_i l0
  obtain ⟨hl, hv⟩ := hv
  obtain ⟨h1, h2⟩ := putsK_ok _ _ _ _ hv
  obtain ⟨t0, h3, h4⟩ := rowsK_ok _ _ _ _ h2
  refine ao_yield hop hcal hev (hg (fun u => u = vs) rfl) hn hl (by simpa using h1) (fun i v hi => by simpa using h3 i v hi) (aw_mono h4 ?_)
  intro e s1 hy
  cases e <;> try exact hy.elim
  obtain ⟨ob, hn1, hy⟩ := (nthK_iff _ _ _).1 hy
  cases ob <;> try exact hy.elim
  rename_i l1
  obtain ⟨g1, g2, g3⟩ := hy
  exact ⟨rfl, l1, hn1, g1, g2, aw_mono (setK_ok g3) fun e s2 h => yend_of h⟩
/-- behind the call of a range, reckoned -/
def RAfterK (P : Program) (T : Tab) (G : List (Nat × Obj)) (ro : Option Nat) (n l : Nat) (t : List (List Value)) (d : List Nat) (K : Exit → St → Prop) (h' : List Obj) : Prop := nthK h' n fun ob => match ob with
  | .loop l2 => l2.defers = l ∧ l2.state ≠ .busy ∧ setK h' n (.loop { l2 with state := .exhausted, pending := l2.pending }) fun h => match l2.pending with
    | none => K .normal ⟨t, h, d⟩
    | some c => run P T G ro c ⟨t, h, d⟩ K
  | _ => False
theorem rafter_of (hT : TabOk P T) {n l : Nat} {t : List (List Value)} {d : List Nat} {K : Exit → St → Prop} {h' : List Obj} (h : RAfterK P T G ro n l t d K h') : RAfter P G ro n l t d K h' := by
  obtain ⟨ob, hn, h⟩ := (nthK_iff _ _ _).1 h
  cases ob <;> try exact h.elim
  rename_i l2
  obtain ⟨h1, h2, h3⟩ := h
  refine ⟨l2, hn, h1, h2, ?_⟩
  have h4 := setK_ok h3
  cases hp : l2.pending with
  | none => simp only [hp] at h4 ⊢; exact h4
  | some c => simp only [hp] at h4 ⊢; exact run_ok hT _ _ _ h4
/-- an outermost range, reckoned -/
theorem aw_rangeK (hT : TabOk P T) {g : Operand} {ps : Array Tmp} {assign body : Code} {K : Exit → St → Prop}
    (h : evK s g fun v => match v with
      | .func fn fs cs => match fn with
        | .func f => match fs.toList with
          | [] => flatK s.t fun fl => ∀ l fn, AC P G f (.func (.yield l) #[] #[] :: cs.toList) (s.h ++ [.deferred (some [])] ++ [.loop (freshLoop fn fl ps assign body l)]) fun _ h' => RAfterK P T G none (s.h.length + 1) l s.t (s.h.length :: s.d) K h'
          | _ :: _ => False
        | _ => False
      | _ => False) : AW P G none (.rangeFunc g ps assign body) s K := by
  obtain ⟨v, hv, hg⟩ := tr2_ev (L := fun _ => True) (s := s) (s' := s) ⟨fun _ _ _ h => h, fun _ _ h _ => h⟩ trivial _ h
  cases v <;> try exact hv.elim
  rename_i fn fs cs
  cases fn <;> try exact hv.elim
  rename_i f
  obtain ⟨fs⟩ := fs
  obtain ⟨cs⟩ := cs
  cases fs <;> try exact hv.elim
  obtain ⟨fl, hk, hf⟩ := flatK_ok _ _ hv
  refine aw_range fl (hg (fun v => v = .func (.func f) #[] ⟨cs⟩) rfl) (fun i v hi => ?_) fun l fn => ac_mono (hk l fn) fun _ _ h => rafter_of hT h
  obtain ⟨u, hu, rfl⟩ := hf i v hi
  exact ⟨u, hu, fun hm => ⟨(keep1_ok hm).1, (keep1_ok hm).2⟩⟩
/-! ## What a body leaves, all its new blocks kept -/
def scop2 (n : Nat) (v : Value) : Bool := match v with
  | .agg cs => cs.toList.all (scop1 n)
  | v => scop1 n v
def scop3 (n : Nat) (v : Value) : Bool := match v with
  | .tuple vs => vs.toList.all (scop2 n)
  | v => scop2 n v
theorem scop2_ok {n : Nat} {v : Value} (h : scop2 n v = true) : s2 n v ∧ ∀ t : Ren, (∀ i, i < n → t i = i) → r2 t v = v := by
  cases v with
  | agg cs =>
    have hc : ∀ x ∈ cs.toList, scop1 n x = true := List.all_eq_true.1 h
    refine ⟨fun x hx => scop1_ok (hc x hx), fun t ht => ?_⟩
    simp only [r2]
    rw [map_self _ _ fun x hx => r1_id ht (scop1_ok (hc x hx))]
  | tuple cs => cases h
  | func f fs cs => exact ⟨scop1_ok (v := .func f fs cs) h, fun t ht => r1_id ht (scop1_ok (v := .func f fs cs) h)⟩
  | pointer p => exact ⟨scop1_ok (v := .pointer p) h, fun t ht => r1_id ht (scop1_ok (v := .pointer p) h)⟩
  | slice p l c => exact ⟨scop1_ok (v := .slice p l c) h, fun t ht => r1_id ht (scop1_ok (v := .slice p l c) h)⟩
  | map p => exact ⟨scop1_ok (v := .map p) h, fun t ht => r1_id ht (scop1_ok (v := .map p) h)⟩
  | _ => exact ⟨trivial, fun _ _ => rfl⟩
theorem scop3_ok {n : Nat} {v : Value} (h : scop3 n v = true) : s3 n v ∧ ∀ t : Ren, (∀ i, i < n → t i = i) → r3 t v = v := by
  cases v with
  | tuple cs =>
    have hc : ∀ x ∈ cs.toList, scop2 n x = true := List.all_eq_true.1 h
    refine ⟨fun x hx => (scop2_ok (hc x hx)).1, fun t ht => ?_⟩
    simp only [r3]
    rw [map_self _ _ fun x hx => (scop2_ok (hc x hx)).2 t ht]
  | agg cs => exact scop2_ok (v := .agg cs) h
  | func f fs cs => exact scop2_ok (v := .func f fs cs) h
  | pointer p => exact scop2_ok (v := .pointer p) h
  | slice p l c => exact scop2_ok (v := .slice p l c) h
  | map p => exact scop2_ok (v := .map p) h
  | _ => exact ⟨trivial, fun _ _ => rfl⟩
theorem fin_all {h0 : List Obj} {k : Value → List Obj → Prop} {v : Value} (h1 news : List Obj) (hs : s.h = h1 ++ news) (hl : h1.length = h0.length) (hv : scop3 (h0.length + news.length) v = true)
    (hc : (h1 ++ news).all (fun o => (cellsOf o).all (scop1 (h0.length + news.length))) = true) (hn : news.all isCells = true) (hk : k v (h1 ++ news)) : Fin h0 k v s := by
  have hid : ∀ i, i < h0.length + news.length → tau h0.length (List.range' h0.length news.length) i = i := by
    intro i hi
    unfold tau
    split
    · rfl
    · rw [List.getD_eq_getElem?_getD, List.getElem?_range' (by omega)]
      simp; omega
  obtain ⟨z1, z2⟩ := scop3_ok hv
  have hsc : ∀ (o : Obj), o ∈ h1 ++ news → ∀ x ∈ cellsOf o, s1 (h0.length + news.length) x := fun o ho x hx =>
    scop1_ok (List.all_eq_true.1 (List.all_eq_true.1 hc o ho) x hx)
  refine ⟨h1, List.range' h0.length news.length, v, news, (z2 _ hid).symm, by simpa using z1, hl, fun i o hi => .inr ⟨?_, ?_⟩, by simp, fun j o hj => ⟨?_, ?_, ?_, ?_⟩, List.nodup_range', hk⟩
  · have hlt : i < h1.length := (List.getElem?_eq_some_iff.1 hi).1
    rw [rO_id hid (hsc o (List.mem_append_left _ (List.mem_of_getElem? hi))), hs, List.getElem?_append_left hlt]; exact hi
  · simpa using hsc o (List.mem_append_left _ (List.mem_of_getElem? hi))
  · exact isCells_ok (List.all_eq_true.1 hn o (List.mem_of_getElem? hj))
  · simpa using hsc o (List.mem_append_right _ (List.mem_of_getElem? hj))
  · have hlt : j < news.length := (List.getElem?_eq_some_iff.1 hj).1
    rw [List.getD_eq_getElem?_getD, List.getElem?_range' hlt]
    simp
  · have hlt : j < news.length := (List.getElem?_eq_some_iff.1 hj).1
    rw [rO_id hid (hsc o (List.mem_append_right _ (List.mem_of_getElem? hj))), hs, List.getD_eq_getElem?_getD, List.getElem?_range' hlt]
    simp only [Option.getD_some, Nat.one_mul]
    rw [List.getElem?_append_right (by omega)]
    rw [show h0.length + j - h1.length = j from by omega]; exact hj
/-- the body hands back a value without names; what it was given may have been turned, what is new is dropped -/
theorem fin_turnedK {h0 : List Obj} {k : Value → List Obj → Prop} {v : Value} (hv : closedV v = true)
    (h : takeK s.h h0.length fun h1 => need (h1.all fun o => (cellsOf o).all (scop1 h0.length)) (k v h1)) : Fin h0 k v s := by
  obtain ⟨h1, h2⟩ := (takeK_iff _ _ _).1 h
  obtain ⟨h3, h4⟩ := (need_iff _ _).1 h2
  exact fin_turned _ hv ⟨s.h.drop h0.length, (List.take_append_drop _ _).symm⟩ (by simp; omega) h3 h4
end
end Go.Proofs.YtjpjnjidchdlbaaDoor
