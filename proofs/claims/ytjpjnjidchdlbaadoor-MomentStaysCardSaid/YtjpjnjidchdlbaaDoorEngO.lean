/-
  What a pure operation computes depends on its operands and on the blocks that lie, alone; and it is one value.
-/
import Derived.Test.YtjpjnjidchdlbaaDoorEngN
namespace Go.Proofs.YtjpjnjidchdlbaaDoor
set_option linter.unusedSimpArgs false
set_option linter.unusedVariables false
open Go Go.RowKit

section
variable {α β : Type} {G : List (Nat × Obj)} {T : Tab}
/-- what F hands on is one thing, and F' hands on the same -/
def Tr2 (F F' : (α → Prop) → Prop) : Prop := ∀ k, F k → ∃ v, k v ∧ ∀ k' : α → Prop, k' v → F' k'
theorem tr2_bind {F F' : (α → Prop) → Prop} {H H' : α → (β → Prop) → Prop} (hf : Tr2 F F') (hh : ∀ v, Tr2 (H v) (H' v)) :
    Tr2 (fun k => F fun v => H v k) (fun k => F' fun v => H' v k) := by
  intro k h
  obtain ⟨v, hv, h1⟩ := hf _ h
  obtain ⟨u, hu, h2⟩ := hh v k hv
  exact ⟨u, hu, fun k' hk => h1 _ (h2 k' hk)⟩
theorem tr2_b {E E' : (β → Prop) → Prop} {F F' : (α → Prop) → Prop} {H H' : α → (β → Prop) → Prop} (hf : Tr2 F F') (e : ∀ k, E k → F fun v => H v k) (e' : ∀ k, (F' fun v => H' v k) → E' k)
    (hh : ∀ v, Tr2 (H v) (H' v)) : Tr2 E E' := fun k h =>
  let ⟨u, hu, h2⟩ := tr2_bind hf hh k (e k h)
  ⟨u, hu, fun k' hk => e' k' (h2 k' hk)⟩
theorem tr2_ret (v : α) : Tr2 (fun k => k v) (fun k => k v) := fun _ h => ⟨v, h, fun _ h => h⟩
theorem tr2_false (F : (α → Prop) → Prop) : Tr2 (fun _ => False) F := fun _ h => h.elim
theorem tr2_need {F F' : (α → Prop) → Prop} (b : Bool) (h : Tr2 F F') : Tr2 (fun k => need b (F k)) (fun k => need b (F' k)) := by
  intro k hk
  obtain ⟨hb, hk⟩ := (need_iff _ _).1 hk
  obtain ⟨v, hv, h1⟩ := h k hk
  exact ⟨v, hv, fun k' h' => (need_iff _ _).2 ⟨hb, h1 k' h'⟩⟩
theorem tr2_bcase {H H' : Bool → (α → Prop) → Prop} (b : Bool) (h : ∀ t, Tr2 (H t) (H' t)) : Tr2 (fun k => bcase b fun t => H t k) (fun k => bcase b fun t => H' t k) := by
  intro k hk
  obtain ⟨v, hv, h1⟩ := h b k ((bcase_iff _ _).1 hk)
  exact ⟨v, hv, fun k' h' => (bcase_iff _ _).2 (h1 k' h')⟩
theorem tr2_of {F : (α → Prop) → Prop} {p : Prop} {v : p → α} (h : ∀ k, F k ↔ ∃ hp : p, k (v hp)) : Tr2 F F := fun k hk => by
  obtain ⟨hp, hk⟩ := (h k).1 hk
  exact ⟨_, hk, fun k' h' => (h k').2 ⟨hp, h'⟩⟩
theorem tr2_nth {l l' : List α} {n : Nat} (h : ∀ a, l[n]? = some a → l'[n]? = some a) : Tr2 (nthK l n) (nthK l' n) := fun k hk => by
  obtain ⟨a, ha, hk⟩ := (nthK_iff _ _ _).1 hk
  exact ⟨a, hk, fun k' h' => (nthK_iff _ _ _).2 ⟨a, h a ha, h'⟩⟩
theorem tr2_nth0 (l : List α) (n : Nat) : Tr2 (nthK l n) (nthK l n) := tr2_nth fun _ h => h
theorem tr2_take (l : List α) (n : Nat) : Tr2 (takeK l n) (takeK l n) := fun k hk => by
  obtain ⟨ha, hk⟩ := (takeK_iff _ _ _).1 hk
  exact ⟨_, hk, fun k' h' => (takeK_iff _ _ _).2 ⟨ha, h'⟩⟩
theorem tr2_drop (l : List α) (n : Nat) : Tr2 (dropK l n) (dropK l n) := fun k hk => by
  obtain ⟨ha, hk⟩ := (dropK_iff _ _ _).1 hk
  exact ⟨_, hk, fun k' h' => (dropK_iff _ _ _).2 ⟨ha, h'⟩⟩
theorem tr2_write (l vs : List α) (n : Nat) : Tr2 (writeK l n vs) (writeK l n vs) := fun k hk => by
  obtain ⟨ha, hk⟩ := (writeK_iff _ _ _ _).1 hk
  exact ⟨_, hk, fun k' h' => (writeK_iff _ _ _ _).2 ⟨ha, h'⟩⟩
theorem tr2_lit (n : Nat) : Tr2 (litK n) (litK n) := tr2_ret n
theorem tr2_ti (T : Tab) (t : Nat) : Tr2 (tiK T t) (tiK T t) := fun k hk => by
  obtain ⟨i, h1, h2, hk⟩ := (tiK_iff _ _ _).1 hk
  exact ⟨i, hk, fun k' h' => (tiK_iff _ _ _).2 ⟨i, h1, h2, h'⟩⟩
theorem tr2_part (c : List Value) (o : Nat) (g : Bool) (n : Nat) : Tr2 (partK c o g n) (partK c o g n) := by
  cases g
  · exact tr2_nth0 _ _
  · exact tr2_b (tr2_drop _ _) (fun _ h => h) (fun _ h => h) fun r => tr2_b (tr2_take _ _) (fun _ h => h) (fun _ h => h) fun r => tr2_ret _
theorem tr2_gl (G : List (Nat × Obj)) (g : Nat) : Tr2 (glK G g) (glK G g) := by
  induction G with
  | nil => exact tr2_false _
  | cons x G ih =>
    obtain ⟨n, o⟩ := x
    simp only [Tr2, glK_s]
    cases Nat.beq n g
    · exact ih
    · exact tr2_ret o
theorem tr2_eqCells (kd : IntKind) : ∀ (xs ys : List Value), Tr2 (eqCellsK xs ys kd) (eqCellsK xs ys kd)
  | [], [] => tr2_ret true
  | [], _ :: _ => tr2_false _
  | _ :: _, [] => by intro k h; simp [eqCellsK_y] at h
  | x :: xs, y :: ys => by
    cases x <;> try exact tr2_false _
    cases y <;> try exact tr2_false _
    exact tr2_need _ (tr2_need _ (tr2_b (tr2_eqCells kd xs ys) (fun _ h => h) (fun _ h => h) fun r => tr2_ret _))
theorem tr2_binInt (op : BinOp) (kx : IntKind) (a : Int) (ky : IntKind) (b : Int) : Tr2 (binIntK op kx a ky b) (binIntK op kx a ky b) := by
  cases op <;> first | exact tr2_need _ (tr2_ret _) | exact tr2_need _ (tr2_need _ (tr2_ret _))
theorem tr2_eqk (T : Tab) (t : Nat) (xs ys : Array Value) (F : Bool → Value) :
    Tr2 (fun k => tiK T t fun i => match i.eqk with
        | some kd => need (xs.size == i.size) (eqCellsK xs.toList ys.toList kd fun b => k (F b))
        | none => False) (fun k => tiK T t fun i => match i.eqk with
        | some kd => need (xs.size == i.size) (eqCellsK xs.toList ys.toList kd fun b => k (F b))
        | none => False) :=
  tr2_b (tr2_ti T t) (fun _ h => h) (fun _ h => h) fun i => by
    cases i.eqk
    · exact tr2_false _
    · exact tr2_need _ (tr2_b (tr2_eqCells _ _ _) (fun _ h => h) (fun _ h => h) fun b => tr2_ret _)
theorem tr2_bin (T : Tab) (op : BinOp) (t : Nat) (x y : Value) : Tr2 (binK T op t x y) (binK T op t x y) := by
  cases x <;> try exact tr2_false _
  case slice p n c =>
    cases y <;> try exact tr2_false _
    rename_i q n' c'
    cases q <;> try exact tr2_false _
    cases op <;> try exact tr2_false _
    exact tr2_b (tr2_ti T t) (fun _ h => h) (fun _ h => h) fun i => tr2_need _ (tr2_ret _)
  · cases y <;> try exact tr2_false _
    cases op <;> try exact tr2_false _
    all_goals exact tr2_b (tr2_ti T t) (fun _ h => h) (fun _ h => h) fun i => tr2_need _ (tr2_ret _)
  · cases y <;> try exact tr2_false _
    exact tr2_binInt _ _ _ _ _
  · cases y <;> try exact tr2_false _
    cases op <;> try exact tr2_false _
    all_goals exact tr2_ret _
  · cases y <;> try exact tr2_false _
    cases op <;> try exact tr2_false _
    all_goals exact tr2_eqk _ _ _ _ _
theorem tr2_un (op : UnOp) (x : Value) : Tr2 (unK op x) (unK op x) := by
  cases x <;> try exact tr2_false _
  all_goals cases op <;> first | exact tr2_false _ | exact tr2_ret _
theorem tr2_fill (c : List Value) {place : Nat → (Nat × Nat → Prop) → Prop} (hp : ∀ i, Tr2 (place i) (place i)) (l : List (Nat × Value)) : Tr2 (fillK c place l) (fillK c place l) := by
  induction l generalizing c with
  | nil => exact tr2_ret c
  | cons x l ih =>
    obtain ⟨i, v⟩ := x
    exact tr2_b (hp i) (fun _ h => h) (fun _ h => h) fun p => tr2_need _ (tr2_need _ (tr2_b (tr2_write _ _ _) (fun _ h => h) (fun _ h => h) fun c => ih c))
theorem tr2_kind (d : TypeDesc) : Tr2 (kindK d) (kindK d) := by cases d <;> first | exact tr2_false _ | exact tr2_ret _
theorem tr2_max (op : Bool) (l : List Value) (acc : Value) : Tr2 (maxK op l acc) (maxK op l acc) := by
  induction l generalizing acc with
  | nil => exact tr2_ret acc
  | cons y l ih =>
    cases acc <;> try exact tr2_false _
    cases y <;> try exact tr2_false _
    exact ih _

/-! ## Two states that are alike where an operation looks -/
/-- a block that is told; '.deferred none' stands for one of which nothing is said -/
def solid (o : Obj) : Prop := match o with
  | .deferred none => False
  | _ => True
theorem tr2_obj {β : Type} {l l' : List Obj} {n : Nat} (h : ∀ a, l[n]? = some a → solid a → l'[n]? = some a) {H : Obj → (β → Prop) → Prop} (hole : ∀ k, ¬ H (.deferred none) k) (hh : ∀ a, Tr2 (H a) (H a)) : Tr2 (fun k => nthK l n fun a => H a k) (fun k => nthK l' n fun a => H a k) := by
  intro k hk
  obtain ⟨a, ha, hk⟩ := (nthK_iff _ _ _).1 hk
  have hs : solid a := by
    cases a with
    | deferred d => cases d with
      | none => exact (hole _ hk).elim
      | some _ => trivial
    | _ => trivial
  obtain ⟨v, hv, g⟩ := hh a _ hk
  exact ⟨v, hv, fun k' hk' => (nthK_iff _ _ _).2 ⟨a, h a ha hs, g k' hk'⟩⟩
structure Like (L : Operand → Prop) (s s' : St) : Prop where
  ev : ∀ i, L (.tmp i) → ∀ v, get2 s.t i = some v → get2 s'.t i = some v
  hp : ∀ (b : Nat) (o : Obj), s.h[b]? = some o → solid o → s'.h[b]? = some o
variable {L : Operand → Prop} {s s' : St}
theorem tr2_ev (hl : Like L s s') {x : Operand} (hx : L x) : Tr2 (evK s x) (evK s' x) := by
  cases x with
  | tmp i =>
    intro k hk
    obtain ⟨r, hr, hk⟩ := (nthK_iff _ _ _).1 hk
    obtain ⟨v, hv, hk⟩ := (nthK_iff _ _ _).1 hk
    have h := hl.ev i hx v (get2_of hr hv)
    unfold get2 at h
    obtain ⟨r', hr', hv'⟩ := Option.bind_eq_some_iff.1 h
    cases v <;> first | exact hk.elim | exact ⟨_, hk, fun k' h' => (nthK_iff _ _ _).2 ⟨r', hr', (nthK_iff _ _ _).2 ⟨_, hv', h'⟩⟩⟩
  | const v => exact tr2_need _ (tr2_ret _)
  | global g => exact tr2_ret _
  | func f => exact tr2_ret _
theorem tr2_evs (hl : Like L s s') (l : List Operand) (hx : ∀ x ∈ l, L x) : Tr2 (evsK s l) (evsK s' l) := by
  induction l with
  | nil => exact tr2_ret _
  | cons x l ih => exact tr2_b (tr2_ev hl (hx x List.mem_cons_self)) (fun _ h => h) (fun _ h => h) fun v => tr2_b (ih fun y hy => hx y (List.mem_cons_of_mem _ hy)) (fun _ h => h) (fun _ h => h) fun vs => tr2_ret _
theorem tr2_parts (hl : Like L s s') (l : List (Nat × Operand)) (hx : ∀ x ∈ l, L x.2) : Tr2 (partsK s l) (partsK s' l) := by
  induction l with
  | nil => exact tr2_ret _
  | cons x l ih =>
    obtain ⟨i, x⟩ := x
    exact tr2_b (tr2_ev hl (hx _ List.mem_cons_self)) (fun _ h => h) (fun _ h => h) fun v => tr2_b (ih fun y hy => hx y (List.mem_cons_of_mem _ hy)) (fun _ h => h) (fun _ h => h) fun vs => tr2_ret _
theorem tr2_cells (hl : Like L s s') (p : Addr) : Tr2 (cellsK G s p) (cellsK G s' p) := by
  obtain ⟨b, o, sp⟩ := p
  cases sp with
  | none =>
    have e : ∀ s, cellsK G s ⟨b, o, none⟩ = fun k => glK G b fun ob => match ob with
      | .cells c _ _ => k c.toList
      | _ => False := fun _ => rfl
    rw [e s, e s']
    exact tr2_b (F := glK G b) (F' := glK G b) (tr2_gl G b) (fun _ h => h) (fun _ h => h) fun o => by cases o <;> first | exact tr2_false _ | exact tr2_ret _
  | some _ =>
    exact tr2_obj (H := fun ob k => match ob with
      | .cells c _ _ => k c.toList
      | _ => False) (fun o h hs => hl.hp _ o h hs) (fun _ h => h) fun o => by cases o <;> first | exact tr2_false _ | exact tr2_ret _
theorem tr2_load (hl : Like L s s') (p : Addr) (g : Bool) (n : Nat) : Tr2 (loadK G s p g n) (loadK G s' p g n) := by
  obtain ⟨b, o, sp⟩ := p
  cases sp with
  | none =>
    have e : ∀ s, loadK G s ⟨b, o, none⟩ g n = fun k => cellsK G s ⟨b, o, none⟩ fun c => partK c o g n k := fun _ => rfl
    rw [e s, e s']
    exact tr2_b (tr2_cells hl _) (fun _ h => h) (fun _ h => h) fun c => tr2_part _ _ _ _
  | some q =>
    refine tr2_obj (H := fun ob k => match ob with
      | .cells c _ _ => partK c.toList o g n k
      | .pending c _ => partK c.toList o g n fun v => need (closed2 v) (k v)
      | _ => False) (fun o h hs => hl.hp _ o h hs) (fun _ h => h) fun ob => ?_
    cases ob <;> first | exact tr2_false _ | exact tr2_part _ _ _ _ | skip
    exact tr2_b (tr2_part _ _ _ _) (fun _ h => h) (fun _ h => h) fun v => tr2_need _ (tr2_ret _)
theorem tr2_str (hl : Like L s s') (p : Option Addr) (n : Nat) : Tr2 (strK s p n) (strK s' p n) := by
  cases p with
  | none => exact tr2_ret _
  | some p =>
    obtain ⟨b, o, sp⟩ := p
    cases sp with
    | none => exact tr2_false _
    | some q =>
      refine tr2_obj (H := fun ob k => ∃ l : List UInt8, l.length = n ∧ HasAt ob o (l.map cU8) ∧ k (Value.string ⟨l.toArray⟩)) (fun o h hs => hl.hp _ o h hs) (fun _ ⟨_, _, h, _⟩ => h) fun ob k hk => ?_
      obtain ⟨l, h1, h2, hk⟩ := hk
      exact ⟨_, hk, fun k' hk' => ⟨l, h1, h2, hk'⟩⟩
theorem tr2_bound (hl : Like L s s') (x : Option Operand) (d y : Nat) (hx : ∀ z, x = some z → L z) : Tr2 (boundK s x d y) (boundK s' x d y) := by
  cases x with
  | none => exact tr2_ret _
  | some z => exact tr2_b (tr2_ev hl (hx z rfl)) (fun _ h => h) (fun _ h => h) fun v => by cases v <;> first | exact tr2_false _ | exact tr2_need _ (tr2_ret _)
theorem tr2_pure (hl : Like L s s') (o : Op) (hx : ∀ x ∈ o.operands.toList, L x) : Tr2 (pureK T G s o) (pureK T G s' o) := by
  cases o <;> try exact tr2_false _
  case move x => exact tr2_ev hl (hx _ (by simp [Op.operands]))
  case assign x => exact tr2_ev hl (hx _ (by simp [Op.operands]))
  case pick c x y =>
    refine tr2_b (tr2_ev hl (hx c (by simp [Op.operands]))) (fun _ h => h) (fun _ h => h) fun c => ?_
    cases c <;> try exact tr2_false _
    refine tr2_bcase _ fun t => ?_
    cases t
    · exact tr2_ev hl (hx _ (by simp [Op.operands]))
    · exact tr2_ev hl (hx _ (by simp [Op.operands]))
  case binOp op t x y z => exact tr2_b (tr2_ev hl (hx x (by simp [Op.operands]))) (fun _ h => h) (fun _ h => h) fun a => tr2_b (tr2_ev hl (hx y (by simp [Op.operands]))) (fun _ h => h) (fun _ h => h) fun b => tr2_bin _ _ _ _ _
  case unOp op t x => exact tr2_b (tr2_ev hl (hx x (by simp [Op.operands]))) (fun _ h => h) (fun _ h => h) fun a => tr2_un _ _
  case convert src dst x =>
    refine tr2_b (tr2_ev hl (hx x (by simp [Op.operands]))) (fun _ h => h) (fun _ h => h) fun a => ?_
    cases a <;> try exact tr2_false _
    rotate_left
    · refine tr2_b (tr2_ti _ _) (fun _ h => h) (fun _ h => h) fun i => ?_
      cases i.desc <;> try exact tr2_false _
      refine tr2_b (tr2_ti _ _) (fun _ h => h) (fun _ h => h) fun i => ?_
      cases i.desc <;> try exact tr2_false _
      rename_i kb
      cases kb <;> try exact tr2_false _
      refine tr2_b (tr2_ti _ _) (fun _ h => h) (fun _ h => h) fun i => ?_
      cases i.desc <;> try exact tr2_false _
      exact tr2_str hl _ _
    exact tr2_b (tr2_ti _ _) (fun _ h => h) (fun _ h => h) fun i => tr2_b (tr2_kind _) (fun _ h => h) (fun _ h => h) fun _ => tr2_b (tr2_ti _ _) (fun _ h => h) (fun _ h => h) fun i => tr2_b (tr2_kind _) (fun _ h => h) (fun _ h => h) fun _ => tr2_ret _
  case extract x i =>
    refine tr2_b (tr2_ev hl (hx x (by simp [Op.operands]))) (fun _ h => h) (fun _ h => h) fun a => ?_
    cases a <;> try exact tr2_false _
    exact tr2_nth0 _ _
  case fieldAddr t x f =>
    refine tr2_b (tr2_ev hl (hx x (by simp [Op.operands]))) (fun _ h => h) (fun _ h => h) fun a => ?_
    cases a <;> try exact tr2_false _
    rename_i p
    cases p <;> try exact tr2_false _
    exact tr2_b (tr2_ti _ _) (fun _ h => h) (fun _ h => h) fun i => tr2_b (tr2_nth0 _ _) (fun _ h => h) (fun _ h => h) fun p => tr2_need _ (tr2_b (tr2_lit _) (fun _ h => h) (fun _ h => h) fun z => tr2_ret _)
  case indexAddr t x ix =>
    refine tr2_b (tr2_ev hl (hx x (by simp [Op.operands]))) (fun _ h => h) (fun _ h => h) fun a => tr2_b (tr2_ev hl (hx ix (by simp [Op.operands]))) (fun _ h => h) (fun _ h => h) fun n => ?_
    cases n <;> try exact tr2_false _
    refine tr2_b (tr2_ti _ _) (fun _ h => h) (fun _ h => h) fun i => ?_
    cases a <;> try exact tr2_false _
    · rename_i p
      cases p <;> try exact tr2_false _
      simp only []
      cases i.desc <;> first | exact tr2_false _ | exact tr2_need _ (tr2_b (tr2_lit _) (fun _ h => h) (fun _ h => h) fun z => tr2_ret _)
    · rename_i p _ _
      cases p <;> try exact tr2_false _
      simp only []
      cases i.desc <;> first | exact tr2_false _ | exact tr2_need _ (tr2_b (tr2_lit _) (fun _ h => h) (fun _ h => h) fun z => tr2_ret _)
  case index t x ix =>
    refine tr2_b (tr2_ev hl (hx x (by simp [Op.operands]))) (fun _ h => h) (fun _ h => h) fun a => tr2_b (tr2_ev hl (hx ix (by simp [Op.operands]))) (fun _ h => h) (fun _ h => h) fun n => ?_
    cases n <;> try exact tr2_false _
    refine tr2_b (tr2_ti _ _) (fun _ h => h) (fun _ h => h) fun i => ?_
    cases a <;> try exact tr2_false _
    simp only []
    cases i.desc <;> first | exact tr2_false _ | exact tr2_need _ (tr2_b (tr2_ti _ _) (fun _ h => h) (fun _ h => h) fun j => tr2_part _ _ _ _)
  case load t x =>
    refine tr2_b (tr2_ev hl (hx x (by simp [Op.operands]))) (fun _ h => h) (fun _ h => h) fun a => ?_
    cases a <;> try exact tr2_false _
    rename_i p
    cases p <;> try exact tr2_false _
    exact tr2_b (tr2_ti _ _) (fun _ h => h) (fun _ h => h) fun i => tr2_load hl _ _ _
  case build t ps =>
    refine tr2_b (tr2_parts hl _ fun x h => hx x.2 (by simp only [Op.operands]; exact List.mem_map.2 ⟨x, h, rfl⟩)) (fun _ h => h) (fun _ h => h) fun ps => tr2_b (tr2_ti _ _) (fun _ h => h) (fun _ h => h) fun i => ?_
    cases i.desc <;> try exact tr2_false _
    · exact tr2_b (tr2_fill _ (fun j => tr2_need _ (tr2_ret _)) _) (fun _ h => h) (fun _ h => h) fun c => tr2_ret _
    · exact tr2_b (tr2_fill _ (fun j => tr2_nth0 _ _) _) (fun _ h => h) (fun _ h => h) fun c => tr2_ret _
  case makeFunc fn first caps =>
    exact tr2_b (tr2_evs hl _ fun x h => hx x (by simp [Op.operands] at h ⊢; exact .inl h)) (fun _ h => h) (fun _ h => h) fun fs => tr2_b (tr2_evs hl _ fun x h => hx x (by simp [Op.operands] at h ⊢; exact .inr h)) (fun _ h => h) (fun _ h => h) fun cs => tr2_need _ (tr2_ret _)
  case slice t x lo hi mx =>
    refine tr2_b (tr2_ev hl (hx x (by simp [Op.operands]))) (fun _ h => h) (fun _ h => h) fun a => tr2_b (tr2_ti _ _) (fun _ h => h) (fun _ h => h) fun i => ?_
    have h1 : ∀ z, lo = some z → L z := fun z h => hx z (by subst h; simp [Op.operands])
    have h2 : ∀ z, hi = some z → L z := fun z h => hx z (by subst h; simp [Op.operands])
    have h3 : ∀ z, mx = some z → L z := fun z h => hx z (by subst h; simp [Op.operands])
    cases a <;> try exact tr2_false _
    · rename_i p
      cases p <;> try exact tr2_false _
      simp only []
      cases i.desc <;> try exact tr2_false _
      exact tr2_b (tr2_bound hl _ _ _ h3) (fun _ h => h) (fun _ h => h) fun m => tr2_b (tr2_bound hl _ _ _ h2) (fun _ h => h) (fun _ h => h) fun h => tr2_b (tr2_bound hl _ _ _ h1) (fun _ h => h) (fun _ h => h) fun l => tr2_need _ (tr2_ret _)
    · rename_i p _ _
      cases p
      all_goals
        simp only []
        cases i.desc <;> try exact tr2_false _
      all_goals
        exact tr2_b (tr2_bound hl _ _ _ h3) (fun _ h => h) (fun _ h => h) fun m => tr2_b (tr2_bound hl _ _ _ h2) (fun _ h => h) (fun _ h => h) fun h => tr2_b (tr2_bound hl _ _ _ h1) (fun _ h => h) (fun _ h => h) fun l => tr2_need _ (tr2_ret _)
  case sliceToArrayPointer t x =>
    refine tr2_b (tr2_ev hl (hx x (by simp [Op.operands]))) (fun _ h => h) (fun _ h => h) fun a => ?_
    cases a <;> try exact tr2_false _
    rename_i p _ _
    cases p <;> try exact tr2_false _
    refine tr2_b (tr2_ti _ _) (fun _ h => h) (fun _ h => h) fun i => ?_
    cases i.desc <;> first | exact tr2_false _ | exact tr2_need _ (tr2_ret _)
  case call c =>
    obtain ⟨callee, args, ats⟩ := c
    cases callee <;> try exact tr2_false _
    rename_i b
    have ha : ∀ x ∈ args.toList, L x := fun x h => hx x (by simp [Op.operands, Call.operands] at h ⊢; exact h)
    cases b <;> try exact tr2_false _
    · refine tr2_b (tr2_evs hl _ ha) (fun _ h => h) (fun _ h => h) fun vs => ?_
      cases vs <;> try exact tr2_false _
      simp only []
      cases ats.toList <;> try exact tr2_false _
      refine tr2_b (tr2_ti _ _) (fun _ h => h) (fun _ h => h) fun i => ?_
      rename_i v _ _ _
      cases v <;> try exact tr2_false _
      all_goals simp only []; cases i.desc <;> first | exact tr2_false _ | exact tr2_ret _
    all_goals
      refine tr2_b (tr2_evs hl _ ha) (fun _ h => h) (fun _ h => h) fun vs => ?_
      cases vs <;> try exact tr2_false _
      exact tr2_need _ (tr2_max _ _ _)
end
end Go.Proofs.YtjpjnjidchdlbaaDoor
