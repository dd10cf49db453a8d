/-
  Regions that draw their order: one order speaks for all (the states alone; the join with the machine is the next text's).
-/
import Derived.Test.YtjpjnjidchdlbaaDoorEngO
import Derived.OrdersIn
namespace Go.Proofs.YtjpjnjidchdlbaaDoor
set_option linter.unusedSimpArgs false
set_option linter.unusedVariables false
open Go Go.RowKit

section
variable {P : Program} {G : List (Nat × Obj)} {T : Tab} {ops : Array Oper} {F : List Nat}
/-! ## Slots as functions -/
def put (s : St) (d : Option Nat) (v : Value) : St := match d with
  | none => s
  | some i => ⟨s.t.set (i / 16) (((s.t[i / 16]?).getD []).set (i % 16) v), s.h, s.d⟩
def Fit (s : St) (d : Option Nat) : Prop := ∀ i, d = some i → ∃ v, get2 s.t i = some v
theorem get2_iff {t : List (List Value)} {i : Nat} {v : Value} : get2 t i = some v ↔ ∃ r, t[i / 16]? = some r ∧ r[i % 16]? = some v := by
  unfold get2
  exact Option.bind_eq_some_iff
theorem set_take {α : Type} {l : List α} {n : Nat} {v : α} (h : n < l.length) : l.take n ++ [v] ++ l.drop (n + 1) = l.set n v := by
  rw [List.set_eq_take_append_cons_drop, if_pos h]; simp
theorem putK_iff (s : St) (d : Option Nat) (v : Value) (K : St → Prop) : putK s d v K ↔ Fit s d ∧ K (put s d v) := by
  cases d with
  | none => exact ⟨fun h => ⟨fun i hi => (by cases hi), h⟩, fun h => h.2⟩
  | some i =>
    obtain ⟨t, h, d⟩ := s
    simp only [putK, nthK_iff, writeK_iff, put]
    constructor
    · rintro ⟨r, hr, h1, h2, hk⟩
      simp only [List.length_cons, List.length_nil] at h1 h2 hk
      have h1' : i % 16 < r.length := by omega
      have h2' : i / 16 < t.length := by omega
      refine ⟨fun j hj => ?_, ?_⟩
      · cases hj; exact ⟨r[i % 16], get2_iff.2 ⟨r, hr, List.getElem?_eq_getElem h1'⟩⟩
      · rw [show i / 16 + (0 + 1) = i / 16 + 1 from rfl, show i % 16 + (0 + 1) = i % 16 + 1 from rfl, set_take h1', set_take h2'] at hk
        simpa [hr] using hk
    · rintro ⟨hf, hk⟩
      obtain ⟨v0, hv⟩ := hf i rfl
      obtain ⟨r, hr, hv⟩ := get2_iff.1 hv
      have h1' : i % 16 < r.length := (List.getElem?_eq_some_iff.1 hv).1
      have h2' : i / 16 < t.length := (List.getElem?_eq_some_iff.1 hr).1
      refine ⟨r, hr, by simp; omega, by simp; omega, ?_⟩
      simp only [List.length_cons, List.length_nil]
      rw [show i / 16 + (0 + 1) = i / 16 + 1 from rfl, show i % 16 + (0 + 1) = i % 16 + 1 from rfl, set_take h1', set_take h2']
      simpa [hr] using hk
theorem get2_put {s : St} {i : Nat} (hf : Fit s (some i)) (v : Value) (j : Nat) : get2 (put s (some i) v).t j = if i = j then some v else get2 s.t j := by
  obtain ⟨v0, hv⟩ := hf i rfl
  obtain ⟨r, hr, hv⟩ := get2_iff.1 hv
  have h1' : i % 16 < r.length := (List.getElem?_eq_some_iff.1 hv).1
  have h2' : i / 16 < s.t.length := (List.getElem?_eq_some_iff.1 hr).1
  simp only [put, get2, hr, Option.getD_some]
  by_cases hij : i = j
  · subst hij
    simp [h1', h2']
  · rw [if_neg hij]
    by_cases hrow : i / 16 = j / 16
    · have hm : i % 16 ≠ j % 16 := by omega
      rw [← hrow, hr]
      simp [h2', hm]
    · simp [hrow]
theorem put_self {s : St} {i : Nat} {v : Value} (h : get2 s.t i = some v) : put s (some i) v = s := by
  obtain ⟨r, hr, hv⟩ := get2_iff.1 h
  obtain ⟨t, h, d⟩ := s
  simp only at hr
  simp only [put, hr, Option.getD_some]
  congr 1
  obtain ⟨h1, rfl⟩ := List.getElem?_eq_some_iff.1 hv
  obtain ⟨h2, rfl⟩ := List.getElem?_eq_some_iff.1 hr
  simp
theorem put_fit {s : St} {d : Option Nat} (hf : Fit s d) (v : Value) (e : Option Nat) : Fit (put s d v) e ↔ Fit s e := by
  cases d with
  | none => exact Iff.rfl
  | some i =>
    constructor
    · intro h j hj
      obtain ⟨x, hx⟩ := h j hj
      rw [get2_put hf] at hx
      split at hx
      · rename_i hij; subst hij; exact hf i rfl
      · exact ⟨x, hx⟩
    · intro h j hj
      rw [get2_put hf]
      split
      · exact ⟨v, rfl⟩
      · exact h j hj
theorem put_comm {s : St} {d e : Option Nat} (hd : Fit s d) (he : Fit s e) (hne : ∀ i, d = some i → e ≠ some i) (v u : Value) : put (put s d v) e u = put (put s e u) d v := by
  cases d with
  | none => rfl
  | some i =>
    cases e with
    | none => rfl
    | some j =>
      have hij : i ≠ j := fun h => hne i rfl (by rw [h])
      obtain ⟨_, hv⟩ := hd i rfl
      obtain ⟨r, hr, hv⟩ := get2_iff.1 hv
      obtain ⟨_, hw⟩ := he j rfl
      obtain ⟨q, hq, hw⟩ := get2_iff.1 hw
      have h2 : i / 16 < s.t.length := (List.getElem?_eq_some_iff.1 hr).1
      have h3 : j / 16 < s.t.length := (List.getElem?_eq_some_iff.1 hq).1
      simp only [put, hr, hq, Option.getD_some]
      congr 1
      by_cases hrow : i / 16 = j / 16
      · have hm : i % 16 ≠ j % 16 := by omega
        rw [← hrow] at hq
        rw [hr] at hq
        cases hq
        rw [← hrow]
        simp only [List.getElem?_set, h2, if_true, Option.getD_some, List.set_set]
        rw [List.set_comm _ _ hm]
      · have hrow' : j / 16 ≠ i / 16 := fun h => hrow h.symm
        simp only [List.getElem?_set, hrow, hrow', if_false, hr, hq, Option.getD_some]
        rw [List.set_comm _ _ hrow]
theorem put_h (s : St) (d : Option Nat) (v : Value) : (put s d v).h = s.h := by cases d <;> rfl
def grow (s : St) (o : Obj) : St := ⟨s.t, s.h ++ [o], s.d⟩
theorem pushK_iff (s : St) (o : Obj) (k : Nat → St → Prop) : pushK s o k ↔ k s.h.length (grow s o) := by
  obtain ⟨t, h, d⟩ := s
  simp only [pushK, cntK_iff, appK_iff, grow, Nat.zero_add]
theorem put_grow (s : St) (d : Option Nat) (v : Value) (o : Obj) : put (grow s o) d v = grow (put s d v) o := by cases d <;> rfl

/-! ## One operation -/
def vK (T : Tab) (G : List (Nat × Obj)) (h0 : List Obj) (s : St) (o : Oper) (K : St → Prop) : Prop := match s with
  | ⟨t, h, d⟩ => pureK T G ⟨t, h0, d⟩ o.op fun v => putK ⟨t, h, d⟩ o.dst v K
/-- what lay at the region's start lies -/
def Pre (h0 h : List Obj) : Prop := ∀ (b : Nat) (o : Obj), h0[b]? = some o → solid o → h[b]? = some o
/-- a call that hands back a closed value and leaves the heap as it was, whatever was laid beside what lay at the region's start -/
def Quiet (P : Program) (G : List (Nat × Obj)) (h0 : List Obj) (n : FuncId) (all : List Value) (k : Value → Prop) : Prop :=
  ∀ h, Pre h0 h → AC P G n all h fun v h' => closedV v = true ∧ h' = h ∧ k v
theorem Quiet.mono {h0 : List Obj} {n : FuncId} {all : List Value} {k k' : Value → Prop} (H : Quiet P G h0 n all k) (hk : ∀ v, closedV v = true → k v → k' v) : Quiet P G h0 n all k' :=
  fun h hp => ac_mono (H h hp) fun v h' q => ⟨q.1, q.2.1, hk v q.1 q.2.2⟩
/-- the calls, by the slots that they write, that are said to lay a block -/
noncomputable def freshB (F : List Nat) (d : Option Nat) : Bool := match d with
  | none => false
  | some i => List.rec (motive := fun _ => Bool) false (fun a _ ih => match Nat.beq a i with
    | true => true
    | false => ih) F
/-- a call that lays one block, and hands back a value told over it -/
def Fresh (P : Program) (G : List (Nat × Obj)) (h0 : List Obj) (n : FuncId) (all : List Value) (k : Obj → (Nat → Value) → Prop) : Prop :=
  ∀ h, Pre h0 h → AC P G n all h fun v h' => ∃ ob p, v = p h.length ∧ h' = h ++ [ob] ∧ k ob p
theorem Fresh.mono {h0 : List Obj} {n : FuncId} {all : List Value} {k k' : Obj → (Nat → Value) → Prop} (H : Fresh P G h0 n all k) (hk : ∀ ob p, k ob p → k' ob p) : Fresh P G h0 n all k' :=
  fun h hp => ac_mono (H h hp) fun v h' ⟨ob, p, q1, q2, q3⟩ => ⟨ob, p, q1, q2, hk _ _ q3⟩
/-- a call in a drawing region -/
def CallOk (P : Program) (G : List (Nat × Obj)) (F : List Nat) (h0 : List Obj) (s : St) (d : Option Nat) (n : FuncId) (all : List Value) (K : St → Prop) : Prop :=
  match freshB F d with
  | true => Fresh P G h0 n all fun ob p => putK (grow s ob) d (p s.h.length) K
  | false => match freshB F (d.map (· + 1000)) with
    | true => AC P G n all s.h fun v h' => closedV v = true ∧ h' = s.h ∧ putK s d v K
    | false => Quiet P G h0 n all fun v => putK s d v K
theorem callOk_quiet {h0 : List Obj} {s : St} {d : Option Nat} {n : FuncId} {all : List Value} {K : St → Prop} (hf : freshB F d = false) (hf2 : freshB F (d.map (· + 1000)) = false) : CallOk P G F h0 s d n all K ↔ Quiet P G h0 n all fun v => putK s d v K := by
  unfold CallOk; rw [hf, hf2]
/-- a call that reads the heap as it stands: its slot, a thousand more, is in the list -/
theorem callOk_full {h0 : List Obj} {s : St} {d : Option Nat} {n : FuncId} {all : List Value} {K : St → Prop} (hf : freshB F d = false) (hf2 : freshB F (d.map (· + 1000)) = true) : CallOk P G F h0 s d n all K ↔ AC P G n all s.h fun v h' => closedV v = true ∧ h' = s.h ∧ putK s d v K := by
  unfold CallOk; rw [hf, hf2]
theorem callOk_fresh {h0 : List Obj} {s : St} {d : Option Nat} {n : FuncId} {all : List Value} {K : St → Prop} (hf : freshB F d = true) : CallOk P G F h0 s d n all K ↔ Fresh P G h0 n all fun ob p => putK (grow s ob) d (p s.h.length) K := by
  unfold CallOk; rw [hf]
theorem quiet_of {h0 : List Obj} {s : St} {d : Option Nat} {K : St → Prop} {n : FuncId} {all : List Value} {k0 : Value → List Obj → Prop} (H : AC P G n all [] k0) (ha : all.all closedV = true)
    (hk : ∀ v h', k0 v h' → closedV v = true ∧ h' = [] ∧ putK s d v K) : Quiet P G h0 n all fun v => putK s d v K :=
  fun h _ => ac_pure H ha fun v h' q => ⟨(hk v h' q).1, (hk v h' q).2.1, (hk v h' q).1, rfl, (hk v h' q).2.2⟩
def dcallK (P : Program) (G : List (Nat × Obj)) (F : List Nat) (h0 : List Obj) (s : St) (d : Option Nat) (f : Value) (args : List Value) (K : St → Prop) : Prop := match f with
  | .func fn fs cs => match fn with
    | .yield _ => False
    | .func n => match fs.toList with
      | [] => arrK cs fun cs => appK args cs fun all => CallOk P G F h0 s d n all K
      | _ :: _ => False
    | _ => False
  | _ => False
/-- what a store makes of the heap -/
def stK (T : Tab) (s : St) (t : TypeId) (x y : Operand) (k : List Obj → Prop) : Prop := evK s x fun a => evK s y fun v => match a with
    | .pointer p => match p with
      | some a => match a.spot with
        | some _ => tiK T t fun i => need (notTup v && v.cells.size == i.size) (nthK s.h a.block fun b => match b with
          | .cells c e f => match f.1 with
            | 0 => writeK c.toList a.off v.cells.toList fun c => writeK s.h a.block [.cells ⟨c⟩ e] fun h => k h
            | _ + 1 => False
          | _ => False)
        | none => False
      | none => False
    | _ => False
theorem opK_store {ro : Option Nat} {s : St} {dst : Option Nat} {t : TypeId} {x y : Operand} {type : TypeId} {pos : String} {after : Array Edge} {guard : Option (Nat × Bool)} {K : St → Prop} :
    opK P T G ro s ⟨dst, .store t x y, type, pos, after, guard⟩ K = stK T s t x y fun h => heapK s h fun s => putK s dst undef K := rfl
def setH (s : St) (h : List Obj) : St := ⟨s.t, h, s.d⟩
theorem heapK_eq (s : St) (h : List Obj) (k : St → Prop) : heapK s h k = k (setH s h) := rfl
theorem put_setH (s : St) (d : Option Nat) (v : Value) (h : List Obj) : put (setH s h) d v = setH (put s d v) h := by cases d <;> rfl
/-- what lay at the region's start lies in front, as it lay -/
def Lies : List Obj → List Obj → Prop
  | [], _ => True
  | _ :: _, [] => False
  | o :: h0, x :: h => (x = o ∨ o = .deferred none) ∧ Lies h0 h
theorem Lies.pre : ∀ {h0 h : List Obj}, Lies h0 h → Pre h0 h
  | [], _, _ => fun b o hb => by simp at hb
  | _ :: _, [], H => H.elim
  | o :: h0, x :: h, H => fun b q hb hs => by
    cases b with
    | zero =>
      have e : o = q := by simpa using hb
      subst e
      rcases H.1 with h1 | h1
      · simp [h1]
      · rw [h1] at hs; exact hs.elim
    | succ b => simpa using Lies.pre H.2 b q (by simpa using hb) hs
theorem Lies.same : ∀ (h0 news : List Obj), Lies h0 (h0 ++ news)
  | [], _ => trivial
  | _ :: h0, news => ⟨.inl rfl, Lies.same h0 news⟩
/-- what a slice that is built lays: the block's cells, its element type, its length -/
def bsK (T : Tab) (s : St) (t : TypeId) (len : Nat) (parts : Array (Nat × Operand)) (k : List Value × TypeId → Prop) : Prop :=
  partsK s parts.toList fun ps => tiK T t fun i => match i.desc with
    | .slice e => tiK T e fun j => need (decide (len * j.size ≤ 16777216)) (arrK j.zero.cells fun z => repK len z [] fun c => fillK c (fun n k => k (n * j.size, j.size)) ps fun c => k (c, e))
    | _ => False
def dopK (P : Program) (T : Tab) (G : List (Nat × Obj)) (F : List Nat) (h0 : List Obj) (s : St) (o : Oper) (K : St → Prop) : Prop := match o.op with
  | .store t x y => stK T s t x y fun h => Lies h0 h ∧ heapK s h fun s => putK s o.dst undef K
  | .buildSlice t len parts => bsK T s t len parts fun q => match q with
    | (c, e) => pushK s (.cells ⟨c⟩ e) fun n s => putK s o.dst (slc n 0 len len) K
  | .alloc t => tiK T t fun i => arrK i.zero.cells fun c => pushK s (.cells ⟨c⟩ t) fun n s => putK s o.dst (ptr n 0) K
  | .call c => match c.callee with
    | .value f => evK s f fun f => evsK s c.args.toList fun vs => dcallK P G F h0 s o.dst f vs K
    | .builtin b => match b with
      | .append => False
      | _ => vK T G h0 s o K
    | _ => False
  | .convert _ _ _ => match freshB F o.dst with
    | true => vK T G s.h s o K
    | false => vK T G h0 s o K
  | .load _ _ => match freshB F o.dst with
    | true => vK T G s.h s o K
    | false => vK T G h0 s o K
  | _ => vK T G h0 s o K
def dguardK (P : Program) (T : Tab) (G : List (Nat × Obj)) (F : List Nat) (h0 : List Obj) (all : List Oper) (s : St) (o : Oper) (K : St → Prop) : Prop := match o.guard with
  | none => dopK P T G F h0 s o K
  | some g => match g with
    | (j, want) => nthK all j fun p => match p.dst with
      | none => False
      | some d => nthK s.t (d / 16) fun r => nthK r (d % 16) fun v => match v with
        | .bool b => bcase b fun t => putK s (some d) (.bool t) fun s => match t == want with
          | true => dopK P T G F h0 s o K
          | false => putK s o.dst undef K
        | .tuple _ => putK s o.dst undef K
        | _ => False
/-- its guard says t -/
def GW (ops : Array Oper) (s : St) (o : Oper) (t : Bool) : Prop := match o.guard with
  | none => t = true
  | some g => ∃ p d v, ops[g.1]? = some p ∧ p.dst = some d ∧ get2 s.t d = some v ∧ ((∃ b, v = .bool b ∧ t = (b == g.2)) ∨ ((∃ a, v = .tuple a) ∧ t = false))
def GD (P : Program) (T : Tab) (G : List (Nat × Obj)) (F : List Nat) (h0 : List Obj) (ops : Array Oper) (s : St) (o : Oper) (K : St → Prop) : Prop :=
  ∃ t, GW ops s o t ∧ (t = true → dopK P T G F h0 s o K) ∧ (t = false → putK s o.dst undef K)
theorem gd_of {h0 : List Obj} {s : St} {o : Oper} {K : St → Prop} (h : dguardK P T G F h0 ops.toList s o K) : GD P T G F h0 ops s o K := by
  unfold dguardK at h
  unfold GD GW
  cases hg : o.guard with
  | none => rw [hg] at h; exact ⟨true, rfl, fun _ => h, fun h => by cases h⟩
  | some g =>
    obtain ⟨j, want⟩ := g
    rw [hg] at h
    simp only [nthK_iff] at h
    obtain ⟨p, hp, h⟩ := h
    cases hd : p.dst with
    | none => rw [hd] at h; exact h.elim
    | some d =>
      rw [hd] at h
      simp only at h
      obtain ⟨row, h1, v, h2, h⟩ := h
      have hs := get2_of h1 h2
      cases v with
      | bool b =>
        simp only [bcase_iff, putK_iff, put_self hs] at h
        obtain ⟨_, h⟩ := h
        refine ⟨b == want, ⟨p, d, _, by simpa using hp, hd, hs, .inl ⟨b, rfl, rfl⟩⟩, fun ht => ?_, fun ht => ?_⟩
        · rw [ht] at h; exact h
        · rw [ht] at h; exact (putK_iff _ _ _ _).2 h
      | tuple cs => exact ⟨false, ⟨p, d, _, by simpa using hp, hd, hs, .inr ⟨⟨_, rfl⟩, rfl⟩⟩, fun ht => (by cases ht), fun _ => h⟩
      | _ => exact h.elim
theorem gd_guard {ro : Option Nat} {s : St} {o : Oper} {K : St → Prop} (h : ∃ t, GW ops s o t ∧ (t = true → opK P T G ro s o K) ∧ (t = false → putK s o.dst undef K)) : guardK P T G ro ops.toList s o K := by
  obtain ⟨t, hw, h1, h0⟩ := h
  unfold GW at hw
  unfold guardK
  cases hg : o.guard with
  | none => rw [hg] at hw; exact h1 hw
  | some g =>
    obtain ⟨j, want⟩ := g
    rw [hg] at hw
    obtain ⟨p, d, v, hp, hd, hs, hv2⟩ := hw
    obtain ⟨r, hr, hv⟩ := get2_iff.1 hs
    refine (nthK_iff _ _ _).2 ⟨p, by simpa using hp, ?_⟩
    rw [hd]
    refine (nthK_iff _ _ _).2 ⟨r, hr, (nthK_iff _ _ _).2 ⟨_, hv, ?_⟩⟩
    rcases hv2 with ⟨b, rfl, rfl⟩ | ⟨⟨cs, rfl⟩, rfl⟩
    · simp only [bcase_iff, putK_iff, put_self hs]
      refine ⟨fun i hi => ⟨_, by cases hi; exact hs⟩, ?_⟩
      cases ht : b == want
      · exact (putK_iff _ _ _ _).1 (h0 ht)
      · exact h1 ht
    · exact h0 rfl

/-! ## The three forms -/
/-- alike in the slots that an operation looks at -/
def Alike (ops : Array Oper) (o : Oper) (s s' : St) : Prop := ∀ i ∈ o.looksAt ops, ∀ v, get2 s.t i = some v → get2 s'.t i = some v
theorem GW.alike {s s' : St} {o : Oper} {t : Bool} (h : GW ops s o t) (ha : Alike ops o s s') : GW ops s' o t := by
  unfold GW at *
  cases hg : o.guard with
  | none => rw [hg] at h; exact h
  | some g =>
    rw [hg] at h
    obtain ⟨p, d, v, hp, hd, hs, ht⟩ := h
    exact ⟨p, d, v, hp, hd, ha d (by simp [Oper.looksAt, hg, hp, hd]) _ hs, ht⟩
theorem Alike.like {s s' : St} {o : Oper} {h0 : List Obj} (ha : Alike ops o s s') : Like (fun x => x ∈ o.op.operands.toList) ⟨s.t, h0, s.d⟩ ⟨s'.t, h0, s'.d⟩ :=
  ⟨fun i hi v hv => ha i (List.mem_append_left _ (List.mem_filterMap.2 ⟨.tmp i, hi, rfl⟩)) v hv, fun _ _ h _ => h⟩
/-- a value is written -/
def FA (X : St → (St → Prop) → Prop) (ops : Array Oper) (o : Oper) (s : St) (K : St → Prop) : Prop :=
  ∃ v, Fit s o.dst ∧ K (put s o.dst v) ∧ ∀ s' K', Alike ops o s s' → Fit s' o.dst → K' (put s' o.dst v) → X s' K'
/-- a block is laid -/
def FC (X : St → (St → Prop) → Prop) (ops : Array Oper) (o : Oper) (s : St) (K : St → Prop) : Prop :=
  ∃ (b : Obj) (p : Nat → Value), Fit s o.dst ∧ K (put (grow s b) o.dst (p s.h.length)) ∧ ∀ s' K', Alike ops o s s' → Fit s' o.dst → K' (put (grow s' b) o.dst (p s'.h.length)) → X s' K'
/-- a function is called that lays a block -/
def FD (P : Program) (G : List (Nat × Obj)) (h0 : List Obj) (X : St → (St → Prop) → Prop) (ops : Array Oper) (o : Oper) (s : St) (K : St → Prop) : Prop :=
  ∃ n all, Fresh P G h0 n all (fun ob p => Fit s o.dst ∧ K (put (grow s ob) o.dst (p s.h.length))) ∧
    ∀ s' K', Alike ops o s s' → Fresh P G h0 n all (fun ob p => Fit s' o.dst ∧ K' (put (grow s' ob) o.dst (p s'.h.length))) → X s' K'
/-- a block of the region's own is written -/
def FW (X : St → (St → Prop) → Prop) (ops : Array Oper) (o : Oper) (s : St) (K : St → Prop) : Prop :=
  ∃ h', Fit s o.dst ∧ K (put (setH s h') o.dst undef) ∧ ∀ s' K', Alike ops o s s' → s'.h = s.h → Fit s' o.dst → K' (put (setH s' h') o.dst undef) → X s' K'
/-- a value is written, that is read in the heap as it stands -/
def FE (X : St → (St → Prop) → Prop) (ops : Array Oper) (o : Oper) (s : St) (K : St → Prop) : Prop :=
  ∃ v, Fit s o.dst ∧ K (put s o.dst v) ∧ ∀ s' K', Alike ops o s s' → s'.h = s.h → Fit s' o.dst → K' (put s' o.dst v) → X s' K'
/-- a function is called that reads the heap as it stands -/
def FG (P : Program) (G : List (Nat × Obj)) (X : St → (St → Prop) → Prop) (ops : Array Oper) (o : Oper) (s : St) (K : St → Prop) : Prop :=
  ∃ n all, (AC P G n all s.h fun v h' => closedV v = true ∧ h' = s.h ∧ Fit s o.dst ∧ K (put s o.dst v)) ∧
    ∀ s' K', Alike ops o s s' → s'.h = s.h → (AC P G n all s'.h fun v h' => closedV v = true ∧ h' = s'.h ∧ Fit s' o.dst ∧ K' (put s' o.dst v)) → X s' K'
/-- a function is called -/
def FB (P : Program) (G : List (Nat × Obj)) (h0 : List Obj) (X : St → (St → Prop) → Prop) (ops : Array Oper) (o : Oper) (s : St) (K : St → Prop) : Prop :=
  ∃ n all, Quiet P G h0 n all (fun v => Fit s o.dst ∧ K (put s o.dst v)) ∧
    ∀ s' K', Alike ops o s s' → Quiet P G h0 n all (fun v => Fit s' o.dst ∧ K' (put s' o.dst v)) → X s' K'
theorem alike_put {d : Option Nat} {o : Oper} {s : St} (x : Value) (hf : Fit s d) (hd : ∀ j, d = some j → j ∉ o.looksAt ops) : Alike ops o s (put s d x) ∧ Alike ops o (put s d x) s := by
  cases d with
  | none => exact ⟨fun _ _ _ h => h, fun _ _ _ h => h⟩
  | some j =>
    have hne : ∀ q ∈ o.looksAt ops, j ≠ q := fun q hq e => hd j rfl (e ▸ hq)
    exact ⟨fun q hq v hv => by rw [get2_put hf, if_neg (hne q hq)]; exact hv, fun q hq v hv => by rw [get2_put hf, if_neg (hne q hq)] at hv; exact hv⟩
theorem fit_grow {s : St} {b : Obj} {d : Option Nat} : Fit (grow s b) d ↔ Fit s d := Iff.rfl
theorem alike_grow {o : Oper} {s s' : St} {b : Obj} : Alike ops o (grow s b) s' ↔ Alike ops o s s' := Iff.rfl
theorem alike_grow' {o : Oper} {s s' : St} {b : Obj} : Alike ops o s (grow s' b) ↔ Alike ops o s s' := Iff.rfl
/-- a value, and then whatever -/
theorem swap_a {h0 : List Obj} {X Y : St → (St → Prop) → Prop} {k i : Oper} {s : St} {K : St → Prop} (hap : k.apart ops i = true)
    (hk : FA X ops k s (fun s1 => Y s1 K)) (hi : ∀ s1, Y s1 K → FA Y ops i s1 K ∨ FB P G h0 Y ops i s1 K ∨ FC Y ops i s1 K ∨ FW Y ops i s1 K ∨ FD P G h0 Y ops i s1 K ∨ FE Y ops i s1 K ∨ FG P G Y ops i s1 K) : Y s (fun s1 => X s1 K) := by
  obtain ⟨a1, a2, a3⟩ := Oper.apart_spec hap
  obtain ⟨v, f1, hy, gx⟩ := hk
  rcases hi _ hy with ⟨u, f2, hK, gy⟩ | ⟨n, all, hac, gy⟩ | ⟨b, p, f2, hK, gy⟩ | ⟨h', f2, hK, gy⟩ | ⟨n, all, hac, gy⟩ | ⟨u, f2, hK, gy⟩ | ⟨n, all, hac, gy⟩
  · have f2' := (put_fit f1 v _).1 f2
    refine gy s _ (alike_put _ f1 a1).2 f2' (gx _ _ (alike_put _ f2' a3).1 ((put_fit f2' u _).2 f1) ?_)
    rw [← put_comm f1 f2' (fun j hj he => a2 j hj he)]
    exact hK
  · refine gy s _ (alike_put _ f1 a1).2 (hac.mono ?_)
    rintro u hc ⟨f2, hK⟩
    have f2' := (put_fit f1 v _).1 f2
    refine ⟨f2', gx _ _ (alike_put _ f2' a3).1 ((put_fit f2' u _).2 f1) ?_⟩
    rw [← put_comm f1 f2' (fun j hj he => a2 j hj he)]
    exact hK
  · have f2' := (put_fit f1 v _).1 f2
    have f1g : Fit (grow s b) k.dst := f1
    have f2g : Fit (grow s b) i.dst := f2'
    refine gy s _ (alike_put _ f1 a1).2 f2' (gx _ _ ?_ ((put_fit f2g _ _).2 f1g) ?_)
    · exact (alike_put (s := grow s b) _ f2g a3).1
    · rw [← put_comm f1g f2g (fun j hj he => a2 j hj he), put_grow]
      rw [put_h] at hK
      exact hK
  · have f2' := (put_fit f1 v _).1 f2
    have f1g : Fit (setH s h') k.dst := f1
    have f2g : Fit (setH s h') i.dst := f2'
    refine gy s _ (alike_put _ f1 a1).2 (put_h s k.dst v).symm f2' (gx _ _ ?_ ((put_fit f2g _ _).2 f1g) ?_)
    · exact (alike_put (s := setH s h') _ f2g a3).1
    · rw [← put_comm f1g f2g (fun j hj he => a2 j hj he), put_setH]
      exact hK
  · refine gy s _ (alike_put _ f1 a1).2 (hac.mono ?_)
    rintro ob p ⟨f2, hK⟩
    have f2' := (put_fit f1 v _).1 f2
    have f1g : Fit (grow s ob) k.dst := f1
    have f2g : Fit (grow s ob) i.dst := f2'
    refine ⟨f2', gx _ _ ?_ ((put_fit f2g _ _).2 f1g) ?_⟩
    · exact (alike_put (s := grow s ob) _ f2g a3).1
    · rw [← put_comm f1g f2g (fun j hj he => a2 j hj he), put_grow]
      rw [put_h] at hK
      exact hK
  · have f2' := (put_fit f1 v _).1 f2
    refine gy s _ (alike_put _ f1 a1).2 (put_h s k.dst v).symm f2' (gx _ _ (alike_put _ f2' a3).1 ((put_fit f2' u _).2 f1) ?_)
    rw [← put_comm f1 f2' (fun j hj he => a2 j hj he)]
    exact hK
  · rw [put_h] at hac
    refine gy s _ (alike_put _ f1 a1).2 (put_h s k.dst v).symm (ac_mono hac ?_)
    rintro u h' ⟨hc, hh, f2, hK⟩
    have f2' := (put_fit f1 v _).1 f2
    refine ⟨hc, hh, f2', gx _ _ (alike_put _ f2' a3).1 ((put_fit f2' u _).2 f1) ?_⟩
    rw [← put_comm f1 f2' (fun j hj he => a2 j hj he)]
    exact hK
theorem swap_e {h0 : List Obj} {X Y : St → (St → Prop) → Prop} {k i : Oper} {s : St} {K : St → Prop} (hap : k.apart ops i = true)
    (hk : FE X ops k s (fun s1 => Y s1 K)) (hi : ∀ s1, Y s1 K → FA Y ops i s1 K ∨ FB P G h0 Y ops i s1 K) : Y s (fun s1 => X s1 K) := by
  obtain ⟨a1, a2, a3⟩ := Oper.apart_spec hap
  obtain ⟨v, f1, hy, gx⟩ := hk
  rcases hi _ hy with ⟨u, f2, hK, gy⟩ | ⟨n, all, hac, gy⟩
  · have f2' := (put_fit f1 v _).1 f2
    refine gy s _ (alike_put _ f1 a1).2 f2' (gx _ _ (alike_put _ f2' a3).1 (put_h s i.dst u) ((put_fit f2' u _).2 f1) ?_)
    rw [← put_comm f1 f2' (fun j hj he => a2 j hj he)]
    exact hK
  · refine gy s _ (alike_put _ f1 a1).2 (hac.mono ?_)
    rintro u hc ⟨f2, hK⟩
    have f2' := (put_fit f1 v _).1 f2
    refine ⟨f2', gx _ _ (alike_put _ f2' a3).1 (put_h s i.dst u) ((put_fit f2' u _).2 f1) ?_⟩
    rw [← put_comm f1 f2' (fun j hj he => a2 j hj he)]
    exact hK
theorem swap_x {h0 : List Obj} {X Y : St → (St → Prop) → Prop} {k i : Oper} {s : St} {K : St → Prop} (hap : k.apart ops i = true)
    (hk : FA X ops k s (fun s1 => Y s1 K) ∨ FC X ops k s (fun s1 => Y s1 K)) (hi : ∀ s1, Y s1 K → FA Y ops i s1 K ∨ FB P G h0 Y ops i s1 K) : Y s (fun s1 => X s1 K) := by
  obtain ⟨a1, a2, a3⟩ := Oper.apart_spec hap
  rcases hk with ⟨v, f1, hy, gx⟩ | ⟨b, p, f1, hy, gx⟩
  · rcases hi _ hy with ⟨u, f2, hK, gy⟩ | ⟨n, all, hac, gy⟩
    · have f2' := (put_fit f1 v _).1 f2
      refine gy s _ (alike_put _ f1 a1).2 f2' (gx _ _ (alike_put _ f2' a3).1 ((put_fit f2' u _).2 f1) ?_)
      rw [← put_comm f1 f2' (fun j hj he => a2 j hj he)]
      exact hK
    · refine gy s _ (alike_put _ f1 a1).2 (hac.mono ?_)
      rintro u hc ⟨f2, hK⟩
      have f2' := (put_fit f1 v _).1 f2
      refine ⟨f2', gx _ _ (alike_put _ f2' a3).1 ((put_fit f2' u _).2 f1) ?_⟩
      rw [← put_comm f1 f2' (fun j hj he => a2 j hj he)]
      exact hK
  · have f1g : Fit (grow s b) k.dst := f1
    rcases hi _ hy with ⟨u, f2, hK, gy⟩ | ⟨n, all, hac, gy⟩
    · have f2g : Fit (grow s b) i.dst := (put_fit f1g _ _).1 f2
      have f2' : Fit s i.dst := f2g
      refine gy s _ (alike_put _ f1g a1).2 f2' (gx _ _ (alike_put _ f2' a3).1 ((put_fit f2' u _).2 f1) ?_)
      rw [put_h, ← put_grow, ← put_comm f1g f2g (fun j hj he => a2 j hj he)]
      exact hK
    · refine gy s _ (alike_put _ f1g a1).2 (hac.mono ?_)
      rintro u hc ⟨f2, hK⟩
      have f2g : Fit (grow s b) i.dst := (put_fit f1g _ _).1 f2
      have f2' : Fit s i.dst := f2g
      refine ⟨f2', gx _ _ (alike_put _ f2' a3).1 ((put_fit f2' u _).2 f1) ?_⟩
      rw [put_h, ← put_grow, ← put_comm f1g f2g (fun j hj he => a2 j hj he)]
      exact hK

/-! ## Which form an operation has: 0 a value, 1 a block, 2 a call, 3 a store -/
/-- may an operation of form a, walked first, stand behind one of form b? -/
def swF (a b : Nat) : Bool := a == 0 || (a == 1 && (b == 0 || b == 2)) || (a == 5 && (b == 0 || b == 2))
noncomputable def form (F : List Nat) (o : Oper) : Nat := match o.op with
  | .alloc _ => 1
  | .buildSlice _ _ _ => 1
  | .store _ _ _ => 3
  | .call c => match c.callee with
    | .value _ => match freshB F o.dst with
      | true => 4
      | false => match freshB F (o.dst.map (· + 1000)) with
        | true => 6
        | false => 2
    | _ => 0
  | .convert _ _ _ => match freshB F o.dst with
    | true => 5
    | false => 0
  | .load _ _ => match freshB F o.dst with
    | true => 5
    | false => 0
  | _ => 0
variable {h0 : List Obj}
/-- slots that are alike: operands hand on alike values, whatever the heaps -/
theorem ev_slots {L : Operand → Prop} {s s' : St} (hl : Like L ⟨s.t, [], s.d⟩ ⟨s'.t, [], s'.d⟩) {x : Operand} (hx : L x) : Tr2 (evK s x) (evK s' x) := fun k hk => tr2_ev hl hx k hk
theorem tr2_bs {L : Operand → Prop} {s s' : St} (hl : Like L ⟨s.t, [], s.d⟩ ⟨s'.t, [], s'.d⟩) (t : TypeId) (len : Nat) (parts : Array (Nat × Operand)) (hx : ∀ x ∈ parts.toList, L x.2) :
    Tr2 (bsK T s t len parts) (bsK T s' t len parts) := by
  have hp : Tr2 (partsK s parts.toList) (partsK s' parts.toList) := by
    have : ∀ l : List (Nat × Operand), (∀ x ∈ l, L x.2) → Tr2 (partsK s l) (partsK s' l) := by
      intro l
      induction l with
      | nil => intro _; exact tr2_ret _
      | cons x l ih =>
        intro hx
        obtain ⟨i, x⟩ := x
        exact tr2_b (ev_slots hl (hx _ List.mem_cons_self)) (fun _ h => h) (fun _ h => h) fun v => tr2_b (ih fun y hy => hx y (List.mem_cons_of_mem _ hy)) (fun _ h => h) (fun _ h => h) fun vs => tr2_ret _
    exact this _ hx
  refine tr2_b hp (fun _ h => h) (fun _ h => h) fun ps => tr2_b (tr2_ti T t) (fun _ h => h) (fun _ h => h) fun i => ?_
  cases i.desc <;> first | exact tr2_false _ | skip
  rename_i e
  refine tr2_b (tr2_ti T e) (fun _ h => h) (fun _ h => h) fun j => tr2_need _ ?_
  have ha : Tr2 (arrK j.zero.cells) (arrK j.zero.cells) := fun k hk => by rw [arrK_iff] at hk; exact ⟨_, hk, fun k' h' => by rw [arrK_iff]; exact h'⟩
  refine tr2_b ha (fun _ h => h) (fun _ h => h) fun z => ?_
  have hr : Tr2 (repK len z []) (repK len z []) := fun k hk => by rw [repK_iff] at hk; exact ⟨_, hk, fun k' h' => by rw [repK_iff]; exact h'⟩
  refine tr2_b hr (fun _ h => h) (fun _ h => h) fun c => ?_
  exact tr2_b (tr2_fill c (fun i => tr2_ret _) ps) (fun _ h => h) (fun _ h => h) fun c => tr2_ret _
theorem tr2_st {L : Operand → Prop} {s s' : St} (hl : Like L ⟨s.t, [], s.d⟩ ⟨s'.t, [], s'.d⟩) (hh : s'.h = s.h) (t : TypeId) (x y : Operand) (hx : L x) (hy : L y) : Tr2 (stK T s t x y) (stK T s' t x y) := by
  refine tr2_b (ev_slots hl hx) (fun _ h => h) (fun _ h => h) fun a => tr2_b (ev_slots hl hy) (fun _ h => h) (fun _ h => h) fun v => ?_
  rw [hh]
  cases a <;> first | exact tr2_false _ | skip
  rename_i p
  cases p with
  | none => exact tr2_false _
  | some a =>
    obtain ⟨b, o, sp⟩ := a
    cases sp with
    | none => exact tr2_false _
    | some q =>
      refine tr2_b (tr2_ti T t) (fun _ h => h) (fun _ h => h) fun i => tr2_need _ (tr2_b (tr2_nth0 _ _) (fun _ h => h) (fun _ h => h) fun ob => ?_)
      cases ob <;> first | exact tr2_false _ | skip
      rename_i c e f
      obtain ⟨f0, f9⟩ := f
      cases f0 with
      | succ n => exact tr2_false _
      | zero => exact tr2_b (tr2_write _ _ _) (fun _ h => h) (fun _ h => h) fun c => tr2_b (tr2_write _ _ _) (fun _ h => h) (fun _ h => h) fun h => tr2_ret _
theorem undef_fa {o : Oper} {s : St} {K : St → Prop} (hw : GW ops s o false) (h : putK s o.dst undef K) : FA (fun s K => GD P T G F h0 ops s o K) ops o s K := by
  obtain ⟨f, hK⟩ := (putK_iff _ _ _ _).1 h
  exact ⟨undef, f, hK, fun s' K' ha hf hk => ⟨false, hw.alike ha, fun h => (by cases h), fun _ => (putK_iff _ _ _ _).2 ⟨hf, hk⟩⟩⟩
theorem vK_fa {o : Oper} {s : St} {K : St → Prop} (hd : ∀ s' K', vK T G h0 s' o K' → dopK P T G F h0 s' o K') (hw : GW ops s o true) (h : vK T G h0 s o K) : FA (fun s K => GD P T G F h0 ops s o K) ops o s K := by
  have hl : Like (fun x => x ∈ o.op.operands.toList) (⟨s.t, h0, s.d⟩ : St) ⟨s.t, h0, s.d⟩ := ⟨fun _ _ _ h => h, fun _ _ h _ => h⟩
  obtain ⟨v, hv, hg⟩ := tr2_pure (T := T) (G := G) hl o.op (fun _ h => h) _ h
  obtain ⟨f, hK⟩ := (putK_iff _ _ _ _).1 hv
  refine ⟨v, f, hK, fun s' K' ha hf hk => ⟨true, hw.alike ha, fun _ => hd _ _ ?_, fun h => (by cases h)⟩⟩
  obtain ⟨v', rfl, hg'⟩ := tr2_pure (T := T) (G := G) (ha.like (h0 := h0)) o.op (fun _ h => h) _ (hg (fun x => x = v) rfl)
  exact hg' _ ((putK_iff _ _ _ _).2 ⟨hf, hk⟩)
theorem vK_fe {o : Oper} {s : St} {K : St → Prop} (hd : ∀ s' K', vK T G s'.h s' o K' → dopK P T G F h0 s' o K') (hw : GW ops s o true) (h : vK T G s.h s o K) : FE (fun s K => GD P T G F h0 ops s o K) ops o s K := by
  have hl : Like (fun x => x ∈ o.op.operands.toList) (⟨s.t, s.h, s.d⟩ : St) ⟨s.t, s.h, s.d⟩ := ⟨fun _ _ _ h => h, fun _ _ h _ => h⟩
  obtain ⟨v, hv, hg⟩ := tr2_pure (T := T) (G := G) hl o.op (fun _ h => h) _ h
  obtain ⟨f, hK⟩ := (putK_iff _ _ _ _).1 hv
  refine ⟨v, f, hK, fun s' K' ha hh hf hk => ⟨true, hw.alike ha, fun _ => hd _ _ ?_, fun h => (by cases h)⟩⟩
  rw [hh]
  obtain ⟨v', rfl, hg'⟩ := tr2_pure (T := T) (G := G) (ha.like (h0 := s.h)) o.op (fun _ h => h) _ (hg (fun x => x = v) rfl)
  exact hg' _ ((putK_iff _ _ _ _).2 ⟨hf, hk⟩)
theorem gd_form {o : Oper} {s : St} {K : St → Prop} (h : GD P T G F h0 ops s o K) :
    (form F o = 0 → FA (fun s K => GD P T G F h0 ops s o K) ops o s K) ∧
    (form F o = 1 → FA (fun s K => GD P T G F h0 ops s o K) ops o s K ∨ FC (fun s K => GD P T G F h0 ops s o K) ops o s K) ∧
    (form F o = 2 → FA (fun s K => GD P T G F h0 ops s o K) ops o s K ∨ FB P G h0 (fun s K => GD P T G F h0 ops s o K) ops o s K) ∧
    (form F o = 4 → FA (fun s K => GD P T G F h0 ops s o K) ops o s K ∨ FD P G h0 (fun s K => GD P T G F h0 ops s o K) ops o s K) ∧
    (form F o = 3 → FA (fun s K => GD P T G F h0 ops s o K) ops o s K ∨ FW (fun s K => GD P T G F h0 ops s o K) ops o s K) ∧
    (form F o = 5 → FA (fun s K => GD P T G F h0 ops s o K) ops o s K ∨ FE (fun s K => GD P T G F h0 ops s o K) ops o s K) ∧
    (form F o = 6 → FA (fun s K => GD P T G F h0 ops s o K) ops o s K ∨ FG P G (fun s K => GD P T G F h0 ops s o K) ops o s K) := by
  obtain ⟨t, hw, h1, h2⟩ := h
  cases t with
  | false => exact ⟨fun _ => undef_fa hw (h2 rfl), fun _ => .inl (undef_fa hw (h2 rfl)), fun _ => .inl (undef_fa hw (h2 rfl)), fun _ => .inl (undef_fa hw (h2 rfl)), fun _ => .inl (undef_fa hw (h2 rfl)), fun _ => .inl (undef_fa hw (h2 rfl)), fun _ => .inl (undef_fa hw (h2 rfl))⟩
  | true =>
    replace h1 := h1 rfl
    obtain ⟨dst, op, type, pos, after, guard⟩ := o
    cases op
    case alloc t =>
      refine ⟨fun h => (by cases h), fun _ => .inr ?_, fun h => (by cases h), fun h => (by cases h), fun h => (by cases h), fun h => (by cases h), fun h => (by cases h)⟩
      obtain ⟨i, q1, q2, hk⟩ := (tiK_iff _ _ _).1 h1
      rw [arrK_iff, pushK_iff, putK_iff] at hk
      refine ⟨_, fun n => ptr n 0, hk.1, hk.2, fun s' K' ha hf hk' => ⟨true, hw.alike ha, fun _ => (tiK_iff _ _ _).2 ⟨i, q1, q2, ?_⟩, fun h => (by cases h)⟩⟩
      rw [arrK_iff, pushK_iff, putK_iff]
      exact ⟨hf, hk'⟩
    case buildSlice t len parts =>
      refine ⟨fun h => (by cases h), fun _ => .inr ?_, fun h => (by cases h), fun h => (by cases h), fun h => (by cases h), fun h => (by cases h), fun h => (by cases h)⟩
      have hl : Like (fun x => x ∈ (Op.buildSlice t len parts).operands.toList) (⟨s.t, [], s.d⟩ : St) ⟨s.t, [], s.d⟩ := ⟨fun _ _ _ h => h, fun _ _ h _ => h⟩
      have h1' : bsK T s t len parts fun q => pushK s (.cells ⟨q.1⟩ q.2) fun n s => putK s dst (slc n 0 len len) K := h1
      obtain ⟨q, hq, g⟩ := tr2_bs (s := s) (s' := s) hl t len parts (fun x hx => by simp only [Op.operands]; simp; exact ⟨x.1, by simpa using hx⟩) _ h1'
      rw [pushK_iff, putK_iff] at hq
      refine ⟨_, fun n => slc n 0 len len, hq.1, hq.2, fun s' K' ha hf hk' => ⟨true, hw.alike ha, fun _ => ?_, fun h => (by cases h)⟩⟩
      have ha' : Like (fun x => x ∈ (Op.buildSlice t len parts).operands.toList) (⟨s.t, [], s.d⟩ : St) ⟨s'.t, [], s'.d⟩ := ha.like (o := ⟨dst, .buildSlice t len parts, type, pos, after, guard⟩)
      obtain ⟨_, rfl, g'⟩ := tr2_bs ha' t len parts (fun x hx => by simp only [Op.operands]; simp; exact ⟨x.1, by simpa using hx⟩) _ (g (fun x => x = q) rfl)
      refine g' (fun q => pushK s' (.cells ⟨q.1⟩ q.2) fun n s => putK s dst (slc n 0 len len) K') ?_
      rw [pushK_iff, putK_iff]
      exact ⟨hf, hk'⟩
    case store t x y =>
      refine ⟨fun h => (by cases h), fun h => (by cases h), fun h => (by cases h), fun h => (by cases h), fun _ => .inr ?_, fun h => (by cases h), fun h => (by cases h)⟩
      have hx : ∀ z, z = x ∨ z = y → z ∈ (Op.store t x y).operands.toList := fun z hz => by simp [Op.operands]; exact hz
      have hl : Like (fun z => z ∈ (Op.store t x y).operands.toList) (⟨s.t, [], s.d⟩ : St) ⟨s.t, [], s.d⟩ := ⟨fun _ _ _ h => h, fun _ _ h _ => h⟩
      obtain ⟨h', hq, g⟩ := tr2_st (s' := s) hl rfl t x y (hx x (.inl rfl)) (hx y (.inr rfl)) _ h1
      obtain ⟨f, hK⟩ := (putK_iff _ _ _ _).1 (show putK (setH s h') dst undef K from hq.2)
      refine ⟨h', f, hK, fun s' K' ha hh hf hk' => ⟨true, hw.alike ha, fun _ => ?_, fun h => (by cases h)⟩⟩
      have ha' : Like (fun z => z ∈ (Op.store t x y).operands.toList) (⟨s.t, [], s.d⟩ : St) ⟨s'.t, [], s'.d⟩ := ha.like (o := ⟨dst, .store t x y, type, pos, after, guard⟩)
      obtain ⟨_, rfl, g'⟩ := tr2_st ha' hh t x y (hx x (.inl rfl)) (hx y (.inr rfl)) _ (g (fun h => h = h') rfl)
      refine g' _ ⟨hq.1, ?_⟩
      exact (putK_iff _ _ _ _).2 ⟨hf, hk'⟩
    case call c =>
      obtain ⟨callee, args, ats⟩ := c
      cases callee with
      | value f =>
        have hfm : form F (⟨dst, .call ⟨.value f, args, ats⟩, type, pos, after, guard⟩ : Oper) = match freshB F dst with
          | true => 4
          | false => match freshB F (dst.map (· + 1000)) with
            | true => 6
            | false => 2 := rfl
        suffices H : (freshB F dst = false → freshB F (dst.map (· + 1000)) = false → FB P G h0 (fun s K => GD P T G F h0 ops s ⟨dst, .call ⟨.value f, args, ats⟩, type, pos, after, guard⟩ K) ops ⟨dst, .call ⟨.value f, args, ats⟩, type, pos, after, guard⟩ s K) ∧
            (freshB F dst = true → FD P G h0 (fun s K => GD P T G F h0 ops s ⟨dst, .call ⟨.value f, args, ats⟩, type, pos, after, guard⟩ K) ops ⟨dst, .call ⟨.value f, args, ats⟩, type, pos, after, guard⟩ s K) ∧
            (freshB F dst = false → freshB F (dst.map (· + 1000)) = true → FG P G (fun s K => GD P T G F h0 ops s ⟨dst, .call ⟨.value f, args, ats⟩, type, pos, after, guard⟩ K) ops ⟨dst, .call ⟨.value f, args, ats⟩, type, pos, after, guard⟩ s K) by
          rw [hfm]
          cases hb : freshB F dst with
          | true => exact ⟨fun h => (by cases h), fun h => (by cases h), fun h => (by cases h), fun _ => .inr (H.2.1 hb), fun h => (by cases h), fun h => (by cases h), fun h => (by cases h)⟩
          | false =>
            cases hb2 : freshB F (dst.map (· + 1000)) with
            | false => exact ⟨fun h => (by cases h), fun h => (by cases h), fun _ => .inr (H.1 hb hb2), fun h => (by cases h), fun h => (by cases h), fun h => (by cases h), fun h => (by cases h)⟩
            | true => exact ⟨fun h => (by cases h), fun h => (by cases h), fun h => (by cases h), fun h => (by cases h), fun h => (by cases h), fun h => (by cases h), fun _ => .inr (H.2.2 hb hb2)⟩
        have hl : Like (fun x => x ∈ (Op.call ⟨.value f, args, ats⟩).operands.toList) s s := ⟨fun _ _ _ h => h, fun _ _ h _ => h⟩
        have hf : f ∈ (Op.call ⟨.value f, args, ats⟩).operands.toList := by simp [Op.operands, Call.operands]
        have hargs : ∀ x ∈ args.toList, x ∈ (Op.call ⟨.value f, args, ats⟩).operands.toList := fun x h => by simp [Op.operands, Call.operands] at h ⊢; exact .inr h
        obtain ⟨vf, h2, g1⟩ := tr2_ev hl hf _ h1
        obtain ⟨vs, h3, g2⟩ := tr2_evs hl _ hargs _ h2
        have back : ∀ s' K', Alike ops (⟨dst, .call ⟨.value f, args, ats⟩, type, pos, after, guard⟩ : Oper) s s' → dcallK P G F h0 s' dst vf vs K' →
            GD P T G F h0 ops s' (⟨dst, .call ⟨.value f, args, ats⟩, type, pos, after, guard⟩ : Oper) K' := by
          intro s' K' ha hk
          refine ⟨true, hw.alike ha, fun _ => ?_, fun h => (by cases h)⟩
          have hl' : Like (fun x => x ∈ (Op.call ⟨.value f, args, ats⟩).operands.toList) ⟨s.t, [], s.d⟩ ⟨s'.t, [], s'.d⟩ := ha.like (o := ⟨dst, .call ⟨.value f, args, ats⟩, type, pos, after, guard⟩)
          have hl'' : Like (fun x => x ∈ (Op.call ⟨.value f, args, ats⟩).operands.toList) ⟨s.t, [], s.d⟩ s' := ⟨hl'.ev, fun _ _ h _ => by simp at h⟩
          have hl0 : Like (fun x => x ∈ (Op.call ⟨.value f, args, ats⟩).operands.toList) s ⟨s.t, s.h, s.d⟩ := hl
          have e1 : Tr2 (evK s f) (evK s' f) := fun k hk => tr2_ev hl'' hf k hk
          have e2 : Tr2 (evsK s args.toList) (evsK s' args.toList) := by
            have : ∀ l : List Operand, (∀ x ∈ l, x ∈ (Op.call ⟨.value f, args, ats⟩).operands.toList) → Tr2 (evsK s l) (evsK s' l) := by
              intro l
              induction l with
              | nil => intro _; exact tr2_ret _
              | cons x l ih =>
                intro hx
                have e : Tr2 (evK s x) (evK s' x) := fun k hk => tr2_ev hl'' (hx x List.mem_cons_self) k hk
                exact tr2_b (e) (fun _ h => h) (fun _ h => h) fun v => tr2_b (ih fun y hy => hx y (List.mem_cons_of_mem _ hy)) (fun _ h => h) (fun _ h => h) fun vs => tr2_ret _
            exact this _ hargs
          obtain ⟨_, rfl, z1⟩ := e1 _ (g1 (fun x => x = vf) rfl)
          obtain ⟨_, rfl, z2⟩ := e2 _ (g2 (fun x => x = vs) rfl)
          exact z1 _ (z2 _ hk)
        cases vf <;> try exact h3.elim
        rename_i fn fs cs
        cases fn <;> try exact h3.elim
        rename_i n
        obtain ⟨fs⟩ := fs
        cases fs <;> try exact h3.elim
        have h4 : arrK cs fun cs => appK vs cs fun all => CallOk P G F h0 s dst n all K := h3
        rw [arrK_iff, appK_iff] at h4
        refine ⟨fun hb hb2 => ?_, fun hb => ?_, fun hb hb2 => ?_⟩
        · rw [callOk_quiet hb hb2] at h4
          refine ⟨n, _, h4.mono fun v hc hk => (putK_iff _ _ _ _).1 hk, fun s' K' ha hk => back s' K' ha ?_⟩
          show arrK cs fun cs => appK vs cs fun all => CallOk P G F h0 s' dst n all K'
          rw [arrK_iff, appK_iff, callOk_quiet hb hb2]
          exact hk.mono fun v hc hk => (putK_iff _ _ _ _).2 hk
        · rw [callOk_fresh hb] at h4
          refine ⟨n, _, h4.mono fun ob p hk => (putK_iff _ _ _ _).1 hk, fun s' K' ha hk => back s' K' ha ?_⟩
          show arrK cs fun cs => appK vs cs fun all => CallOk P G F h0 s' dst n all K'
          rw [arrK_iff, appK_iff, callOk_fresh hb]
          exact hk.mono fun ob p hk => (putK_iff _ _ _ _).2 hk
        · rw [callOk_full hb hb2] at h4
          refine ⟨n, _, ac_mono h4 fun v h' hk => ⟨hk.1, hk.2.1, (putK_iff _ _ _ _).1 hk.2.2⟩, fun s' K' ha _ hk => back s' K' ha ?_⟩
          show arrK cs fun cs => appK vs cs fun all => CallOk P G F h0 s' dst n all K'
          rw [arrK_iff, appK_iff, callOk_full hb hb2]
          exact ac_mono hk fun v h' hk => ⟨hk.1, hk.2.1, (putK_iff _ _ _ _).2 hk.2.2⟩
      | builtin b =>
        refine ⟨fun _ => ?_, fun h => (by cases h), fun h => (by cases h), fun h => (by cases h), fun h => (by cases h), fun h => (by cases h), fun h => (by cases h)⟩
        cases b <;> first | exact h1.elim | exact vK_fa (fun _ _ h => h) hw h1
      | invoke r m => exact h1.elim
    case convert src dst' x =>
      have hfm : form F (⟨dst, .convert src dst' x, type, pos, after, guard⟩ : Oper) = match freshB F dst with
        | true => 5
        | false => 0 := rfl
      have hdk : ∀ (s : St) (K : St → Prop), dopK P T G F h0 s (⟨dst, .convert src dst' x, type, pos, after, guard⟩ : Oper) K = match freshB F dst with
        | true => vK T G s.h s (⟨dst, .convert src dst' x, type, pos, after, guard⟩ : Oper) K
        | false => vK T G h0 s (⟨dst, .convert src dst' x, type, pos, after, guard⟩ : Oper) K := fun _ _ => rfl
      rw [hfm]
      rw [hdk] at h1
      cases hb : freshB F dst with
      | true =>
        rw [hb] at h1
        exact ⟨fun h => (by cases h), fun h => (by cases h), fun h => (by cases h), fun h => (by cases h), fun h => (by cases h), fun _ => .inr (vK_fe (fun s' K' h => by rw [hdk, hb]; exact h) hw h1), fun h => (by cases h)⟩
      | false =>
        rw [hb] at h1
        exact ⟨fun _ => vK_fa (fun s' K' h => by rw [hdk, hb]; exact h) hw h1, fun h => (by cases h), fun h => (by cases h), fun h => (by cases h), fun h => (by cases h), fun h => (by cases h), fun h => (by cases h)⟩
    case load t' x =>
      have hfm : form F (⟨dst, .load t' x, type, pos, after, guard⟩ : Oper) = match freshB F dst with
        | true => 5
        | false => 0 := rfl
      have hdk : ∀ (s : St) (K : St → Prop), dopK P T G F h0 s (⟨dst, .load t' x, type, pos, after, guard⟩ : Oper) K = match freshB F dst with
        | true => vK T G s.h s (⟨dst, .load t' x, type, pos, after, guard⟩ : Oper) K
        | false => vK T G h0 s (⟨dst, .load t' x, type, pos, after, guard⟩ : Oper) K := fun _ _ => rfl
      rw [hfm]
      rw [hdk] at h1
      cases hb : freshB F dst with
      | true =>
        rw [hb] at h1
        exact ⟨fun h => (by cases h), fun h => (by cases h), fun h => (by cases h), fun h => (by cases h), fun h => (by cases h), fun _ => .inr (vK_fe (fun s' K' h => by rw [hdk, hb]; exact h) hw h1), fun h => (by cases h)⟩
      | false =>
        rw [hb] at h1
        exact ⟨fun _ => vK_fa (fun s' K' h => by rw [hdk, hb]; exact h) hw h1, fun h => (by cases h), fun h => (by cases h), fun h => (by cases h), fun h => (by cases h), fun h => (by cases h), fun h => (by cases h)⟩
    all_goals exact ⟨fun _ => vK_fa (fun _ _ h => h) hw h1, fun h => (by cases h), fun h => (by cases h), fun h => (by cases h), fun h => (by cases h), fun h => (by cases h), fun h => (by cases h)⟩
end
end Go.Proofs.YtjpjnjidchdlbaaDoor
