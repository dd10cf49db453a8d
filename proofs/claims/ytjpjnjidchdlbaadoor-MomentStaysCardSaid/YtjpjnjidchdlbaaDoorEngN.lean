/-
  Small words for walks over abstract states (no condition).
-/
import Derived.Test.YtjpjnjidchdlbaaDoorEngM
namespace Go.Proofs.YtjpjnjidchdlbaaDoor
set_option linter.unusedSimpArgs false
set_option linter.unusedVariables false
open Go Go.RowKit

theorem ways {b : Bool} {p q : Prop} (h1 : b = true → p) (h0 : b = false → q) : @Bool.rec (fun _ => Prop) q p b := by
  cases b
  · exact h0 rfl
  · exact h1 rfl
theorem way1 {b : Bool} {p q : Prop} (h : b = true) (h1 : p) : @Bool.rec (fun _ => Prop) q p b := by subst h; exact h1
theorem way0 {b : Bool} {p q : Prop} (h : b = false) (h0 : q) : @Bool.rec (fun _ => Prop) q p b := by subst h; exact h0
theorem nthK_of {α : Type} {l : List α} {n : Nat} {k : α → Prop} {a : α} (h : l[n]? = some a) (hk : k a) : nthK l n k := (nthK_iff l n k).2 ⟨a, h, hk⟩
theorem partK_scalar {c : List Value} {o n : Nat} {k : Value → Prop} {v : Value} (h : c[o]? = some v) (hk : k v) : partK c o false n k := nthK_of h hk
theorem partK_agg {c : List Value} {o n : Nat} {k : Value → Prop} {l : List Value} (h1 : (c.drop o).take n = l) (h2 : o + n ≤ c.length) (hk : k (.agg ⟨l⟩)) : partK c o true n k := by
  simp only [partK, dropK_iff, takeK_iff]
  exact ⟨by omega, by simp; omega, by rw [h1]; exact hk⟩
theorem clean_s1 {v : Value} (h : cleanV v = true) (n : Nat) : s1 n v ∧ ∀ t, r1 t v = v := by
  cases v <;> first | exact ⟨trivial, fun _ => rfl⟩ | (simp [cleanV] at h; done) | skip
  · rename_i p; cases p <;> first | exact ⟨trivial, fun _ => rfl⟩ | (simp [cleanV] at h)
  · rename_i p l c; cases p <;> first | exact ⟨trivial, fun _ => rfl⟩ | (simp [cleanV] at h)
  · rename_i p; cases p <;> first | exact ⟨trivial, fun _ => rfl⟩ | (simp [cleanV] at h)
theorem closed2_ok {v : Value} (h : closed2 v = true) (n : Nat) : s2 n v ∧ ∀ t, r2 t v = v := by
  cases v with
  | agg cs =>
    have hc : ∀ x ∈ cs.toList, cleanV x = true := List.all_eq_true.1 h
    refine ⟨fun x hx => (clean_s1 (hc x hx) n).1, fun t => ?_⟩
    simp only [r2]
    rw [map_self _ _ fun x hx => (clean_s1 (hc x hx) n).2 t]
  | tuple vs => simp [closed2, cleanV] at h
  | func f fs cs => simp [closed2, cleanV] at h
  | pointer p => cases p <;> first | exact ⟨trivial, fun _ => rfl⟩ | (simp [closed2, cleanV] at h)
  | slice p l c => cases p <;> first | exact ⟨trivial, fun _ => rfl⟩ | (simp [closed2, cleanV] at h)
  | map p => cases p <;> first | exact ⟨trivial, fun _ => rfl⟩ | (simp [closed2, cleanV] at h)
  | _ => exact ⟨trivial, fun _ => rfl⟩
theorem closed_ok {v : Value} (h : closedV v = true) (n : Nat) : s3 n v ∧ ∀ t, r3 t v = v := by
  cases v with
  | tuple vs =>
    have hc : ∀ x ∈ vs.toList, closed2 x = true := List.all_eq_true.1 h
    refine ⟨fun x hx => (closed2_ok (hc x hx) n).1, fun t => ?_⟩
    simp only [r3]
    rw [map_self _ _ fun x hx => (closed2_ok (hc x hx) n).2 t]
  | agg cs => exact closed2_ok (v := .agg cs) h n
  | func f fs cs => simp [closedV, closed2, cleanV] at h
  | pointer p => exact closed2_ok (v := .pointer p) h n
  | slice p l c => exact closed2_ok (v := .slice p l c) h n
  | map p => exact closed2_ok (v := .map p) h n
  | _ => exact ⟨trivial, fun _ => rfl⟩
def isCells (o : Obj) : Bool := match o with
  | .cells _ _ _ => true
  | .map _ _ => true
  | _ => false
theorem isCells_ok {o : Obj} (h : isCells o = true) : (∃ c t f, o = .cells c t f) ∨ ∃ es n, o = .map es n := by
  cases o <;> first | exact .inl ⟨_, _, _, rfl⟩ | exact .inr ⟨_, _, rfl⟩ | (simp [isCells] at h)
/-- the body hands back a value without names, and leaves what it was given as it was -/
theorem fin_closed {h0 : List Obj} {k : Value → List Obj → Prop} {v : Value} {s : St} (hv : closedV v = true) (hp : ∃ rest, s.h = h0 ++ rest) (_hc : h0.all isCells = true) (hk : k v h0) : Fin h0 k v s := by
  obtain ⟨rest, hp⟩ := hp
  obtain ⟨h1, h2⟩ := closed_ok hv (h0.length + 0)
  refine ⟨h0, [], v, [], (h2 _).symm, h1, rfl, fun i o hi => .inl ⟨hi, ?_⟩, rfl, fun j o hj => by simp at hj, List.nodup_nil, by simpa using hk⟩
  have : i < h0.length := (List.getElem?_eq_some_iff.1 hi).1
  rw [hp, List.getElem?_append_left this]; exact hi
/-- a scalar with names below n -/
def scopA (n : Nat) (a : Addr) : Bool := match a.spot with
  | none => true
  | some _ => Nat.blt a.block n
def scop0 (n : Nat) (v : Value) : Bool := match v with
  | .pointer (some a) => scopA n a
  | .slice (some a) _ _ => scopA n a
  | .map (some b) => Nat.blt b n
  | .agg _ => false
  | .tuple _ => false
  | .func _ _ _ => false
  | _ => true
def scop1 (n : Nat) (v : Value) : Bool := match v with
  | .func _ fs cs => fs.toList.all (scop0 n) && cs.toList.all (scop0 n)
  | v => scop0 n v
theorem scopA_ok {n : Nat} {a : Addr} (h : scopA n a = true) : sA n a := by
  intro s hs
  simp only [scopA, hs] at h
  exact Nat.le_of_ble_eq_true h
theorem scop0_ok {n : Nat} {v : Value} (h : scop0 n v = true) : s0 n v := by
  cases v with
  | pointer p => cases p with
    | none => trivial
    | some p => exact scopA_ok h
  | slice p l c => cases p with
    | none => trivial
    | some p => exact scopA_ok h
  | map p => cases p with
    | none => trivial
    | some p => exact Nat.le_of_ble_eq_true h
  | agg _ => cases h
  | tuple _ => cases h
  | func _ _ _ => cases h
  | _ => trivial
theorem scop1_ok {n : Nat} {v : Value} (h : scop1 n v = true) : s1 n v := by
  cases v with
  | func f fs cs =>
    simp only [scop1, Bool.and_eq_true, List.all_eq_true] at h
    exact ⟨fun x hx => scop0_ok (h.1 x hx), fun x hx => scop0_ok (h.2 x hx)⟩
  | pointer p => cases p with
    | none => trivial
    | some p => exact scopA_ok h
  | slice p l c => cases p with
    | none => trivial
    | some p => exact scopA_ok h
  | map p => cases p with
    | none => trivial
    | some p => exact Nat.le_of_ble_eq_true h
  | agg _ => cases h
  | tuple _ => cases h
  | _ => trivial
/-- the body hands back a value without names; it has turned what it was given into h1 -/
theorem fin_turned {h0 : List Obj} {k : Value → List Obj → Prop} {v : Value} {s : St} (h1 : List Obj) (hv : closedV v = true) (hp : ∃ rest, s.h = h1 ++ rest) (hl : h1.length = h0.length)
    (hs : h1.all (fun o => (cellsOf o).all (scop1 h0.length)) = true) (hk : k v h1) : Fin h0 k v s := by
  obtain ⟨rest, hp⟩ := hp
  obtain ⟨z1, z2⟩ := closed_ok hv (h0.length + 0)
  have hid : ∀ i, i < h0.length → tau h0.length [] i = i := fun i hi => by simp only [tau, if_pos hi]
  refine ⟨h1, [], v, [], (z2 _).symm, z1, hl, fun i o hi => .inr ?_, rfl, fun j o hj => by simp at hj, List.nodup_nil, by simpa using hk⟩
  have hlt : i < h1.length := (List.getElem?_eq_some_iff.1 hi).1
  have hsc : ∀ x ∈ cellsOf o, s1 h0.length x := fun x hx => scop1_ok (List.all_eq_true.1 (List.all_eq_true.1 hs o (List.mem_of_getElem? hi)) x hx)
  refine ⟨?_, hsc⟩
  rw [rO_id hid hsc, hp, List.getElem?_append_left hlt]; exact hi
/-- a call of a function that reads no tracked block -/
theorem ac_pure {P : Program} {G : List (Nat × Obj)} {f : FuncId} {args : List Value} {h : List Obj} {k0 k : Value → List Obj → Prop} (H : AC P G f args [] k0)
    (ha : args.all closedV = true) (hk : ∀ v h', k0 v h' → closedV v = true ∧ h' = [] ∧ k v h) : AC P G f args h k := by
  have hcl : ∀ v ∈ args, closedV v = true := List.all_eq_true.1 ha
  refine ac_frame [] H ?_ (fun v hv => (closed_ok (hcl v hv) _).1) (fun i o hi => by simp at hi) ?_
  · rw [List.map_congr_left (g := id)]
    · simp
    · intro v hv; exact (closed_ok (hcl v hv) 0).2 _
  · intro v h' hk0
    obtain ⟨h1, rfl, h2⟩ := hk v h' hk0
    exact ⟨[], rfl, by rw [(closed_ok h1 0).2]; simpa using h2⟩
end Go.Proofs.YtjpjnjidchdlbaaDoor
