/-
  Contracts over blocks that are read alone, put to use.
-/
import Derived.Test.YtjpjnjidchdlbaaDoorEngT
namespace Go.Proofs.YtjpjnjidchdlbaaDoor
set_option linter.unusedSimpArgs false
set_option linter.unusedVariables false
open Go Go.RowKit

section
variable {P : Program} {G : List (Nat × Obj)}
/-- each block of the contract lies in the heap, at the names of sg -/
def ColdOk (h : List Obj) : List Nat → List Obj → Prop
  | m :: sg, .pending c t :: h0 => (h[m]? = some (.pending c t) ∨ ((∀ x ∈ c.toList, cleanV x = true) ∧ ∃ g, h[m]? = some (.cells c t g))) ∧ ColdOk h sg h0
  | [], [] => True
  | m :: sg, .cells c t f :: h0 => (f.1 ≠ 0 ∧ c.toList.all cleanV = true ∧ ∃ g, h[m]? = some (.cells c t g)) ∧ ColdOk h sg h0
  | _, _ => False
theorem cold_at {h : List Obj} : ∀ (sg : List Nat) (h0 : List Obj), ColdOk h sg h0 → ∀ (i : Nat) (o : Obj), h0[i]? = some o →
    (∃ c t f, o = .cells c t f ∧ f.1 ≠ 0 ∧ c.toList.all cleanV = true ∧ ∃ g, h[sg.getD i 0]? = some (.cells c t g)) ∨
    ∃ c t, o = .pending c t ∧ (h[sg.getD i 0]? = some (.pending c t) ∨ ((∀ x ∈ c.toList, cleanV x = true) ∧ ∃ g, h[sg.getD i 0]? = some (.cells c t g)))
  | [], [], _, i, o, hi => by simp at hi
  | m :: sg, .cells c t f :: h0, H, i, o, hi => by
    obtain ⟨⟨h1, h2, h3⟩, h4⟩ := H
    cases i with
    | zero => simp at hi; subst hi; exact .inl ⟨c, t, f, rfl, h1, h2, by simpa using h3⟩
    | succ i => simpa using cold_at sg h0 h4 i o (by simpa using hi)
  | m :: sg, .pending c t :: h0, H, i, o, hi => by
    obtain ⟨h1, h4⟩ := H
    cases i with
    | zero => simp at hi; subst hi; exact .inr ⟨c, t, rfl, by simpa using h1⟩
    | succ i => simpa using cold_at sg h0 h4 i o (by simpa using hi)
theorem cold_le {h h0 : List Obj} {sg : List Nat} (hh : ColdOk h sg h0) {i : Nat} {o : Obj} (hi : h0[i]? = some o) :
    hot o = false ∧ (∀ v ∈ cellsOf o, s1 h0.length v) ∧ ∃ o', h[sg.getD i 0]? = some o' ∧ ObjLe (rO (nu h0.length h.length sg) o) o' := by
  rcases cold_at _ _ hh i o hi with ⟨c, t, f, rfl, h1, h2, g, h3⟩ | ⟨c, t, rfl, h3 | ⟨h2, g, h3⟩⟩
  rotate_left
  · exact ⟨rfl, fun x hx => by simp [cellsOf] at hx, _, h3, .inl rfl⟩
  · exact ⟨rfl, fun x hx => by simp [cellsOf] at hx, _, h3, .inr (.inr ⟨c, t, g, rfl, h2, rfl⟩)⟩
  have hc : ∀ x ∈ c.toList, cleanV x = true := List.all_eq_true.1 h2
  refine ⟨by simp [hot, h1], fun x hx => (clean_s1 (hc x hx) _).1, _, h3, ?_⟩
  have : rO (nu h0.length h.length sg) (.cells c t f) = .cells c t f := by
    simp only [rO]
    rw [map_self _ _ fun x hx => (clean_s1 (hc x hx) 0).2 _]
  rw [this]
  exact .inr (.inl ⟨c, t, f, g, rfl, h1, rfl⟩)
/-- a call whose contract reads the blocks of h0 alone, and hands back a value without names -/
theorem ac_read {f : FuncId} {args0 args : List Value} {h0 h : List Obj} {k0 k : Value → List Obj → Prop} (sg : List Nat) (H : AC P G f args0 h0 k0)
    (hargs : args = args0.map (r3 (nu h0.length h.length sg))) (hs : args0.all (scop3 h0.length) = true) (hh : ColdOk h sg h0)
    (hk : ∀ v h', k0 v h' → closedV v = true ∧ h' = h0 ∧ k v h) : AC P G f args h k := by
  refine ac_frame sg H hargs (fun v hv => (scop3_ok (List.all_eq_true.1 hs v hv)).1) (fun i o hi => cold_le hh hi) fun v h' hk0 => ?_
  obtain ⟨h1, rfl, h2⟩ := hk v h' hk0
  exact ⟨[], by simp, by rw [(closed_ok h1 0).2]; simpa using h2⟩
/-- a call that lays one block -/
theorem ac_new {f : FuncId} {args0 args : List Value} {h0 h : List Obj} {k0 k : Value → List Obj → Prop} (sg : List Nat) (H : AC P G f args0 h0 k0)
    (hargs : args = args0.map (r3 (nu h0.length h.length sg))) (hs : args0.all (scop3 h0.length) = true) (hh : ColdOk h sg h0)
    (hk : ∀ v h', k0 v h' → ∃ c t g, h' = h0 ++ [.cells c t g] ∧ (∀ x ∈ c.toList, cleanV x = true) ∧ k (r3 (nu h0.length h.length sg) v) (h ++ [.cells c t g])) : AC P G f args h k := by
  refine ac_frame sg H hargs (fun v hv => (scop3_ok (List.all_eq_true.1 hs v hv)).1) (fun i o hi => cold_le hh hi) fun v h' hk0 => ?_
  obtain ⟨c, t, g, rfl, hc, h2⟩ := hk v h' hk0
  refine ⟨[.cells c t g], rfl, ?_⟩
  have : rO (nu h0.length h.length sg) (.cells c t g) = .cells c t g := by
    simp only [rO]
    rw [map_self _ _ fun x hx => (clean_s1 (hc x hx) 0).2 _]
  simpa [this] using h2
/-- the same in a drawing region -/
theorem quiet_read {f : FuncId} {args0 args : List Value} {h0 hs : List Obj} {k0 : Value → List Obj → Prop} {s : St} {d : Option Nat} {K : St → Prop} (sg : List Nat) (H : AC P G f args0 hs k0)
    (hargs : ∀ m, args = args0.map (r3 (nu hs.length m sg))) (hsc : args0.all (scop3 hs.length) = true) (hh : ∀ h, Pre h0 h → ColdOk h sg hs)
    (hk : ∀ v h', k0 v h' → closedV v = true ∧ h' = hs ∧ putK s d v K) : Quiet P G h0 f args fun v => putK s d v K :=
  fun h hp => ac_read sg H (hargs _) hsc (hh h hp) fun v h' q => ⟨(hk v h' q).1, (hk v h' q).2.1, (hk v h' q).1, rfl, (hk v h' q).2.2⟩
/-- a call that lays one block, by a contract over a small heap -/
theorem fresh_read {f : FuncId} {args0 args : List Value} {h0 hs : List Obj} {k0 : Value → List Obj → Prop} {s : St} {d : Option Nat} {K : St → Prop} (sg : List Nat) (H : AC P G f args0 hs k0)
    (hargs : ∀ m, args = args0.map (r3 (nu hs.length m sg))) (hsc : args0.all (scop3 hs.length) = true) (hh : ∀ h, Pre h0 h → ColdOk h sg hs)
    (hk : ∀ v h', k0 v h' → ∃ (c : Array Value) (t : TypeId) (g : Nat × Nat) (p : Nat → Value), h' = hs ++ [.cells c t g] ∧ (∀ x ∈ c.toList, cleanV x = true) ∧ (∀ m, r3 (nu hs.length m sg) v = p m) ∧ putK (grow s (.cells c t g)) d (p s.h.length) K) :
    Fresh P G h0 f args fun ob p => putK (grow s ob) d (p s.h.length) K := by
  intro h hp
  refine ac_frame sg H (hargs _) (fun v hv => (scop3_ok (List.all_eq_true.1 hsc v hv)).1) (fun i o hi => ?_) fun v h' hk0 => ?_
  · exact cold_le (hh h hp) hi
  · obtain ⟨c, t, g, p, rfl, hc, h2, h3⟩ := hk v h' hk0
    refine ⟨[.cells c t g], rfl, .cells c t g, p, h2 _, ?_, h3⟩
    have : rO (nu hs.length h.length sg) (.cells c t g) = .cells c t g := by
      simp only [rO]
      rw [map_self _ _ fun x hx => (clean_s1 (hc x hx) 0).2 _]
    simp [this]
end
end Go.Proofs.YtjpjnjidchdlbaaDoor
