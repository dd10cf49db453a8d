/-
  Contracts over blocks that are read alone, put to use.
-/
import Derived.Test.YtjpjnjidchdlbaaEngT
namespace Go.Proofs.Ytjpjnjidchdlbaa
set_option linter.unusedSimpArgs false
set_option linter.unusedVariables false
open Go Go.RowKit

section
variable {P : Program} {G : List (Nat × Obj)}
/-- each block of the contract lies in the heap, at the names of sg -/
def ColdOk (h : List Obj) : List Nat → List Obj → Prop
  | [], [] => True
  | m :: sg, .cells c t f :: h0 => (f.1 ≠ 0 ∧ c.toList.all cleanV = true ∧ ∃ g, h[m]? = some (.cells c t g)) ∧ ColdOk h sg h0
  | _, _ => False
theorem cold_at {h : List Obj} : ∀ (sg : List Nat) (h0 : List Obj), ColdOk h sg h0 → ∀ (i : Nat) (o : Obj), h0[i]? = some o →
    ∃ c t f, o = .cells c t f ∧ f.1 ≠ 0 ∧ c.toList.all cleanV = true ∧ ∃ g, h[sg.getD i 0]? = some (.cells c t g)
  | [], [], _, i, o, hi => by simp at hi
  | m :: sg, .cells c t f :: h0, H, i, o, hi => by
    obtain ⟨⟨h1, h2, h3⟩, h4⟩ := H
    cases i with
    | zero => simp at hi; subst hi; exact ⟨c, t, f, rfl, h1, h2, by simpa using h3⟩
    | succ i => simpa using cold_at sg h0 h4 i o (by simpa using hi)
/-- a call whose contract reads the blocks of h0 alone, and hands back a value without names -/
theorem ac_read {f : FuncId} {args0 args : List Value} {h0 h : List Obj} {k0 k : Value → List Obj → Prop} (sg : List Nat) (H : AC P G f args0 h0 k0)
    (hargs : args = args0.map (r3 (nu h0.length h.length sg))) (hs : args0.all (scop3 h0.length) = true) (hh : ColdOk h sg h0)
    (hk : ∀ v h', k0 v h' → closedV v = true ∧ h' = h0 ∧ k v h) : AC P G f args h k := by
  refine ac_frame sg H hargs (fun v hv => (scop3_ok (List.all_eq_true.1 hs v hv)).1) (fun i o hi => ?_) fun v h' hk0 => ?_
  · obtain ⟨c, t, f, rfl, h1, h2, g, h3⟩ := cold_at _ _ hh i o hi
    have hc : ∀ x ∈ c.toList, cleanV x = true := List.all_eq_true.1 h2
    refine ⟨by simp [hot, h1], fun x hx => (clean_s1 (hc x hx) _).1, _, h3, ?_⟩
    have : rO (nu h0.length h.length sg) (.cells c t f) = .cells c t f := by
      simp only [rO]
      rw [map_self _ _ fun x hx => (clean_s1 (hc x hx) 0).2 _]
    rw [this]
    exact .inr ⟨c, t, f, g, rfl, h1, rfl⟩
  · obtain ⟨h1, rfl, h2⟩ := hk v h' hk0
    exact ⟨[], by simp, by rw [(closed_ok h1 0).2]; simpa using h2⟩
end
end Go.Proofs.Ytjpjnjidchdlbaa
