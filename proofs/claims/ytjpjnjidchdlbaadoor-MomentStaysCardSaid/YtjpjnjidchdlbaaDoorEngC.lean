/-
  Lemmas on names, on lists in continuation style, and on what an abstract state says: nothing is claimed of the program (no condition).
-/
import Derived.Test.YtjpjnjidchdlbaaDoorEngB
import Derived.WalkKit
import Derived.WalkSpells
import Derived.WalkLawsBesides
namespace Go.Proofs.YtjpjnjidchdlbaaDoor
set_option linter.unusedSimpArgs false
set_option linter.unusedVariables false
open Go Go.RowKit

/-! ## Lists -/
section lists
variable {α : Type}
theorem nthK_iff (l : List α) : ∀ (n : Nat) (k : α → Prop), nthK l n k ↔ ∃ a, l[n]? = some a ∧ k a := by
  induction l with
  | nil => intro n k; simp [nthK_n, nthK_z]
  | cons a t ih =>
    intro n k
    cases n with
    | zero => simp [nthK_n, nthK_z]
    | succ n => simp [nthK_s, ih]
theorem takeK_iff : ∀ (n : Nat) (l : List α) (k : List α → Prop), takeK l n k ↔ n ≤ l.length ∧ k (l.take n) := by
  intro n
  induction n with
  | zero => intro l k; simp [takeK_z, takeK_n]
  | succ n ih =>
    intro l k
    cases l with
    | nil => simp [takeK_z, takeK_n]
    | cons a t => simp [takeK_s, ih]
theorem dropK_iff : ∀ (n : Nat) (l : List α) (k : List α → Prop), dropK l n k ↔ n ≤ l.length ∧ k (l.drop n) := by
  intro n
  induction n with
  | zero => intro l k; simp [dropK_z, dropK_n]
  | succ n ih =>
    intro l k
    cases l with
    | nil => simp [dropK_z, dropK_n]
    | cons a t => simp [dropK_s, ih]
theorem overK_iff : ∀ (vs l : List α) (k : List α → Prop), overK l vs k ↔ vs.length ≤ l.length ∧ k (vs ++ l.drop vs.length) := by
  intro vs
  induction vs with
  | nil => intro l k; simp [overK_z, overK_n]
  | cons v vs ih =>
    intro l k
    cases l with
    | nil => simp [overK_z, overK_n]
    | cons a t => simp [overK_s, ih]
theorem writeK_iff : ∀ (n : Nat) (l vs : List α) (k : List α → Prop), writeK l n vs k ↔ n + vs.length ≤ l.length ∧ k (l.take n ++ vs ++ l.drop (n + vs.length)) := by
  intro n
  induction n with
  | zero => intro l vs k; simp [writeK_z, overK_iff]
  | succ n ih =>
    intro l vs k
    cases l with
    | nil => simp [writeK_n]
    | cons a t =>
      simp only [writeK_s, ih, List.length_cons, List.take_succ_cons, List.cons_append]
      have e : n + 1 + vs.length = (n + vs.length) + 1 := by omega
      rw [e, List.drop_succ_cons]
      constructor
      · rintro ⟨h, h'⟩; exact ⟨by omega, h'⟩
      · rintro ⟨h, h'⟩; exact ⟨by omega, h'⟩
theorem appK_iff : ∀ (l m : List α) (k : List α → Prop), appK l m k ↔ k (l ++ m) := by
  intro l
  induction l with
  | nil => intro m k; simp [appK_n]
  | cons a t ih => intro m k; simp [appK_s, ih]
theorem spineK_iff : ∀ (l : List α) (k : List α → Prop), spineK l k ↔ k l := by
  intro l
  induction l with
  | nil => intro k; simp [spineK_n]
  | cons a t ih => intro k; simp [spineK_s, ih]
theorem arrK_iff (a : Array α) (k : List α → Prop) : arrK a k ↔ k a.toList := by
  cases a; simp [arrK, spineK_iff]
theorem repK_iff (l : List α) : ∀ (n : Nat) (acc : List α) (k : List α → Prop), repK n l acc k ↔ k ((List.replicate n l).flatten ++ acc) := by
  intro n
  induction n with
  | zero => intro acc k; simp [repK_z]
  | succ n ih =>
    intro acc k
    simp only [repK_s, appK_iff, ih]
    have : (List.replicate n l).flatten ++ (l ++ acc) = (List.replicate (n + 1) l).flatten ++ acc := by
      rw [List.replicate_succ', List.flatten_append]; simp
    rw [this]
theorem litK_iff (n : Nat) (k : Nat → Prop) : litK n k ↔ k n := Iff.rfl
theorem cntK_iff : ∀ (l : List α) (n : Nat) (k : Nat → Prop), cntK l n k ↔ k (n + l.length) := by
  intro l
  induction l with
  | nil => intro n k; simp [cntK_n]
  | cons a t ih =>
    intro n k
    simp only [cntK_s, litK_iff, ih, List.length_cons]
    rw [show n + 1 + t.length = n + (t.length + 1) from by omega]
end lists
theorem need_iff (b : Bool) (p : Prop) : need b p ↔ b = true ∧ p := by cases b <;> simp [need]
theorem bcase_iff (b : Bool) (p : Bool → Prop) : bcase b p ↔ p b := by cases b <;> simp [bcase]
theorem tiK_iff (T : Tab) (t : Nat) (k : TI → Prop) : tiK T t k ↔ ∃ i, (T[t / 16]?).bind (fun r => r[t % 16]?) = some i ∧ i.bad = false ∧ k i := by
  unfold tiK
  simp only [nthK_iff]
  constructor
  · rintro ⟨r, h1, i, h2, h3⟩
    cases hb : i.bad with
    | true => simp [hb] at h3
    | false => simp only [hb] at h3; exact ⟨i, by rw [h1]; exact h2, hb, h3⟩
  · rintro ⟨i, h1, hb, h3⟩
    cases hr : T[t / 16]? with
    | none => rw [hr] at h1; cases h1
    | some r =>
      rw [hr] at h1
      exact ⟨r, rfl, i, h1, by rw [hb]; exact h3⟩

theorem foldN_eq (k : IntKind) (r : Nat) (h : r < modN k) : foldN k r = if halfN k ≤ r then (r : Int) - (modN k : Int) else r := by
  unfold foldN
  cases hb : Nat.ble (halfN k) r with
  | true =>
    have := Nat.le_of_ble_eq_true hb
    rw [if_pos this]
    simp only [Int.negSucc_eq]; omega
  | false =>
    have : ¬ halfN k ≤ r := fun h' => by rw [Nat.ble_eq_true_of_le h'] at hb; cases hb
    rw [if_neg this]; rfl
theorem wrapS_eq (k : IntKind) (n : Int) : wrapS k n = k.wrap n := by
  have key : ∀ r : Nat, r < modN k → (r : Int) = n % (modN k : Int) → (if halfN k ≤ r then (r : Int) - (modN k : Int) else r) = k.wrap n := by
    intro r hr he
    cases k <;> simp [modN, halfN, IntKind.wrap, IntKind.bits, IntKind.signed] at * <;> omega
  unfold wrapS
  cases n with
  | ofNat m =>
    have hm : m % modN k < modN k := Nat.mod_lt _ (by cases k <;> decide)
    simp only
    rw [foldN_eq k _ hm]
    exact key _ hm (by simp)
  | negSucc m =>
    have hm : m % modN k < modN k := Nat.mod_lt _ (by cases k <;> decide)
    simp only
    rw [foldN_eq k _ (by omega)]
    refine key _ (by omega) ?_
    cases k <;> simp only [modN] at * <;> omega

/-! ## Names -/
theorem cA_congr {n : Nat} {r r' : Ren} (h : ∀ i, i < n → r' i = r i) {a : Addr} (ha : sA n a) : cA r' a = cA r a := by
  unfold cA
  cases hs : a.spot with
  | none => rfl
  | some s => simp only; rw [h _ (ha s hs)]
theorem c0_congr {n : Nat} {r r' : Ren} (h : ∀ i, i < n → r' i = r i) {v : Value} (hv : s0 n v) : c0 r' v = c0 r v := by
  unfold c0
  split
  · rw [cA_congr h hv]
  · rw [cA_congr h hv]
  · rw [h _ hv]
  · rfl
theorem s0_simple {n : Nat} {v : Value} (h : s1 n v) (hv : ∀ f fs cs, v ≠ .func f fs cs) : s0 n v := by
  unfold s1 at h
  split at h
  · rename_i f fs cs; exact absurd rfl (hv f fs cs)
  · exact h
theorem c1_congr {n : Nat} {r r' : Ren} (h : ∀ i, i < n → r' i = r i) {v : Value} (hv : s1 n v) : c1 r' v = c1 r v := by
  unfold c1
  split
  · rename_i f fs cs
    have h1 : fs.map (c0 r') = fs.map (c0 r) := Array.map_congr_left fun x hx => c0_congr h (hv.1 x (Array.mem_toList_iff.2 hx))
    have h2 : cs.map (c0 r') = cs.map (c0 r) := Array.map_congr_left fun x hx => c0_congr h (hv.2 x (Array.mem_toList_iff.2 hx))
    rw [h1, h2]
  · rename_i hne; exact c0_congr h (s0_simple hv hne)
theorem s1_simple {n : Nat} {v : Value} (h : s2 n v) (hv : ∀ cs, v ≠ .agg cs) : s1 n v := by
  unfold s2 at h
  split at h
  · rename_i cs; exact absurd rfl (hv cs)
  · exact h
theorem c2_congr {n : Nat} {r r' : Ren} (h : ∀ i, i < n → r' i = r i) {v : Value} (hv : s2 n v) : c2 r' v = c2 r v := by
  unfold c2
  split
  · rename_i cs
    rw [Array.map_congr_left fun x hx => c1_congr h (hv x (Array.mem_toList_iff.2 hx))]
  · rename_i hne; exact c1_congr h (s1_simple hv hne)
theorem s2_simple {n : Nat} {v : Value} (h : s3 n v) (hv : ∀ cs, v ≠ .tuple cs) : s2 n v := by
  unfold s3 at h
  split at h
  · rename_i cs; exact absurd rfl (hv cs)
  · exact h
theorem c3_congr {n : Nat} {r r' : Ren} (h : ∀ i, i < n → r' i = r i) {v : Value} (hv : s3 n v) : c3 r' v = c3 r v := by
  unfold c3
  split
  · rename_i cs
    rw [Array.map_congr_left fun x hx => c2_congr h (hv x (Array.mem_toList_iff.2 hx))]
  · rename_i hne; exact c2_congr h (s2_simple hv hne)
theorem sA_mono {n m : Nat} (h : n ≤ m) {a : Addr} (ha : sA n a) : sA m a := fun s hs => Nat.lt_of_lt_of_le (ha s hs) h
theorem s0_mono {n m : Nat} (h : n ≤ m) {v : Value} (hv : s0 n v) : s0 m v := by
  unfold s0 at *
  split at hv <;> first | exact sA_mono h hv | exact hv.elim | exact Nat.lt_of_lt_of_le hv h | simp_all
theorem s1_mono {n m : Nat} (h : n ≤ m) {v : Value} (hv : s1 n v) : s1 m v := by
  unfold s1 at *
  split at hv
  · exact ⟨fun x hx => s0_mono h (hv.1 x hx), fun x hx => s0_mono h (hv.2 x hx)⟩
  · exact s0_mono h hv
theorem s2_mono {n m : Nat} (h : n ≤ m) {v : Value} (hv : s2 n v) : s2 m v := by
  unfold s2 at *
  split at hv
  · exact fun x hx => s1_mono h (hv x hx)
  · exact s1_mono h hv
theorem s3_mono {n m : Nat} (h : n ≤ m) {v : Value} (hv : s3 n v) : s3 m v := by
  unfold s3 at *
  split at hv
  · exact fun x hx => s2_mono h (hv x hx)
  · exact s2_mono h hv
/-- a scalar -/
theorem s1_shape {n : Nat} {v : Value} (h : s1 n v) : (∀ cs, v ≠ .agg cs) ∧ ∀ cs, v ≠ .tuple cs := by
  constructor
  · rintro cs rfl; exact h
  · rintro cs rfl; exact h
theorem c3_s1 {n : Nat} {r : Ren} {v : Value} (h : s1 n v) : c3 r v = c1 r v := by
  cases v with
  | agg cs => exact h.elim
  | tuple cs => exact h.elim
  | _ => rfl
theorem s3_of_s1 {n : Nat} {v : Value} (h : s1 n v) : s3 n v := by
  cases v with
  | agg cs => exact h.elim
  | tuple cs => exact h.elim
  | _ => exact h
theorem s3_of_s2 {n : Nat} {v : Value} (h : s2 n v) : s3 n v := by
  unfold s3
  split
  · rename_i cs; exact h.elim
  · exact h
theorem c3_of_s2 {n : Nat} {r : Ren} {v : Value} (h : s2 n v) : c3 r v = c2 r v := by
  unfold c3
  split
  · rename_i cs; exact h.elim
  · rfl
theorem c3_agg (r : Ren) (cs : Array Value) : c3 r (.agg cs) = .agg (cs.map (c1 r)) := rfl
theorem cells_s1 {n : Nat} {r : Ren} {v : Value} (h : s1 n v) : v.cells = #[v] ∧ (c1 r v).cells = #[c1 r v] := by
  cases v with
  | agg cs => exact h.elim
  | tuple cs => exact h.elim
  | pointer a => cases a <;> exact ⟨rfl, rfl⟩
  | slice a l c => cases a <;> exact ⟨rfl, rfl⟩
  | map a => cases a <;> exact ⟨rfl, rfl⟩
  | _ => exact ⟨rfl, rfl⟩
/-- the cells of a value -/
theorem cells_c3 {n : Nat} {r : Ren} {v : Value} (h : s3 n v) (ht : ∀ cs, v ≠ .tuple cs) : (c3 r v).cells = v.cells.map (c1 r) ∧ ∀ x ∈ v.cells.toList, s1 n x := by
  have h2 := s2_simple h ht
  by_cases ha : ∃ cs, v = .agg cs
  · obtain ⟨cs, rfl⟩ := ha
    exact ⟨rfl, h2⟩
  · have h1 := s1_simple h2 (fun cs e => ha ⟨cs, e⟩)
    obtain ⟨e1, e2⟩ := cells_s1 (r := r) h1
    rw [c3_s1 h1, e1, e2]
    simpa using h1

end Go.Proofs.YtjpjnjidchdlbaaDoor
