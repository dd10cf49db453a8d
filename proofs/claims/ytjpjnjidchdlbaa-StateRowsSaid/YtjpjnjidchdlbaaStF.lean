/-
  slices.Concat of a body's place and speed (no condition).
-/
import Derived.Test.YtjpjnjidchdlbaaStE
namespace Go.Proofs.Ytjpjnjidchdlbaa
set_option linter.unusedSimpArgs false
set_option linter.unusedVariables false
open Go
set_option maxRecDepth 100000
set_option maxHeartbeats 4000000
theorem zeros_len (z : Array Value) (n : Nat) : (Builtin.zeroCells z n).toList.length = n * z.size := by
  simp [Builtin.zeroCells]
theorem Grow6 (G) : AC Try.prog G 58 [.slice none 0 0, I64 6] [] (fun v h => ∃ (c : Array Value) (cp : Nat), v = slc 0 0 0 cp ∧ h = [.cells c 3] ∧ (∀ x ∈ c.toList, cleanV x = true) ∧ c.size = cp ∧ 6 ≤ cp) := by
  refine ac_of_body tabOk has58 ?_
  unfold BodyOk
  conv => whnf
  refine ao_cap (p := none) (n := 0) (c := 0) (i := ti43) (e := 3) tabOk rfl (by conv => whnf) rfl rfl rfl ?_
  conv => whnf
  refine ao_cap (p := none) (n := 0) (c := 0) (i := ti43) (e := 3) tabOk rfl (by conv => whnf) rfl rfl rfl ?_
  conv => whnf
  refine ao_growZ (k := 6) (kq := .i64) (kn := .i64) (lx := 0) (cx := 0) (olds := []) (px := none) (vx := .slice none 0 0) (i := ti43) (j := ti3) (q := ti3) (e := 3) tabOk rfl (by (conv => whnf) <;> rfl) (by (conv => whnf); exact congrArg (Value.int .i64) (by decide)) rfl rfl rfl rfl rfl rfl rfl rfl rfl (.nil 0) (by decide) (by decide) (by decide) (by decide) (by decide) ?_
  intro cp hcp
  conv => whnf
  have hcl : ∀ x ∈ (⟨[] ++ (Builtin.zeroCells ti3.zero.cells 6).toList ++ (Builtin.zeroCells ti3.zero.cells (cp - (0 + 6))).toList⟩ : Array Value).toList, cleanV x = true := by
    intro x hx
    rcases List.mem_append.1 hx with hx | hx
    · exact zeros_cleanB ti3.zero.cells rfl _ x (by simpa using hx)
    · exact zeros_cleanB ti3.zero.cells rfl _ x hx
  refine ⟨rfl, fin_oneB 0 ⟨[_], rfl⟩ (by simp) rfl hcl (u := slc 0 0 0 cp) ?_ rfl ⟨_, cp, rfl, rfl, hcl, ?_, by omega⟩⟩
  · show Value.slice (some (sliceAddr ⟨0, 0, some 0⟩ 0 cp ti43.esz)) 0 (cp - 0) = slc 0 0 0 cp
    rw [sliceAddrZ]
    rfl
  · show ([] ++ (Builtin.zeroCells ti3.zero.cells 6).toList ++ (Builtin.zeroCells ti3.zero.cells (cp - (0 + 6))).toList).length = cp
    have e1 : ti3.zero.cells.size = 1 := rfl
    rw [List.nil_append, List.length_append, zeros_len, zeros_len, e1]
    omega
/-- it hands back a slice of its one new block -/
theorem Grow6_s (G) {h : List Obj} {m : Nat} (hm : h.length = m) : AC Try.prog G 58 [.slice none 0 0, I64 6] h (fun v h' => ∃ (c : Array Value) (cp : Nat), v = slc m 0 0 cp ∧ h' = h ++ [.cells c 3] ∧ (∀ x ∈ c.toList, cleanV x = true) ∧ c.size = cp ∧ 6 ≤ cp) := by
  subst hm
  refine ac_frame [] (Grow6 G) (by simp [r3, r2, r1, r0]) (fun v hv => ?_) cold_0 ?_
  · rcases List.mem_cons.1 hv with rfl | hv
    · exact (scop3_ok (n := 0) (by rfl)).1
    · rcases List.mem_singleton.1 hv with rfl
      exact (scop3_ok (n := 0) (by rfl)).1
  · rintro v h' ⟨c, cp, rfl, rfl, q1, q2, q3⟩
    refine ⟨_, rfl, c, cp, ?_, ?_, q1, q2, q3⟩
    · simp [r3, r2, r1, r0, rA, nu]
    · rw [List.map_cons, rO_cl q1]; rfl
theorem row6 {c xs : List Value} {k : Nat} {t : TypeId} {f : Nat × Nat} (h : ∀ (j : Nat) (x : Value), xs[j]? = some x → (c.drop k)[j]? = some x) : HasAt (.cells ⟨c⟩ t f) k xs := by
  show ∀ j x, xs[j]? = some x → (⟨c⟩ : Array Value)[k + j]? = some x
  intro j x hj
  have := h j x hj
  rw [List.getElem?_drop] at this
  rw [List.getElem?_toArray]
  exact this
theorem six {c : Array Value} (h : 6 ≤ c.size) : ∃ a0 a1 a2 a3 a4 a5 t, c = ⟨a0 :: a1 :: a2 :: a3 :: a4 :: a5 :: t⟩ := by
  obtain ⟨L⟩ := c
  match L, h with
  | a0 :: a1 :: a2 :: a3 :: a4 :: a5 :: t, _ => exact ⟨a0, a1, a2, a3, a4, a5, t, rfl⟩
  | [], h => simp at h
  | [_], h => simp at h
  | [_, _], h => simp at h
  | [_, _, _], h => simp at h
  | [_, _, _, _], h => simp at h
  | [_, _, _, _, _], h => simp at h
theorem Concat_c (G) (b : Bd) :
    AC Try.prog G 53 [slc 1 0 2 2] [.cells ⟨b.cells⟩ 56 (1, 0), .cells #[slc 0 0 3 3, slc 0 3 3 3] 43 (1, 0)] (fun v h => ∃ (c : Array Value) (cp : Nat), v = slc 2 0 6 cp ∧ h = [.cells ⟨b.cells⟩ 56 (1, 0), .cells #[slc 0 0 3 3, slc 0 3 3 3] 43 (1, 0), .cells c 3] ∧ (∀ x ∈ c.toList, cleanV x = true) ∧ WinI c 0 [b.a, b.b, b.c, b.x, b.y, b.z]) := by
  refine ac_of_body tabOk has53 ?_
  unfold BodyOk
  conv => whnf
  refine aw_rounds tabOk 3 ?_
  conv => whnf
  rw [show wrapS .i64 (wrapS .i64 (0 + ((3 : Nat) : Int)) + ((3 : Nat) : Int)) = (6 : Int) from by decide]
  refine ac_mono (Grow6_s G (m := 2) rfl) ?_
  rintro v h' ⟨c, cp, rfl, rfl, q1, q2, q3⟩
  obtain ⟨a0, a1, a2, a3, a4, a5, t, rfl⟩ := six (c := c) (by omega)
  have q2' : t.length + 1 + 1 + 1 + 1 + 1 + 1 = cp := q2
  conv => whnf
  refine aw_rounds tabOk 3 ?_
  conv => whnf
  refine ao_room (b := 2) (off := 0) (lx := 0) (cx := cp) (ly := 3) (news := [I64 b.a, I64 b.b, I64 b.c]) (vy := slc 0 0 3 3) (i := ti43) (j := ti3) (e := 3) tabOk rfl (by conv => whnf) (by conv => whnf) rfl rfl rfl rfl rfl rfl rfl (.row (ob := .cells ⟨b.cells⟩ 56 (1, 0)) rfl (row6 (k := 0) (by intro j x hj; exact getL (m := [I64 b.x, I64 b.y, I64 b.z]) hj)) rfl (by simp [cleanV])) (by omega) (by show 0 + (0 + 3) * 1 ≤ t.length + 1 + 1 + 1 + 1 + 1 + 1; omega) ?_
  conv => whnf
  refine ao_room (b := 2) (off := 0) (lx := 3) (cx := cp) (ly := 3) (news := [I64 b.x, I64 b.y, I64 b.z]) (vy := slc 0 3 3 3) (c := ⟨I64 b.a :: I64 b.b :: I64 b.c :: a3 :: a4 :: a5 :: t⟩) (i := ti43) (j := ti3) (e := 3) tabOk rfl (by (conv => whnf) <;> rfl) (by conv => whnf) rfl rfl rfl rfl rfl rfl rfl (.row (ob := .cells ⟨b.cells⟩ 56 (1, 0)) rfl (row6 (k := 3) (by intro j x hj; exact hj)) rfl (by simp [cleanV])) (by omega) (by show 0 + (3 + 3) * 1 ≤ t.length + 1 + 1 + 1 + 1 + 1 + 1; omega) ?_
  conv => whnf
  have hcl : ∀ x ∈ (⟨I64 b.a :: I64 b.b :: I64 b.c :: I64 b.x :: I64 b.y :: I64 b.z :: t⟩ : Array Value).toList, cleanV x = true := by
    intro x hx
    rcases List.mem_append (s := [I64 b.a, I64 b.b, I64 b.c, I64 b.x, I64 b.y, I64 b.z]).1 hx with hx | hx
    · exact cI_clean [b.a, b.b, b.c, b.x, b.y, b.z] x hx
    · exact q1 x (by simp [hx])
  refine ⟨rfl, fin_oneB 2 (c := ⟨I64 b.a :: I64 b.b :: I64 b.c :: I64 b.x :: I64 b.y :: I64 b.z :: t⟩) (t := 3) (f := (0, 0)) ⟨[_], rfl⟩ (by simp) rfl hcl (u := slc 2 0 6 cp) rfl rfl ⟨_, cp, rfl, rfl, hcl, ?_⟩⟩
  exact winI_own (l := [b.a, b.b, b.c, b.x, b.y, b.z]) (rest := t)
def numsB (b : Bd) : List Int := [b.a, b.b, b.c, b.x, b.y, b.z]
theorem Concat_s (G) (b : Bd) {h : List Obj} {M W N : Nat} (hN : h.length = N) (hM : h[M]? = some (.cells ⟨b.cells⟩ 56)) (hW : h[W]? = some (.cells #[slc M 0 3 3, slc M 3 3 3] 43)) :
    AC Try.prog G 53 [slc W 0 2 2] h (fun v h' => ∃ (c : Array Value) (cp : Nat), v = slc N 0 6 cp ∧ h' = h ++ [.cells c 3] ∧ (∀ x ∈ c.toList, cleanV x = true) ∧ WinI c 0 (numsB b)) := by
  subst hN
  refine ac_frame [M, W] (Concat_c G b) (by simp [r3, r2, r1, r0, rA, nu]) (fun v hv => ?_) ?_ ?_
  · rcases List.mem_singleton.1 hv with rfl
    exact (scop3_ok (n := 2) (by rfl)).1
  · intro i o hi
    match i, hi with
    | 0, hi =>
      cases hi
      exact ⟨rfl, fun v hv => scop1_ok (List.all_eq_true.1 (by rfl : (b.cells).all (scop1 2) = true) v hv), _, hM, .inr (.inl ⟨_, _, _, (0, 0), rfl, by decide, by simp [r1, r0, rA, nu]⟩)⟩
    | 1, hi =>
      cases hi
      exact ⟨rfl, fun v hv => scop1_ok (List.all_eq_true.1 (by rfl : [slc 0 0 3 3, slc 0 3 3 3].all (scop1 2) = true) v hv), _, hW, .inr (.inl ⟨_, _, _, (0, 0), rfl, by decide, by simp [r1, r0, rA, nu]⟩)⟩
    | i + 2, hi => simp at hi
  · rintro v h' ⟨c, cp, rfl, rfl, q1, q2⟩
    refine ⟨[.cells c 3], rfl, c, cp, ?_, ?_, q1, q2⟩
    · simp [r3, r2, r1, r0, rA, nu]
    · rw [List.map_cons, rO_cl q1]; rfl
end Go.Proofs.Ytjpjnjidchdlbaa
