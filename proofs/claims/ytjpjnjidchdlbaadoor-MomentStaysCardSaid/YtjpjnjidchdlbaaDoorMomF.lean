/-
  state.Within, state.Right, and the reference's (no condition).
-/
import Derived.Test.YtjpjnjidchdlbaaDoorMomE
namespace Go.Proofs.YtjpjnjidchdlbaaDoor
set_option linter.unusedSimpArgs false
set_option linter.unusedVariables false
open Go
set_option maxRecDepth 100000
set_option maxHeartbeats 4000000
/-- a body's six numbers -/
structure Bd where
  a : Int
  b : Int
  c : Int
  x : Int
  y : Int
  z : Int
abbrev Bd.cells (b : Bd) : List Value := [I64 b.a, I64 b.b, I64 b.c, I64 b.x, I64 b.y, I64 b.z]
abbrev V6 (b : Bd) : Value := .agg #[I64 b.a, I64 b.b, I64 b.c, I64 b.x, I64 b.y, I64 b.z]
/-- the bodies l lie there -/
def WinB (c : Array Value) (off : Nat) (l : List Bd) : Prop := ∀ j (b : Bd), l[j]? = some b → ∀ q v, b.cells[q]? = some v → c[off + j * 6 + q]? = some v
theorem WinB.at {c : Array Value} {off : Nat} {l : List Bd} (h : WinB c off l) {k : Nat} {b : Bd} (hb : l[k]? = some b) {q : Nat} {v : Value} (hv : b.cells[q]? = some v) : c.toList[off + Int.toNat (k : Int) * 6 + q]? = some v := by
  have := h k b hb q v hv
  simpa using this
theorem WinB.body {c : Array Value} {off : Nat} {l : List Bd} (h : WinB c off l) {k : Nat} {b : Bd} (hb : l[k]? = some b) {K : List Value → Prop} (hk : K b.cells) :
    dropK c.toList (off + Int.toNat (k : Int) * 6) fun r => takeK r 6 K := by
  have e : ∀ q, q < 6 → (c.toList.drop (off + Int.toNat (k : Int) * 6))[q]? = b.cells[q]? := by
    intro q hq
    rw [List.getElem?_drop]
    obtain ⟨v, hv⟩ : ∃ v, b.cells[q]? = some v := ⟨_, List.getElem?_eq_getElem (show q < 6 from hq)⟩
    rw [hv]
    exact h.at hb hv
  have hlen : off + Int.toNat (k : Int) * 6 + 5 < c.toList.length := by
    have := h.at hb (q := 5) (v := I64 b.z) rfl
    exact (List.getElem?_eq_some_iff.1 this).1
  have ht : (c.toList.drop (off + Int.toNat (k : Int) * 6)).take 6 = b.cells := by
    apply List.ext_getElem?
    intro q
    by_cases hq : q < 6
    · rw [List.getElem?_take, if_pos hq, e q hq]
    · rw [List.getElem?_eq_none (by simp; omega), List.getElem?_eq_none (show 6 ≤ q by omega)]
  rw [dropK_iff]
  refine ⟨by omega, ?_⟩
  rw [takeK_iff]
  refine ⟨by rw [List.length_drop]; omega, ?_⟩
  rw [ht]
  exact hk
/-- v is a slice of the bodies l -/
def SlB (h : List Obj) (v : Value) (l : List Bd) : Prop := (v = .slice none 0 0 ∧ l = []) ∨
  ∃ (m off cap : Nat) (c : Array Value) (t : TypeId), v = slc m off l.length cap ∧ (h[m]? = some (.pending c t) ∨ ((∀ x ∈ c.toList, cleanV x = true) ∧ ∃ g, h[m]? = some (.cells c t g))) ∧ WinB c off l ∧ l.length ≤ cap
theorem SlB.pre {h0 h : List Obj} {v : Value} {l : List Bd} (H : SlB h0 v l) (hp : Pre h0 h) : SlB h v l := by
  rcases H with H | ⟨m, off, cap, c, t, h1, h2 | ⟨h2, g, h3⟩, h4⟩
  · exact .inl H
  · exact .inr ⟨m, off, cap, c, t, h1, .inl (hp _ _ h2 trivial), h4⟩
  · exact .inr ⟨m, off, cap, c, t, h1, .inr ⟨h2, g, hp _ _ h3 trivial⟩, h4⟩
theorem SlB.app {h : List Obj} {v : Value} {l : List Bd} (H : SlB h v l) (news : List Obj) : SlB (h ++ news) v l :=
  H.pre fun b o hb _ => by rw [List.getElem?_append_left (List.getElem?_eq_some_iff.1 hb).1]; exact hb
def vwin3 (n a b c : Int) : Bool := vwin n a && (vwin n b && vwin n c)
/-- is a body out of the box, or too fast? -/
def badB (box top : Int) (b : Bd) : Bool := !vwin3 box b.a b.b b.c || !vwin3 top b.x b.y b.z
theorem max_ok (step : Int) (h2 : -1073741824 ≤ step) : ((if wrapS .i64 (0 - step) > step then wrapS .i64 (0 - step) else step) ≤ 1073741824) ↔ step ≤ 1073741824 := by
  constructor
  · intro h
    split at h <;> omega
  · intro h
    rw [wrapI (by omega) (by omega)]
    split <;> omega
theorem vwin_c {n x : Int} (h0 : 0 ≤ n) (h1 : n ≤ 1000000000000) : vwin n x = (decide (-n ≤ x) && decide (x ≤ n)) := by
  unfold vwin
  rw [wrapI (by omega) (by omega), decide_eq_false (by omega : ¬ n < 0)]
  by_cases h2 : -n ≤ x <;> by_cases h3 : x ≤ n
  · rw [decide_eq_false (by omega : ¬ x < 0 - n), decide_eq_false (by omega : ¬ x > n), decide_eq_true h2, decide_eq_true h3]; rfl
  · rw [decide_eq_false (by omega : ¬ x < 0 - n), decide_eq_true (by omega : x > n), decide_eq_true h2, decide_eq_false h3]; rfl
  · rw [decide_eq_true (by omega : x < 0 - n), decide_eq_false h2]; rfl
  · rw [decide_eq_true (by omega : x < 0 - n), decide_eq_false h2]; rfl
theorem bad_iff (b : Bd) : badB 1048576 65536 b = true ↔ ((b.a < -1048576 ∨ b.a > 1048576) ∨ (b.b < -1048576 ∨ b.b > 1048576) ∨ (b.c < -1048576 ∨ b.c > 1048576)) ∨ ((b.x < -65536 ∨ b.x > 65536) ∨ (b.y < -65536 ∨ b.y > 65536) ∨ (b.z < -65536 ∨ b.z > 65536)) := by
  unfold badB vwin3
  simp only [vwin_c (show (0 : Int) ≤ 1048576 by decide) (by decide), vwin_c (show (0 : Int) ≤ 65536 by decide) (by decide), Bool.or_eq_true, Bool.not_eq_true', Bool.and_eq_false_iff, decide_eq_false_iff_not]
  omega
theorem bad_of {b : Bd} (h : ((b.a < -1048576 ∨ b.a > 1048576) ∨ (b.b < -1048576 ∨ b.b > 1048576) ∨ (b.c < -1048576 ∨ b.c > 1048576)) ∨ ((b.x < -65536 ∨ b.x > 65536) ∨ (b.y < -65536 ∨ b.y > 65536) ∨ (b.z < -65536 ∨ b.z > 65536))) : badB 1048576 65536 b = true := (bad_iff b).2 h
theorem good_of {b : Bd} (h00 : ¬ b.a < -1048576) (h01 : ¬ b.a > 1048576) (h02 : ¬ b.x < -65536) (h03 : ¬ b.x > 65536) (h10 : ¬ b.b < -1048576) (h11 : ¬ b.b > 1048576) (h12 : ¬ b.y < -65536) (h13 : ¬ b.y > 65536)
    (h20 : ¬ b.c < -1048576) (h21 : ¬ b.c > 1048576) (h22 : ¬ b.z < -65536) (h23 : ¬ b.z > 65536) : badB 1048576 65536 b = false := by
  cases h : badB 1048576 65536 b with
  | false => rfl
  | true => have := (bad_iff b).1 h; omega
theorem any_bad {l : List Bd} {i : Nat} {x : Bd} {f : Bd → Bool} (hx : l[i]? = some x) (h : f x = true) : l.any f = true := List.any_eq_true.2 ⟨x, List.mem_of_getElem? hx, h⟩
theorem has60 : Has Tryd.prog 60 Tryd.f60 := ⟨Tryd.func60, by kernel_rfl, by kernel_rfl⟩
theorem has71 : Has Tryd.prog 71 Tryd.f71 := ⟨Tryd.func71, by kernel_rfl, by kernel_rfl⟩
theorem has76 : Has Tryd.prog 76 Tryd.f76 := ⟨Tryd.func76, by kernel_rfl, by kernel_rfl⟩
theorem has84 : Has Tryd.prog 84 Tryd.f84 := ⟨Tryd.func84, by kernel_rfl, by kernel_rfl⟩
theorem has96 : Has Tryd.prog 96 Tryd.f96 := ⟨Tryd.func96, by kernel_rfl, by kernel_rfl⟩
theorem has97 : Has Tryd.prog 97 Tryd.f97 := ⟨Tryd.func97, by kernel_rfl, by kernel_rfl⟩
theorem has109 : Has Tryd.prog 109 Tryd.f109 := ⟨Tryd.func109, by kernel_rfl, by kernel_rfl⟩
/-- may a state be? -/
def okState (step : Int) (l : List Bd) : Bool := decide (-1073741824 ≤ step) && (decide (step ≤ 1073741824) && (decide (1 ≤ l.length) && (decide (l.length ≤ 4) && !l.any (badB 1048576 65536))))
theorem out_c (G) (box top : Int) (b : Bd) : AC Tryd.prog G 97 [V6 b, ptr 0 0, ptr 1 0] [.cells #[I64 box] 3 (1, 0), .cells #[I64 top] 3 (1, 0)] (fun v h => v = .bool (badB box top b) ∧ h = [.cells #[I64 box] 3 (1, 0), .cells #[I64 top] 3 (1, 0)]) := by
  refine ac_of_body tabOk has97 ?_
  unfold BodyOk
  conv => whnf
  refine ac_pure (VWithin_c G b.a b.b b.c box) rfl ?_
  rintro v h' ⟨rfl, rfl⟩
  refine ⟨rfl, rfl, ?_⟩
  conv => whnf
  have e1 : (vwin box b.a && (vwin box b.b && vwin box b.c)) = vwin3 box b.a b.b b.c := rfl
  rw [e1]
  refine ways (fun h1 => ?_) (fun h1 => ?_) <;> conv => whnf
  · refine ⟨rfl, fin_turnedK rfl ?_⟩
    conv => whnf
    exact ⟨by unfold badB; rw [h1]; rfl, rfl⟩
  · refine ac_pure (VWithin_c G b.x b.y b.z top) rfl ?_
    rintro v h' ⟨rfl, rfl⟩
    refine ⟨rfl, rfl, ?_⟩
    conv => whnf
    refine ⟨rfl, fin_turnedK rfl ?_⟩
    conv => whnf
    exact ⟨by unfold badB; rw [h1]; rfl, rfl⟩
theorem IndexB_r (G) (box top : Int) (c0 : Array Value) (t0 : TypeId) (off cap : Nat) (l : List Bd) (hw : WinB c0 off l) (hl : l.length ≤ 1000000000000) :
    AC Tryd.prog G 109 [(slc 0 off l.length cap), .func (.func 97) #[] #[ptr 1 0, ptr 2 0]] [.pending c0 t0, .cells #[I64 box] 3 (1, 0), .cells #[I64 top] 3 (1, 0)] (fun v h => (∃ n : Int, v = I64 n ∧ decide (n ≥ 0) = l.any (badB box top)) ∧ h = [.pending c0 t0, .cells #[I64 box] 3 (1, 0), .cells #[I64 top] 3 (1, 0)]) := by
  refine ac_of_body tabOk has109 ?_
  unfold BodyOk
  conv => whnf
  refine aw_inv tabOk [[true, true, false, false, false, false, false, true, true, false, false, false, false, false, false, false], [false, false, false]] (fun m s' => ∃ (i : Nat), m = l.length - i ∧ i ≤ l.length ∧ (l.take i).any (badB box top) = false ∧
    s' = ⟨[[(slc 0 off l.length cap), .func (.func 97) #[] #[ptr 1 0, ptr 2 0], .chan none, .chan none, .chan none, .chan none, .chan none, I64 (l.length : Int), I64 (i : Int), .chan none, .chan none, .chan none, .chan none, .chan none, .chan none, .chan none],
      [.chan none, .chan none, .chan none]],
      [.pending c0 t0, .cells #[I64 box] 3 (1, 0), .cells #[I64 top] 3 (1, 0)], []⟩) l.length ?_ ⟨0, rfl, Nat.zero_le _, rfl, rfl⟩
  rintro m s' ⟨i, rfl, hi, ha, rfl⟩
  conv => whnf
  refine ways (fun h1 => ?_) (fun h1 => ?_) <;> conv => whnf
  · have hlt : i < l.length := by have := of_decide_eq_true h1; omega
    obtain ⟨x, hx⟩ : ∃ x, l[i]? = some x := ⟨_, List.getElem?_eq_getElem hlt⟩
    refine way1 (by rw [decide_eq_true_iff]; omega) ?_
    conv => whnf
    refine hw.body hx ?_
    conv => whnf
    refine ac_read [1, 2] (out_c G box top x) (by simp [r3, r2, r1, r0, rA, nu]) rfl ⟨⟨by decide, rfl, _, rfl⟩, ⟨by decide, rfl, _, rfl⟩, trivial⟩ ?_
    rintro v h' ⟨rfl, rfl⟩
    refine ⟨rfl, rfl, ?_⟩
    conv => whnf
    have hxe : l[i] = x := (List.getElem?_eq_some_iff.1 hx).2
    refine ways (fun h2 => ?_) (fun h2 => ?_) <;> conv => whnf
    · refine ⟨rfl, fin_turnedK rfl ?_⟩
      conv => whnf
      refine ⟨⟨(i : Int), rfl, ?_⟩, rfl⟩
      rw [decide_eq_true (by omega : (i : Int) ≥ 0)]
      exact (List.any_eq_true.2 ⟨x, List.mem_of_getElem? hx, h2⟩).symm
    · rw [show wrapS .i64 ((i : Int) + 1) = ((i + 1 : Nat) : Int) by rw [wrapI (by omega) (by omega)]; omega]
      refine ⟨l.length - (i + 1), by omega, i + 1, rfl, by omega, ?_, rfl⟩
      rw [List.take_succ_eq_append_getElem hlt, List.any_append, ha, hxe]
      simp [h2]
  · have hin : i = l.length := by have := of_decide_eq_false h1; omega
    subst hin
    rw [List.take_length] at ha
    refine ⟨rfl, fin_turnedK rfl ?_⟩
    conv => whnf
    exact ⟨⟨-1, rfl, by rw [ha]; rfl⟩, rfl⟩
theorem ContainsB_r (G) (box top : Int) (c0 : Array Value) (t0 : TypeId) (off cap : Nat) (l : List Bd) (hw : WinB c0 off l) (hl : l.length ≤ 1000000000000) :
    AC Tryd.prog G 96 [(slc 0 off l.length cap), .func (.func 97) #[] #[ptr 1 0, ptr 2 0]] [.pending c0 t0, .cells #[I64 box] 3 (1, 0), .cells #[I64 top] 3 (1, 0)] (fun v h => v = .bool (l.any (badB box top)) ∧ h = [.pending c0 t0, .cells #[I64 box] 3 (1, 0), .cells #[I64 top] 3 (1, 0)]) := by
  refine ac_of_body tabOk has96 ?_
  unfold BodyOk
  conv => whnf
  refine ac_mono (IndexB_r G box top c0 t0 off cap l hw hl) ?_
  rintro v h' ⟨⟨n, rfl, hn⟩, rfl⟩
  conv => whnf
  refine ⟨rfl, fin_turnedK rfl ?_⟩
  conv => whnf
  exact ⟨by rw [← hn], rfl⟩
theorem WithinS_r (G) (step : Int) (c0 : Array Value) (t0 : TypeId) (off cap : Nat) (l : List Bd) (hw : WinB c0 off l) (hl : l.length ≤ 1000000000000) (box top : Int) :
    AC Tryd.prog G 84 [.agg #[I64 step, (slc 0 off l.length cap)], I64 box, I64 top] [.pending c0 t0] (fun v h => v = .bool (!l.any (badB box top)) ∧ h = [.pending c0 t0]) := by
  refine ac_of_body tabOk has84 ?_
  unfold BodyOk
  conv => whnf
  refine ac_read [0, 2, 3] (ContainsB_r G box top c0 t0 off cap l hw hl) (by simp [r3, r2, r1, r0, rA, nu]) rfl ⟨.inl rfl, ⟨by decide, rfl, _, rfl⟩, ⟨by decide, rfl, _, rfl⟩, trivial⟩ ?_
  rintro v h' ⟨rfl, rfl⟩
  refine ⟨rfl, rfl, ?_⟩
  conv => whnf
  refine ⟨rfl, fin_turnedK rfl ?_⟩
  conv => whnf
  exact ⟨rfl, rfl⟩
theorem Right_r (G) (step : Int) (c0 : Array Value) (t0 : TypeId) (off cap : Nat) (l : List Bd) (hw : WinB c0 off l) (hl : l.length ≤ 1000000000000) :
    AC Tryd.prog G 76 [.agg #[I64 step, (slc 0 off l.length cap)]] [.pending c0 t0] (fun v h => v = .bool (okState step l) ∧ h = [.pending c0 t0]) := by
  refine ac_of_body tabOk has76 ?_
  unfold BodyOk
  conv => whnf
  refine ways (fun h1 => ?_) (fun h1 => ?_) <;> conv => whnf
  · refine ways (fun h2 => ?_) (fun h2 => ?_) <;> conv => whnf
    · have h2' : -1073741824 ≤ step := of_decide_eq_true h2
      have h1' : step ≤ 1073741824 := (max_ok step h2').1 (of_decide_eq_true h1)
      refine ways (fun h3 => ?_) (fun h3 => ?_) <;> conv => whnf
      · have h3' : 1 ≤ l.length := by have := of_decide_eq_true h3; omega
        refine ways (fun h4 => ?_) (fun h4 => ?_) <;> conv => whnf
        · have h4' : l.length ≤ 4 := by have := of_decide_eq_true h4; omega
          refine ac_readF [0] (WithinS_r G step c0 t0 off cap l hw hl 1048576 65536) (by simp [r3, r2, r1, r0, rA, nu]) rfl (cold_p (.inl rfl)) ?_
          rintro v h' ⟨rfl, rfl⟩
          refine ⟨rfl, rfl, ?_⟩
          conv => whnf
          refine ⟨rfl, fin_turnedK rfl ?_⟩
          conv => whnf
          exact ⟨by unfold okState; simp only [decide_eq_true h2', decide_eq_true h1', decide_eq_true h3', decide_eq_true h4', Bool.true_and], rfl⟩
        · have h4' : ¬ l.length ≤ 4 := by have := of_decide_eq_false h4; omega
          refine ⟨rfl, fin_turnedK rfl ?_⟩
          conv => whnf
          exact ⟨by unfold okState; simp only [decide_eq_false h4', Bool.false_and, Bool.and_false], rfl⟩
      · have h3' : ¬ 1 ≤ l.length := by have := of_decide_eq_false h3; omega
        refine ⟨rfl, fin_turnedK rfl ?_⟩
        conv => whnf
        exact ⟨by unfold okState; simp only [decide_eq_false h3', Bool.false_and, Bool.and_false], rfl⟩
    · have h2' : ¬ -1073741824 ≤ step := of_decide_eq_false h2
      refine ⟨rfl, fin_turnedK rfl ?_⟩
      conv => whnf
      exact ⟨by unfold okState; simp only [decide_eq_false h2', Bool.false_and], rfl⟩
  · refine ⟨rfl, fin_turnedK rfl ?_⟩
    conv => whnf
    refine ⟨?_, rfl⟩
    have h1' := of_decide_eq_false h1
    unfold okState
    by_cases h2 : -1073741824 ≤ step
    · have h3 : ¬ step ≤ 1073741824 := fun h => h1' ((max_ok step h2).2 h)
      simp only [decide_eq_false h3, Bool.false_and, Bool.and_false]
    · simp only [decide_eq_false h2, Bool.false_and]
theorem RWithinS_r (G) (step : Int) (c0 : Array Value) (t0 : TypeId) (off cap : Nat) (l : List Bd) (hw : WinB c0 off l) (hl : l.length ≤ 1000000000000) :
    AC Tryd.prog G 71 [.agg #[I64 step, (slc 0 off l.length cap)], I64 1048576, I64 65536] [.pending c0 t0] (fun v h => v = .bool (!l.any (badB 1048576 65536)) ∧ h = [.pending c0 t0]) := by
  refine ac_of_body tabOk has71 ?_
  unfold BodyOk
  conv => whnf
  refine aw_inv tabOk [[false, true, true, true, false, false, false, true, false, false, false, false, false, false, false, false], [false, false, false, false, false, false, false, false, false, false, false, false, false, false, false, false], [false, false, false, false, false, false, false, false, false, false, false, false, false, false, false, false], [false, false, false, false, false, false, false, false, false, false, false, false, false, false, false, false], [false, false]] (fun m s' => ∃ (i : Nat), m = l.length - i ∧ i ≤ l.length ∧ (l.take i).any (badB 1048576 65536) = false ∧
    s' = ⟨[[.chan none, I64 1048576, I64 65536, ptr 1 0, .chan none, .chan none, .chan none, I64 (i : Int), .chan none, .chan none, .chan none, .chan none, .chan none, .chan none, .chan none, .chan none],
      [.chan none, .chan none, .chan none, .chan none, .chan none, .chan none, .chan none, .chan none, .chan none, .chan none, .chan none, .chan none, .chan none, .chan none, .chan none, .chan none],
      [.chan none, .chan none, .chan none, .chan none, .chan none, .chan none, .chan none, .chan none, .chan none, .chan none, .chan none, .chan none, .chan none, .chan none, .chan none, .chan none],
      [.chan none, .chan none, .chan none, .chan none, .chan none, .chan none, .chan none, .chan none, .chan none, .chan none, .chan none, .chan none, .chan none, .chan none, .chan none, .chan none],
      [.chan none, .chan none]],
      [.pending c0 t0, .cells #[I64 step, (slc 0 off l.length cap)] 42], []⟩) l.length ?_ ⟨0, rfl, Nat.zero_le _, rfl, rfl⟩
  rintro m s' ⟨i, rfl, hi, ha, rfl⟩
  conv => whnf
  refine ways (fun h1 => ?_) (fun h1 => ?_) <;> conv => whnf
  · have hlt : i < l.length := by have := of_decide_eq_true h1; omega
    obtain ⟨x, hx⟩ : ∃ x, l[i]? = some x := ⟨_, List.getElem?_eq_getElem hlt⟩
    have hxe : l[i] = x := (List.getElem?_eq_some_iff.1 hx).2
    have hin : decide (0 ≤ (i : Int) ∧ (i : Int) < ((l.length : Nat) : Int)) = true := by rw [decide_eq_true_iff]; omega
    refine aw_rounds tabOk 4 ?_
    conv => whnf
    refine ad_of tabOk (by kernel_rfl) [(0, false), (1, false), (2, false), (3, false), (4, false), (5, false), (6, false), (7, false), (8, false), (9, false), (10, false), (11, false), (12, false), (13, false), (14, false), (15, false), (16, false), (17, false)] (by kernel_rfl) ?_
    conv => whnf
    refine way1 hin ?_
    conv => whnf
    refine nthK_of (l := c0.toList) (hw.at hx (q := 0) rfl) ?_
    conv => whnf
    refine way1 hin ?_
    conv => whnf
    refine nthK_of (l := c0.toList) (hw.at hx (q := 3) rfl) ?_
    conv => whnf
    refine ways (fun k00 => ?_) (fun k00 => ?_) <;> conv => whnf
    · refine ⟨rfl, fin_turnedK rfl ?_⟩
      conv => whnf
      exact ⟨by rw [any_bad hx (bad_of (.inl (.inl (.inl (of_decide_eq_true k00)))))]; rfl, rfl⟩
    refine ways (fun k01 => ?_) (fun k01 => ?_) <;> conv => whnf
    · refine ⟨rfl, fin_turnedK rfl ?_⟩
      conv => whnf
      exact ⟨by rw [any_bad hx (bad_of (.inl (.inl (.inr (of_decide_eq_true k01)))))]; rfl, rfl⟩
    refine ways (fun k02 => ?_) (fun k02 => ?_) <;> conv => whnf
    · refine ⟨rfl, fin_turnedK rfl ?_⟩
      conv => whnf
      exact ⟨by rw [any_bad hx (bad_of (.inr (.inl (.inl (of_decide_eq_true k02)))))]; rfl, rfl⟩
    refine ways (fun k03 => ?_) (fun k03 => ?_) <;> conv => whnf
    · refine ⟨rfl, fin_turnedK rfl ?_⟩
      conv => whnf
      exact ⟨by rw [any_bad hx (bad_of (.inr (.inl (.inr (of_decide_eq_true k03)))))]; rfl, rfl⟩
    refine ad_of tabOk (by kernel_rfl) [(0, false), (1, false), (2, false), (3, false), (4, false), (5, false), (6, false), (7, false), (8, false), (9, false), (10, false), (11, false), (12, false), (13, false), (14, false), (15, false), (16, false), (17, false)] (by kernel_rfl) ?_
    conv => whnf
    refine way1 hin ?_
    conv => whnf
    refine nthK_of (l := c0.toList) (hw.at hx (q := 1) rfl) ?_
    conv => whnf
    refine way1 hin ?_
    conv => whnf
    refine nthK_of (l := c0.toList) (hw.at hx (q := 4) rfl) ?_
    conv => whnf
    refine ways (fun k10 => ?_) (fun k10 => ?_) <;> conv => whnf
    · refine ⟨rfl, fin_turnedK rfl ?_⟩
      conv => whnf
      exact ⟨by rw [any_bad hx (bad_of (.inl (.inr (.inl (.inl (of_decide_eq_true k10))))))]; rfl, rfl⟩
    refine ways (fun k11 => ?_) (fun k11 => ?_) <;> conv => whnf
    · refine ⟨rfl, fin_turnedK rfl ?_⟩
      conv => whnf
      exact ⟨by rw [any_bad hx (bad_of (.inl (.inr (.inl (.inr (of_decide_eq_true k11))))))]; rfl, rfl⟩
    refine ways (fun k12 => ?_) (fun k12 => ?_) <;> conv => whnf
    · refine ⟨rfl, fin_turnedK rfl ?_⟩
      conv => whnf
      exact ⟨by rw [any_bad hx (bad_of (.inr (.inr (.inl (.inl (of_decide_eq_true k12))))))]; rfl, rfl⟩
    refine ways (fun k13 => ?_) (fun k13 => ?_) <;> conv => whnf
    · refine ⟨rfl, fin_turnedK rfl ?_⟩
      conv => whnf
      exact ⟨by rw [any_bad hx (bad_of (.inr (.inr (.inl (.inr (of_decide_eq_true k13))))))]; rfl, rfl⟩
    refine ad_of tabOk (by kernel_rfl) [(0, false), (1, false), (2, false), (3, false), (4, false), (5, false), (6, false), (7, false), (8, false), (9, false), (10, false), (11, false), (12, false), (13, false), (14, false), (15, false), (16, false), (17, false)] (by kernel_rfl) ?_
    conv => whnf
    refine way1 hin ?_
    conv => whnf
    refine nthK_of (l := c0.toList) (hw.at hx (q := 2) rfl) ?_
    conv => whnf
    refine way1 hin ?_
    conv => whnf
    refine nthK_of (l := c0.toList) (hw.at hx (q := 5) rfl) ?_
    conv => whnf
    refine ways (fun k20 => ?_) (fun k20 => ?_) <;> conv => whnf
    · refine ⟨rfl, fin_turnedK rfl ?_⟩
      conv => whnf
      exact ⟨by rw [any_bad hx (bad_of (.inl (.inr (.inr (.inl (of_decide_eq_true k20))))))]; rfl, rfl⟩
    refine ways (fun k21 => ?_) (fun k21 => ?_) <;> conv => whnf
    · refine ⟨rfl, fin_turnedK rfl ?_⟩
      conv => whnf
      exact ⟨by rw [any_bad hx (bad_of (.inl (.inr (.inr (.inr (of_decide_eq_true k21))))))]; rfl, rfl⟩
    refine ways (fun k22 => ?_) (fun k22 => ?_) <;> conv => whnf
    · refine ⟨rfl, fin_turnedK rfl ?_⟩
      conv => whnf
      exact ⟨by rw [any_bad hx (bad_of (.inr (.inr (.inr (.inl (of_decide_eq_true k22))))))]; rfl, rfl⟩
    refine ways (fun k23 => ?_) (fun k23 => ?_) <;> conv => whnf
    · refine ⟨rfl, fin_turnedK rfl ?_⟩
      conv => whnf
      exact ⟨by rw [any_bad hx (bad_of (.inr (.inr (.inr (.inr (of_decide_eq_true k23))))))]; rfl, rfl⟩
    rw [show wrapS .i64 ((i : Int) + 1) = ((i + 1 : Nat) : Int) by rw [wrapI (by omega) (by omega)]; omega]
    refine ⟨l.length - (i + 1), by omega, i + 1, rfl, by omega, ?_, rfl⟩
    have h2 : badB 1048576 65536 x = false := good_of (of_decide_eq_false k00) (of_decide_eq_false k01) (of_decide_eq_false k02) (of_decide_eq_false k03) (of_decide_eq_false k10) (of_decide_eq_false k11) (of_decide_eq_false k12) (of_decide_eq_false k13) (of_decide_eq_false k20) (of_decide_eq_false k21) (of_decide_eq_false k22) (of_decide_eq_false k23)
    rw [List.take_succ_eq_append_getElem hlt, List.any_append, ha, hxe]
    simp [h2]
  · have hin : i = l.length := by have := of_decide_eq_false h1; omega
    subst hin
    rw [List.take_length] at ha
    refine ⟨rfl, fin_turnedK rfl ?_⟩
    conv => whnf
    exact ⟨by rw [ha]; rfl, rfl⟩
theorem RRight_r (G) (step : Int) (c0 : Array Value) (t0 : TypeId) (off cap : Nat) (l : List Bd) (hw : WinB c0 off l) (hl : l.length ≤ 1000000000000) :
    AC Tryd.prog G 60 [.agg #[I64 step, (slc 0 off l.length cap)]] [.pending c0 t0] (fun v h => v = .bool (okState step l) ∧ h = [.pending c0 t0]) := by
  refine ac_of_body tabOk has60 ?_
  unfold BodyOk
  conv => whnf
  refine ways (fun h2 => ?_) (fun h2 => ?_) <;> conv => whnf
  · have h2' : -1073741824 ≤ step := of_decide_eq_true h2
    refine ways (fun h1 => ?_) (fun h1 => ?_) <;> conv => whnf
    · have h1' : step ≤ 1073741824 := of_decide_eq_true h1
      refine ways (fun h3 => ?_) (fun h3 => ?_) <;> conv => whnf
      · have h3' : 1 ≤ l.length := by have := of_decide_eq_true h3; omega
        refine ways (fun h4 => ?_) (fun h4 => ?_) <;> conv => whnf
        · have h4' : l.length ≤ 4 := by have := of_decide_eq_true h4; omega
          refine ac_readF [0] (RWithinS_r G step c0 t0 off cap l hw hl) (by simp [r3, r2, r1, r0, rA, nu]) rfl (cold_p (.inl rfl)) ?_
          rintro v h' ⟨rfl, rfl⟩
          refine ⟨rfl, rfl, ?_⟩
          conv => whnf
          refine ⟨rfl, fin_turnedK rfl ?_⟩
          conv => whnf
          exact ⟨by unfold okState; simp only [decide_eq_true h2', decide_eq_true h1', decide_eq_true h3', decide_eq_true h4', Bool.true_and], rfl⟩
        · have h4' : ¬ l.length ≤ 4 := by have := of_decide_eq_false h4; omega
          refine ⟨rfl, fin_turnedK rfl ?_⟩
          conv => whnf
          exact ⟨by unfold okState; simp only [decide_eq_false h4', Bool.false_and, Bool.and_false], rfl⟩
      · have h3' : ¬ 1 ≤ l.length := by have := of_decide_eq_false h3; omega
        refine ⟨rfl, fin_turnedK rfl ?_⟩
        conv => whnf
        exact ⟨by unfold okState; simp only [decide_eq_false h3', Bool.false_and, Bool.and_false], rfl⟩
    · have h1' : ¬ step ≤ 1073741824 := of_decide_eq_false h1
      refine ⟨rfl, fin_turnedK rfl ?_⟩
      conv => whnf
      exact ⟨by unfold okState; simp only [decide_eq_false h1', Bool.false_and, Bool.and_false], rfl⟩
  · have h2' : ¬ -1073741824 ≤ step := of_decide_eq_false h2
    refine ⟨rfl, fin_turnedK rfl ?_⟩
    conv => whnf
    exact ⟨by unfold okState; simp only [decide_eq_false h2', Bool.false_and], rfl⟩
theorem IndexB_n (G) (box top : Int)  :
    AC Tryd.prog G 109 [(.slice none 0 0), .func (.func 97) #[] #[ptr 0 0, ptr 1 0]] [.cells #[I64 box] 3 (1, 0), .cells #[I64 top] 3 (1, 0)] (fun v h => (∃ n : Int, v = I64 n ∧ decide (n ≥ 0) = ([] : List Bd).any (badB box top)) ∧ h = [.cells #[I64 box] 3 (1, 0), .cells #[I64 top] 3 (1, 0)]) := by
  refine ac_of_body tabOk has109 ?_
  unfold BodyOk
  conv => whnf
  refine aw_rounds tabOk 1 ?_
  conv => whnf
  refine ⟨rfl, fin_turnedK rfl ?_⟩
  conv => whnf
  exact ⟨⟨-1, rfl, rfl⟩, rfl⟩
theorem ContainsB_n (G) (box top : Int)  :
    AC Tryd.prog G 96 [(.slice none 0 0), .func (.func 97) #[] #[ptr 0 0, ptr 1 0]] [.cells #[I64 box] 3 (1, 0), .cells #[I64 top] 3 (1, 0)] (fun v h => v = .bool (([] : List Bd).any (badB box top)) ∧ h = [.cells #[I64 box] 3 (1, 0), .cells #[I64 top] 3 (1, 0)]) := by
  refine ac_of_body tabOk has96 ?_
  unfold BodyOk
  conv => whnf
  refine ac_mono (IndexB_n G box top ) ?_
  rintro v h' ⟨⟨n, rfl, hn⟩, rfl⟩
  conv => whnf
  refine ⟨rfl, fin_turnedK rfl ?_⟩
  conv => whnf
  exact ⟨by rw [← hn], rfl⟩
theorem WithinS_n (G) (step : Int)  (box top : Int) :
    AC Tryd.prog G 84 [.agg #[I64 step, (.slice none 0 0)], I64 box, I64 top] [] (fun v h => v = .bool (!([] : List Bd).any (badB box top)) ∧ h = []) := by
  refine ac_of_body tabOk has84 ?_
  unfold BodyOk
  conv => whnf
  refine ac_read [1, 2] (ContainsB_n G box top ) (by simp [r3, r2, r1, r0, rA, nu]) rfl ⟨⟨by decide, rfl, _, rfl⟩, ⟨by decide, rfl, _, rfl⟩, trivial⟩ ?_
  rintro v h' ⟨rfl, rfl⟩
  refine ⟨rfl, rfl, ?_⟩
  conv => whnf
  refine ⟨rfl, fin_turnedK rfl ?_⟩
  conv => whnf
  exact ⟨rfl, rfl⟩
theorem Right_n (G) (step : Int)  :
    AC Tryd.prog G 76 [.agg #[I64 step, (.slice none 0 0)]] [] (fun v h => v = .bool (okState step ([] : List Bd)) ∧ h = []) := by
  refine ac_of_body tabOk has76 ?_
  unfold BodyOk
  conv => whnf
  refine ways (fun h1 => ?_) (fun h1 => ?_) <;> conv => whnf
  · refine ways (fun h2 => ?_) (fun h2 => ?_) <;> conv => whnf
    · have h2' : -1073741824 ≤ step := of_decide_eq_true h2
      have h1' : step ≤ 1073741824 := (max_ok step h2').1 (of_decide_eq_true h1)
      refine ⟨rfl, fin_turnedK rfl ?_⟩
      conv => whnf
      exact ⟨by unfold okState; simp, rfl⟩
    · have h2' : ¬ -1073741824 ≤ step := of_decide_eq_false h2
      refine ⟨rfl, fin_turnedK rfl ?_⟩
      conv => whnf
      exact ⟨by unfold okState; simp only [decide_eq_false h2', Bool.false_and], rfl⟩
  · refine ⟨rfl, fin_turnedK rfl ?_⟩
    conv => whnf
    refine ⟨?_, rfl⟩
    have h1' := of_decide_eq_false h1
    unfold okState
    by_cases h2 : -1073741824 ≤ step
    · have h3 : ¬ step ≤ 1073741824 := fun h => h1' ((max_ok step h2).2 h)
      simp only [decide_eq_false h3, Bool.false_and, Bool.and_false]
    · simp only [decide_eq_false h2, Bool.false_and]
theorem RWithinS_n (G) (step : Int)  :
    AC Tryd.prog G 71 [.agg #[I64 step, (.slice none 0 0)], I64 1048576, I64 65536] [] (fun v h => v = .bool (!([] : List Bd).any (badB 1048576 65536)) ∧ h = []) := by
  refine ac_of_body tabOk has71 ?_
  unfold BodyOk
  conv => whnf
  refine aw_rounds tabOk 1 ?_
  conv => whnf
  refine ⟨rfl, fin_turnedK rfl ?_⟩
  conv => whnf
  exact ⟨rfl, rfl⟩
theorem RRight_n (G) (step : Int)  :
    AC Tryd.prog G 60 [.agg #[I64 step, (.slice none 0 0)]] [] (fun v h => v = .bool (okState step ([] : List Bd)) ∧ h = []) := by
  refine ac_of_body tabOk has60 ?_
  unfold BodyOk
  conv => whnf
  refine ways (fun h2 => ?_) (fun h2 => ?_) <;> conv => whnf
  · have h2' : -1073741824 ≤ step := of_decide_eq_true h2
    refine ways (fun h1 => ?_) (fun h1 => ?_) <;> conv => whnf
    · have h1' : step ≤ 1073741824 := of_decide_eq_true h1
      refine ⟨rfl, fin_turnedK rfl ?_⟩
      conv => whnf
      exact ⟨by unfold okState; simp, rfl⟩
    · have h1' : ¬ step ≤ 1073741824 := of_decide_eq_false h1
      refine ⟨rfl, fin_turnedK rfl ?_⟩
      conv => whnf
      exact ⟨by unfold okState; simp only [decide_eq_false h1', Bool.false_and, Bool.and_false], rfl⟩
  · have h2' : ¬ -1073741824 ≤ step := of_decide_eq_false h2
    refine ⟨rfl, fin_turnedK rfl ?_⟩
    conv => whnf
    exact ⟨by unfold okState; simp only [decide_eq_false h2', Bool.false_and], rfl⟩
end Go.Proofs.YtjpjnjidchdlbaaDoor
