/-
  StateWithin: what the law computes (no condition).
-/
import Derived.Test.YtjpjnjidchdlbaaStM
namespace Go.Proofs.Ytjpjnjidchdlbaa
set_option linter.unusedSimpArgs false
set_option linter.unusedVariables false
open Go
set_option maxRecDepth 100000
set_option maxHeartbeats 4000000
theorem ad_fgt {P : Program} {G : List (Nat × Obj)} {ro : Option Nat} {ops : Array Oper} {s s' : St} {K : St → Prop} (m : List (List Bool)) (e : fgS m s = s') (h : AD P G ro ops s' K) : AD P G ro ops s K := by
  subst e
  unfold AD at *
  intro id
  exact aw_fgt m (h id)
theorem vwin_d {n x : Int} (h0 : 0 ≤ n) (h1 : n ≤ 4611686018427387904) : vwin n x = (decide (-n ≤ x) && decide (x ≤ n)) := by
  unfold vwin
  rw [wrapI (by omega) (by omega), decide_eq_false (by omega : ¬ n < 0)]
  by_cases h2 : -n ≤ x <;> by_cases h3 : x ≤ n
  · rw [decide_eq_false (by omega : ¬ x < 0 - n), decide_eq_false (by omega : ¬ x > n), decide_eq_true h2, decide_eq_true h3]; rfl
  · rw [decide_eq_false (by omega : ¬ x < 0 - n), decide_eq_true (by omega : x > n), decide_eq_true h2, decide_eq_false h3]; rfl
  · rw [decide_eq_true (by omega : x < 0 - n), decide_eq_false h2]; rfl
  · rw [decide_eq_true (by omega : x < 0 - n), decide_eq_false h2]; rfl
theorem badB_iff {box top : Int} (h0 : 0 ≤ box) (h1 : box ≤ 4611686018427387904) (h2 : 0 ≤ top) (h3 : top ≤ 4611686018427387904) (b : Bd) : badB box top b = true ↔
    ((b.a < -box ∨ b.a > box) ∨ (b.b < -box ∨ b.b > box) ∨ (b.c < -box ∨ b.c > box)) ∨ ((b.x < -top ∨ b.x > top) ∨ (b.y < -top ∨ b.y > top) ∨ (b.z < -top ∨ b.z > top)) := by
  unfold badB vwin3
  simp only [vwin_d h0 h1, vwin_d h2 h3, Bool.or_eq_true, Bool.not_eq_true', Bool.and_eq_false_iff, decide_eq_false_iff_not]
  omega
theorem any_mono {l : List Bd} {f g : Bd → Bool} (h : ∀ b, g b = true → f b = true) (hf : l.any f = false) : l.any g = false := by
  cases hg : l.any g with
  | false => rfl
  | true =>
    obtain ⟨b, hb, hgb⟩ := List.any_eq_true.1 hg
    rw [List.any_eq_true.2 ⟨b, hb, h b hgb⟩] at hf
    cases hf
theorem any_box {l : List Bd} {box top : Int} (h0 : 0 ≤ box) (h1 : box ≤ 1099511627776) (h2 : 0 ≤ top) (h3 : top ≤ 1099511627776) (hf : l.any (badB box top) = false) : l.any (badB (box + 1) top) = false :=
  any_mono (fun b hb => by
    rw [badB_iff (by omega) (by omega) (by omega) (by omega)] at hb ⊢
    omega) hf
theorem any_top {l : List Bd} {box top : Int} (h0 : 0 ≤ box) (h1 : box ≤ 1099511627776) (h2 : 0 ≤ top) (h3 : top ≤ 1099511627776) (hf : l.any (badB box top) = false) : l.any (badB box (2 * top)) = false :=
  any_mono (fun b hb => by
    rw [badB_iff (by omega) (by omega) (by omega) (by omega)] at hb ⊢
    omega) hf
theorem ok_any {step : Int} {l : List Bd} (h : okState step l = true) : l.any (badB 1048576 65536) = false := by
  unfold okState at h
  simp only [Bool.and_eq_true, Bool.not_eq_true'] at h
  exact h.2.2.2.2
/-- the place that a number names -/
theorem place_of (x : Int) {n : Nat} (h0 : 1 ≤ n) (h1 : n ≤ 1000000) : ∃ a : Nat, a < n ∧ (wrapS .i64 (x.tmod (n : Int) + (n : Int))).tmod (n : Int) = (a : Int) := by
  have hn : (0 : Int) < (n : Int) := by omega
  have h2 : x.tmod n < n := Int.tmod_lt_of_pos x hn
  have h3 : -(n : Int) < x.tmod n := by
    rcases Int.le_total 0 x with hx | hx
    · have := Int.tmod_nonneg (n : Int) hx
      omega
    · have h4 := Int.tmod_lt_of_pos (-x) hn
      rw [Int.neg_tmod] at h4
      omega
  rw [wrapI (by omega) (by omega)]
  have h5 : 0 ≤ (x.tmod (n : Int) + (n : Int)).tmod (n : Int) := Int.tmod_nonneg _ (by omega)
  have h6 : (x.tmod (n : Int) + (n : Int)).tmod (n : Int) < n := Int.tmod_lt_of_pos _ hn
  exact ⟨((x.tmod (n : Int) + (n : Int)).tmod (n : Int)).toNat, by omega, by omega⟩
/-- one cell of body i is written -/
theorem write_part {c : Array Value} {l : List Bd} {i q n : Nat} {b b' : Bd} {v : Value} {k : List Value → Prop} (hw : WinB c 0 l) (hb : l[i]? = some b) (hq : q < 6) (hv : cleanV v = true) (hin : b'.cells[q]? = some v) (hout : ∀ j, j < 6 → j ≠ q → b'.cells[j]? = b.cells[j]?) (hn : n = 0 + Int.toNat (i : Int) * 6 + q)
    (h : ∀ c' : Array Value, ((∀ x ∈ c.toList, cleanV x = true) → ∀ x ∈ c'.toList, cleanV x = true) → WinB c' 0 (l.set i b') → k c'.toList) : writeK c.toList n [v] k := by
  rw [hn]
  refine write_bd (b' := b') hw hb (by simp; omega) (by simpa using hv) (fun j hj => ?_) (fun j hj ho => hout j hj ?_) h
  · have : j = 0 := by simpa using hj
    subst this
    exact hin
  · rcases ho with ho | ho
    · omega
    · simp at ho
      omega
def setX (b : Bd) (q : Nat) (v : Int) : Bd := match q with
  | 0 => { b with a := v }
  | 1 => { b with b := v }
  | _ => { b with c := v }
def setV (b : Bd) (q : Nat) (v : Int) : Bd := match q with
  | 0 => { b with x := v }
  | 1 => { b with y := v }
  | _ => { b with z := v }
theorem setX_in (b : Bd) {q : Nat} (hq : q < 3) (v : Int) : (setX b q v).cells[q]? = some (I64 v) := by
  match q, hq with
  | 0, _ => rfl
  | 1, _ => rfl
  | 2, _ => rfl
theorem setX_out (b : Bd) {q : Nat} (hq : q < 3) (v : Int) (j : Nat) (hj : j < 6) (hne : j ≠ q) : (setX b q v).cells[j]? = b.cells[j]? := by
  match q, hq, j, hj, hne with
  | 0, _, 0, _, h => exact absurd rfl h
  | 1, _, 1, _, h => exact absurd rfl h
  | 2, _, 2, _, h => exact absurd rfl h
  | 0, _, 1, _, _ => rfl
  | 0, _, 2, _, _ => rfl
  | 0, _, 3, _, _ => rfl
  | 0, _, 4, _, _ => rfl
  | 0, _, 5, _, _ => rfl
  | 1, _, 0, _, _ => rfl
  | 1, _, 2, _, _ => rfl
  | 1, _, 3, _, _ => rfl
  | 1, _, 4, _, _ => rfl
  | 1, _, 5, _, _ => rfl
  | 2, _, 0, _, _ => rfl
  | 2, _, 1, _, _ => rfl
  | 2, _, 3, _, _ => rfl
  | 2, _, 4, _, _ => rfl
  | 2, _, 5, _, _ => rfl
theorem setV_in (b : Bd) {q : Nat} (hq : q < 3) (v : Int) : (setV b q v).cells[3 + q]? = some (I64 v) := by
  match q, hq with
  | 0, _ => rfl
  | 1, _ => rfl
  | 2, _ => rfl
theorem setV_out (b : Bd) {q : Nat} (hq : q < 3) (v : Int) (j : Nat) (hj : j < 6) (hne : j ≠ 3 + q) : (setV b q v).cells[j]? = b.cells[j]? := by
  match q, hq, j, hj, hne with
  | 0, _, 3, _, h => exact absurd rfl h
  | 1, _, 4, _, h => exact absurd rfl h
  | 2, _, 5, _, h => exact absurd rfl h
  | 0, _, 0, _, _ => rfl
  | 0, _, 1, _, _ => rfl
  | 0, _, 2, _, _ => rfl
  | 0, _, 4, _, _ => rfl
  | 0, _, 5, _, _ => rfl
  | 1, _, 0, _, _ => rfl
  | 1, _, 1, _, _ => rfl
  | 1, _, 2, _, _ => rfl
  | 1, _, 3, _, _ => rfl
  | 1, _, 5, _, _ => rfl
  | 2, _, 0, _, _ => rfl
  | 2, _, 1, _, _ => rfl
  | 2, _, 2, _, _ => rfl
  | 2, _, 3, _, _ => rfl
  | 2, _, 4, _, _ => rfl
theorem any_set {l : List Bd} {i : Nat} {b : Bd} {f : Bd → Bool} (hi : i < l.length) (hf : f b = true) : (l.set i b).any f = true :=
  List.any_eq_true.2 ⟨b, List.mem_of_getElem? (List.getElem?_set_self hi), hf⟩
theorem bad_setX {box top : Int} (h0 : 0 ≤ box) (h1 : box ≤ 1099511627776) (h2 : 0 ≤ top) (h3 : top ≤ 1099511627776) (b : Bd) {q : Nat} (hq : q < 3) : badB box top (setX b q (wrapS .i64 (wrapS .i64 (0 - box) - 1))) = true := by
  have e : wrapS .i64 (wrapS .i64 (0 - box) - 1) = -box - 1 := by rw [wrapI (n := 0 - box) (by omega) (by omega), wrapI (by omega) (by omega)]; omega
  rw [e, badB_iff (by omega) (by omega) (by omega) (by omega)]
  match q, hq with
  | 0, _ => simp only [setX]; omega
  | 1, _ => simp only [setX]; omega
  | 2, _ => simp only [setX]; omega
theorem bad_setV {box top : Int} (h0 : 0 ≤ box) (h1 : box ≤ 1099511627776) (h2 : 0 ≤ top) (h3 : top ≤ 1099511627776) (b : Bd) {q : Nat} (hq : q < 3) : badB box top (setV b q (wrapS .i64 (top + 1))) = true := by
  have e : wrapS .i64 (top + 1) = top + 1 := wrapI (by omega) (by omega)
  rw [e, badB_iff (by omega) (by omega) (by omega) (by omega)]
  match q, hq with
  | 0, _ => simp only [setV]; omega
  | 1, _ => simp only [setV]; omega
  | 2, _ => simp only [setV]; omega
theorem Within9_n (G) (step box top at' part : Int) : AC Try.prog G 9 [.agg #[I64 step, .slice none 0 0], I64 box, I64 top, I64 at', I64 part] [] (fun v h => v = .bool true ∧ h = []) := by
  refine ac_of_body tabOk has9 ?_
  unfold BodyOk
  conv => whnf
  refine ac_pure (wakes_c G) rfl ?_
  rintro v h' ⟨rfl, rfl⟩
  refine ⟨rfl, rfl, ?_⟩
  conv => whnf
  refine ⟨rfl, fin_turnedK rfl ?_⟩
  conv => whnf
  exact ⟨rfl, rfl⟩
theorem lt45 {b : Bool} {news : List Obj} {q : Nat} {o : Obj} {P : Array Value → Prop} {t : TypeId} (h : (b = false → news[q]? = some o) ∧ (b = true → ∃ A, P A ∧ news[q]? = some (.cells A t))) : q < news.length := by
  cases b with
  | false => exact (List.getElem?_eq_some_iff.1 (h.1 rfl)).1
  | true =>
    obtain ⟨A, _, e⟩ := h.2 rfl
    exact (List.getElem?_eq_some_iff.1 e).1
inductive J9 (c0 : Array Value) (t0 : TypeId) (off cap : Nat) (l : List Bd) (step box top : Int) (ap pp : Nat) (S : Nat → Bool) : St → Prop where
  | mk (x91 x92 x93 x94 x12 x13 : Value) (q1 q3 q4 q5 : Nat) (news : List Obj)
    (ff0 : S 0 = true → x91 = (.agg #[I64 step, slc 0 off l.length cap]))
    (ff1 : S 2 = true → x93 = (.agg #[I64 step, slc 0 off l.length cap]))
    (ff2 : S 1 = true → ∃ c cp, x92 = .agg #[I64 step, slc (q1 + 2) 0 l.length cp] ∧ ((∀ x ∈ c.toList, cleanV x = true) ∧ WinB c 0 l ∧ l.length ≤ cp) ∧ news[q1]? = some (.cells c 56))
    (ff3 : S 3 = true → ∃ c cp, x94 = .agg #[I64 step, slc (q3 + 2) 0 l.length cp] ∧ ((∀ x ∈ c.toList, cleanV x = true) ∧ WinB c 0 l ∧ l.length ≤ cp) ∧ news[q3]? = some (.cells c 56))
    (ff4 : S 4 = true → x12 = ptr (q4 + 2) 0 ∧ (S 6 = false → news[q4]? = some (.cells #[I64 0, .slice none 0 0] 42)) ∧ (S 6 = true → ∃ A, x92 = .agg A ∧ news[q4]? = some (.cells A 42)))
    (ff5 : S 5 = true → x13 = ptr (q5 + 2) 0 ∧ (S 7 = false → news[q5]? = some (.cells #[I64 0, .slice none 0 0] 42)) ∧ (S 7 = true → ∃ A, x94 = .agg A ∧ news[q5]? = some (.cells A 42)))
    (ff6 : S 6 = true → S 1 = true ∧ S 4 = true)
    (ff7 : S 7 = true → S 3 = true ∧ S 5 = true)
    (ff8 : S 1 = true → S 3 = true → q1 ≠ q3)
    (ff9 : S 1 = true → S 4 = true → q1 ≠ q4)
    (ff10 : S 1 = true → S 5 = true → q1 ≠ q5)
    (ff11 : S 3 = true → S 4 = true → q3 ≠ q4)
    (ff12 : S 3 = true → S 5 = true → q3 ≠ q5)
    (ff13 : S 4 = true → S 5 = true → q4 ≠ q5)
    (ff14 : news.length = (S 1).toNat + (S 3).toNat + (S 4).toNat + (S 5).toNat) : J9 c0 t0 off cap l step box top ap pp S ⟨[[.chan none, I64 box, I64 top, I64 (ap : Int), I64 (pp : Int), ptr 1 0, .chan none, .chan none, .chan none, .chan none, .chan none, .chan none, x12, x13, .chan none, .chan none],
      [.chan none, .chan none, .chan none, .chan none, .chan none, .chan none, .chan none, .chan none, .chan none, .chan none, .chan none, .chan none, .chan none, .chan none, .chan none, .chan none],
      [.chan none, .chan none, .chan none, .chan none, .chan none, .chan none, .chan none, .chan none, .chan none, .chan none, .chan none, .chan none, .chan none, .chan none, .chan none, .chan none],
      [.chan none, .chan none, .chan none, .chan none, .chan none, .chan none, .chan none, .chan none, .chan none, .chan none, .chan none, .chan none, .chan none, .chan none, .chan none, .chan none],
      [.chan none, .chan none, .chan none, .chan none, .chan none, .chan none, .chan none, .chan none, .chan none, .chan none, .chan none, .chan none, .chan none, .chan none, .chan none, .chan none],
      [.chan none, .chan none, .chan none, .chan none, .chan none, .chan none, .chan none, .chan none, .chan none, .chan none, .chan none, x91, x92, x93, x94, .chan none],
      [.chan none, .chan none, .chan none, .chan none, .chan none, .chan none, .chan none, .chan none, .chan none, .chan none, .chan none, .chan none, .chan none, .chan none, .chan none, .chan none],
      [.chan none, .chan none, .chan none, .chan none, .chan none, .chan none, .chan none, .chan none, .chan none, .chan none, .chan none, .chan none, .chan none, .chan none, .chan none, .chan none],
      [.chan none]],
      ((.pending c0 t0) :: (.cells #[I64 step, slc 0 off l.length cap] 42) :: news), []⟩
theorem reg8 {G : List (Nat × Obj)} {ro : Option Nat} {ops : Array Oper} {s : St} {K : St → Prop} (c0 : Array Value) (t0 : TypeId) (off cap : Nat) (l : List Bd) (step box top : Int) (ap pp : Nat) (hw : WinB c0 off l) (hcap : l.length ≤ cap) (hm : Try.prog.follows .mixedOrders = true) (hlow : lowB ops.toList 0 = true) (hsz : ops.size = 8)
    (h0 : J9 c0 t0 off cap l step box top ap pp (fun _ => false) s) (hl2 : 2 ≤ s.h.length ∧ s.h.length ≤ 2) (hstep : stepsK Try.prog tab G ro ops.toList (J9 c0 t0 off cap l step box top ap pp) ops.toList 0)
    (h : ∀ (ca cc : Array Value) (cp cp2 : Nat), (∀ x ∈ ca.toList, cleanV x = true) → WinB ca 0 l → l.length ≤ cp → (∀ x ∈ cc.toList, cleanV x = true) → WinB cc 0 l → l.length ≤ cp2 → K ⟨[[.chan none, I64 box, I64 top, I64 (ap : Int), I64 (pp : Int), ptr 1 0, .chan none, .chan none, .chan none, .chan none, .chan none, .chan none, ptr 4 0, ptr 5 0, .chan none, .chan none],
      [.chan none, .chan none, .chan none, .chan none, .chan none, .chan none, .chan none, .chan none, .chan none, .chan none, .chan none, .chan none, .chan none, .chan none, .chan none, .chan none],
      [.chan none, .chan none, .chan none, .chan none, .chan none, .chan none, .chan none, .chan none, .chan none, .chan none, .chan none, .chan none, .chan none, .chan none, .chan none, .chan none],
      [.chan none, .chan none, .chan none, .chan none, .chan none, .chan none, .chan none, .chan none, .chan none, .chan none, .chan none, .chan none, .chan none, .chan none, .chan none, .chan none],
      [.chan none, .chan none, .chan none, .chan none, .chan none, .chan none, .chan none, .chan none, .chan none, .chan none, .chan none, .chan none, .chan none, .chan none, .chan none, .chan none],
      [.chan none, .chan none, .chan none, .chan none, .chan none, .chan none, .chan none, .chan none, .chan none, .chan none, .chan none, (.agg #[I64 step, slc 0 off l.length cap]), .agg #[I64 step, slc 2 0 l.length cp], (.agg #[I64 step, slc 0 off l.length cap]), .agg #[I64 step, slc 3 0 l.length cp2], .chan none],
      [.chan none, .chan none, .chan none, .chan none, .chan none, .chan none, .chan none, .chan none, .chan none, .chan none, .chan none, .chan none, .chan none, .chan none, .chan none, .chan none],
      [.chan none, .chan none, .chan none, .chan none, .chan none, .chan none, .chan none, .chan none, .chan none, .chan none, .chan none, .chan none, .chan none, .chan none, .chan none, .chan none],
      [.chan none]],
        [.pending c0 t0, .cells #[I64 step, slc 0 off l.length cap] 42, .cells ca 56, .cells cc 56, .cells #[I64 step, slc 2 0 l.length cp] 42, .cells #[I64 step, slc 3 0 l.length cp2] 42], []⟩) : AD Try.prog G ro ops s K := by
  refine ad_ren (ad_inv tabOk hm hlow _ h0 hstep ?_)
  rintro S s' hall ⟨x91, x92, x93, x94, x12, x13, q1, q3, q4, q5, news, f0, f2, f1, f3, f4, f5, g61, g73, n13, n14, n15, n34, n35, n45, cn⟩ _
  rw [hsz] at hall
  obtain rfl := f0 (hall 0 (by decide))
  obtain rfl := f2 (hall 2 (by decide))
  obtain ⟨ca, cp, rfl, ⟨w1, w2, w3⟩, e1⟩ := f1 (hall 1 (by decide))
  obtain ⟨cc, cp2, rfl, ⟨u1, u2, u3⟩, e3⟩ := f3 (hall 3 (by decide))
  obtain ⟨rfl, _, h4⟩ := f4 (hall 4 (by decide))
  obtain ⟨A4, hA4, e4⟩ := h4 (hall 6 (by decide))
  cases hA4
  obtain ⟨rfl, _, h5⟩ := f5 (hall 5 (by decide))
  obtain ⟨A5, hA5, e5⟩ := h5 (hall 7 (by decide))
  cases hA5
  have n1 := n13 (hall 1 (by decide)) (hall 3 (by decide))
  have n2 := n14 (hall 1 (by decide)) (hall 4 (by decide))
  have n3 := n15 (hall 1 (by decide)) (hall 5 (by decide))
  have n4 := n34 (hall 3 (by decide)) (hall 4 (by decide))
  have n5 := n35 (hall 3 (by decide)) (hall 5 (by decide))
  have n6 := n45 (hall 4 (by decide)) (hall 5 (by decide))
  have hs2 : s.h.length = 2 := by omega
  rw [hs2]
  refine ⟨tq 2 [q1, q3, q4, q5], _, ?_, h ca cc cp cp2 w1 w2 w3 u1 u2 u3⟩
  refine ren_list2 (base := [.pending c0 t0, .cells #[I64 step, slc 0 off l.length cap] 42]) (us := [.cells ca 56, .cells cc 56, .cells #[I64 step, slc 2 0 l.length cp] 42, .cells #[I64 step, slc 3 0 l.length cp2] 42]) (Nat.le_refl _) rfl (by simp [n1, n2, n3, n4, n5, n6]) ?_ ?_ ?_ (by simp [r3, r2, r1, r0, rA, tq, Nat.blt]) (by simp [isMark, scop3, scop2, scop1, scop0, scopA])
  · intro j o hj
    match j, hj with
    | 0, hj => cases hj; rw [rO_cl w1]; exact e1
    | 1, hj => cases hj; rw [rO_cl u1]; exact e3
    | 2, hj => cases hj; simpa [rO, r1, r0, rA, tq, Nat.blt] using e4
    | 3, hj => cases hj; simpa [rO, r1, r0, rA, tq, Nat.blt] using e5
    | j + 4, hj => simp at hj
  · intro o ho
    rcases List.mem_cons.1 ho with rfl | ho
    · exact fun v hv => clean_sc (w1 v hv) _
    rcases List.mem_cons.1 ho with rfl | ho
    · exact fun v hv => clean_sc (u1 v hv) _
    intro v hv
    refine scop1_ok (List.all_eq_true.1 ?_ v hv)
    rcases List.mem_cons.1 ho with rfl | ho
    · rfl
    rcases List.mem_singleton.1 ho with rfl
    rfl
  · intro o ho
    intro v hv
    rcases List.mem_cons.1 ho with rfl | ho
    · cases hv
    rcases List.mem_singleton.1 ho with rfl
    exact scop1_ok (List.all_eq_true.1 (by rfl : [I64 step, slc 0 off l.length cap].all (scop1 2) = true) v hv)
theorem Within9_r (G) (step : Int) (c0 : Array Value) (t0 : TypeId) (off cap : Nat) (l : List Bd) (hw : WinB c0 off l) (hcap : l.length ≤ cap) (box top at' part : Int) : AC Try.prog G 9 [.agg #[I64 step, slc 0 off l.length cap], I64 box, I64 top, I64 at', I64 part] [.pending c0 t0] (fun v h => v = .bool true ∧ h = [.pending c0 t0]) := by
  refine ac_of_body tabOk has9 ?_
  unfold BodyOk
  conv => whnf
  refine ways (fun h1 => ?_) (fun h1 => ?_) <;> conv => whnf
  · refine ac_pure (wakes_c G) rfl ?_
    rintro v h' ⟨rfl, rfl⟩
    refine ⟨rfl, rfl, ?_⟩
    conv => whnf
    refine ⟨rfl, fin_turnedK rfl ?_⟩
    conv => whnf
    exact ⟨rfl, rfl⟩
  refine ways (fun h2 => ?_) (fun h2 => ?_) <;> conv => whnf
  · refine ac_pure (wakes_c G) rfl ?_
    rintro v h' ⟨rfl, rfl⟩
    refine ⟨rfl, rfl, ?_⟩
    conv => whnf
    refine ⟨rfl, fin_turnedK rfl ?_⟩
    conv => whnf
    exact ⟨rfl, rfl⟩
  refine ways (fun h3 => ?_) (fun h3 => ?_) <;> conv => whnf
  · refine ac_pure (wakes_c G) rfl ?_
    rintro v h' ⟨rfl, rfl⟩
    refine ⟨rfl, rfl, ?_⟩
    conv => whnf
    refine ⟨rfl, fin_turnedK rfl ?_⟩
    conv => whnf
    exact ⟨rfl, rfl⟩
  refine ways (fun h4 => ?_) (fun h4 => ?_) <;> conv => whnf
  · refine ac_pure (wakes_c G) rfl ?_
    rintro v h' ⟨rfl, rfl⟩
    refine ⟨rfl, rfl, ?_⟩
    conv => whnf
    refine ⟨rfl, fin_turnedK rfl ?_⟩
    conv => whnf
    exact ⟨rfl, rfl⟩
  refine ways (fun h5 => ?_) (fun h5 => ?_) <;> conv => whnf
  · refine ac_pure (wakes_c G) rfl ?_
    rintro v h' ⟨rfl, rfl⟩
    refine ⟨rfl, rfl, ?_⟩
    conv => whnf
    refine ⟨rfl, fin_turnedK rfl ?_⟩
    conv => whnf
    exact ⟨rfl, rfl⟩
  refine ways (fun h6 => ?_) (fun h6 => ?_) <;> conv => whnf
  · refine ac_pure (wakes_c G) rfl ?_
    rintro v h' ⟨rfl, rfl⟩
    refine ⟨rfl, rfl, ?_⟩
    conv => whnf
    refine ⟨rfl, fin_turnedK rfl ?_⟩
    conv => whnf
    exact ⟨rfl, rfl⟩
  have hl9 : l.length ≤ 9 := by have := of_decide_eq_false h1; omega
  have hl1 : 1 ≤ l.length := by
    have : (l.length : Int) ≠ 0 := by simpa using h2
    omega
  have b0 : 0 ≤ box := by have := of_decide_eq_false h3; omega
  have t0' : 0 ≤ top := by have := of_decide_eq_false h4; omega
  have b1 : box ≤ 1099511627776 := by have := of_decide_eq_false h5; omega
  have t1' : top ≤ 1099511627776 := by have := of_decide_eq_false h6; omega
  have hl12 : l.length ≤ 1000000000000 := by omega
  refine ac_mono (WithinS_s G step (l := l) (.inr ⟨0, off, cap, c0, t0, rfl, .inl rfl, hw, hcap⟩) hl12 box top) ?_
  rintro v h' ⟨rfl, rfl⟩
  conv => whnf
  have hne : (!((l.length : Int) == 0)) = true := by rw [h2]; rfl
  obtain ⟨ap, hap, hae⟩ := place_of at' hl1 (by omega)
  obtain ⟨pp, hpp, hpe⟩ := place_of part (n := 3) (by decide) (by decide)
  have hpe : (wrapS .i64 (part.tmod 3 + 3)).tmod 3 = (pp : Int) := hpe
  refine ways (fun k1 => ?_) (fun k1 => ?_) <;> conv => whnf
  refine ac_mono (WithinS_s G step (l := l) (.inr ⟨0, off, cap, c0, t0, rfl, .inl rfl, hw, hcap⟩) hl12 (wrapS .i64 (box + 1)) top) ?_
  rintro v h' ⟨rfl, rfl⟩
  rw [wrapI (n := box + 1) (by omega) (by omega), any_box b0 b1 t0' t1' (by simpa using k1)]
  conv => whnf
  refine way1 k1 ?_
  conv => whnf
  refine ac_mono (WithinS_s G step (l := l) (.inr ⟨0, off, cap, c0, t0, rfl, .inl rfl, hw, hcap⟩) hl12 box (wrapS .i64 (2 * top))) ?_
  rintro v h' ⟨rfl, rfl⟩
  rw [wrapI (n := 2 * top) (by omega) (by omega), any_top b0 b1 t0' t1' (by simpa using k1)]
  conv => whnf
  rotate_left
  refine way0 k1 ?_
  conv => whnf
  all_goals
    refine ac_mono (Right_s G step (l := l) (.inr ⟨0, off, cap, c0, t0, rfl, .inl rfl, hw, hcap⟩) hl12) ?_
    rintro v h' ⟨rfl, rfl⟩
    conv => whnf
    refine ways (fun k2 => ?_) (fun k2 => ?_) <;> conv => whnf
    refine ac_mono (WithinS_s G step (l := l) (.inr ⟨0, off, cap, c0, t0, rfl, .inl rfl, hw, hcap⟩) hl12 1048576 65536) ?_
    rintro v h' ⟨rfl, rfl⟩
    rw [ok_any k2]
    conv => whnf
    all_goals
      refine ad_of tabOk (by kernel_rfl) [(0, false), (1, false), (2, false), (3, false), (4, false), (5, false), (6, false), (7, false), (8, false), (9, false), (10, false), (11, false), (12, false), (13, false)] (by kernel_rfl) ?_
      conv => whnf
      refine way1 hne ?_
      conv => whnf
      refine way1 hne ?_
      conv => whnf
      refine ad_fgt [[false, true, true, true, true, true, false, false, false, false, false, false, false, false, false, false], [false, false, false, false, false, false, false, false, false, false, false, false, false, false, false, false], [false, false, false, false, false, false, false, false, false, false, false, false, false, false, false, false], [false, false, false, false, false, false, false, false, false, false, false, false, false, false, false, false], [false, false, false, false, false, false, false, false, false, false, false, false, false, false, false, false], [false, false, false, false, false, false, false, false, false, false, false, false, false, false, false, false], [false, false, false, false, false, false, false, false, false, false, false, false, false, false, false, false], [false, false, false, false, false, false, false, false, false, false, false, false, false, false, false, false], [false]] (s' := ⟨[[.chan none, I64 box, I64 top, I64 (ap : Int), I64 (pp : Int), ptr 1 0, .chan none, .chan none, .chan none, .chan none, .chan none, .chan none, .chan none, .chan none, .chan none, .chan none],
      [.chan none, .chan none, .chan none, .chan none, .chan none, .chan none, .chan none, .chan none, .chan none, .chan none, .chan none, .chan none, .chan none, .chan none, .chan none, .chan none],
      [.chan none, .chan none, .chan none, .chan none, .chan none, .chan none, .chan none, .chan none, .chan none, .chan none, .chan none, .chan none, .chan none, .chan none, .chan none, .chan none],
      [.chan none, .chan none, .chan none, .chan none, .chan none, .chan none, .chan none, .chan none, .chan none, .chan none, .chan none, .chan none, .chan none, .chan none, .chan none, .chan none],
      [.chan none, .chan none, .chan none, .chan none, .chan none, .chan none, .chan none, .chan none, .chan none, .chan none, .chan none, .chan none, .chan none, .chan none, .chan none, .chan none],
      [.chan none, .chan none, .chan none, .chan none, .chan none, .chan none, .chan none, .chan none, .chan none, .chan none, .chan none, .chan none, .chan none, .chan none, .chan none, .chan none],
      [.chan none, .chan none, .chan none, .chan none, .chan none, .chan none, .chan none, .chan none, .chan none, .chan none, .chan none, .chan none, .chan none, .chan none, .chan none, .chan none],
      [.chan none, .chan none, .chan none, .chan none, .chan none, .chan none, .chan none, .chan none, .chan none, .chan none, .chan none, .chan none, .chan none, .chan none, .chan none, .chan none],
      [.chan none]], [.pending c0 t0, .cells #[I64 step, slc 0 off l.length cap] 42], []⟩) (by rw [hae, hpe]; rfl) ?_
      refine reg8 c0 t0 off cap l step box top ap pp hw hcap (by kernel_rfl) (by kernel_rfl) rfl ?_ ⟨Nat.le_refl 2, Nat.le_refl 2⟩ ?_ ?_
      · exact J9.mk (.chan none) (.chan none) (.chan none) (.chan none) (.chan none) (.chan none) 0 0 0 0 [] (fun h => absurd h Bool.false_ne_true) (fun h => absurd h Bool.false_ne_true) (fun h => absurd h Bool.false_ne_true) (fun h => absurd h Bool.false_ne_true) (fun h => absurd h Bool.false_ne_true) (fun h => absurd h Bool.false_ne_true) (fun h => absurd h Bool.false_ne_true) (fun h => absurd h Bool.false_ne_true) (fun h => absurd h Bool.false_ne_true) (fun h => absurd h Bool.false_ne_true) (fun h => absurd h Bool.false_ne_true) (fun h => absurd h Bool.false_ne_true) (fun h => absurd h Bool.false_ne_true) (fun h => absurd h Bool.false_ne_true) rfl
      · conv => whnf
        refine ⟨?_, ?_⟩
        · rintro S s ⟨x91, x92, x93, x94, x12, x13, q1, q3, q4, q5, news, f0, f2, f1, f3, f4, f5, g61, g73, n13, n14, n15, n34, n35, n45, cn⟩ hS hp
          conv => whnf
          exact J9.mk (S := fun j => S j || Nat.beq j 0) ((.agg #[I64 step, slc 0 off l.length cap])) x92 x93 x94 x12 x13 q1 q3 q4 q5 news (fun _ => rfl)
            (fun h => f2 (orF rfl h))
            (fun h => f1 (orF rfl h))
            (fun h => f3 (orF rfl h))
            (fun h => let z := f4 (orF rfl h); ⟨z.1, fun h2 => z.2.1 (orN rfl h2), fun h2 => z.2.2 (orF rfl h2)⟩)
            (fun h => let z := f5 (orF rfl h); ⟨z.1, fun h2 => z.2.1 (orN rfl h2), fun h2 => z.2.2 (orF rfl h2)⟩)
            (fun h => let z := g61 (orF rfl h); ⟨orL z.1, orL z.2⟩)
            (fun h => let z := g73 (orF rfl h); ⟨orL z.1, orL z.2⟩)
            (fun h h2 => n13 (orF rfl h) (orF rfl h2))
            (fun h h2 => n14 (orF rfl h) (orF rfl h2))
            (fun h h2 => n15 (orF rfl h) (orF rfl h2))
            (fun h h2 => n34 (orF rfl h) (orF rfl h2))
            (fun h h2 => n35 (orF rfl h) (orF rfl h2))
            (fun h h2 => n45 (orF rfl h) (orF rfl h2))
            (by rw [cn]; simp only [Nat.beq, Bool.or_false])
        conv => whnf
        refine ⟨?_, ?_⟩
        · rintro S s ⟨x91, x92, x93, x94, x12, x13, q1, q3, q4, q5, news, f0, f2, f1, f3, f4, f5, g61, g73, n13, n14, n15, n34, n35, n45, cn⟩ hS hp
          have z0 := f0 (hp 0 (by decide))
          subst z0
          conv => whnf
          refine ac_mono (OwnS_s G step (h := ((.pending c0 t0) :: (.cells #[I64 step, slc 0 off l.length cap] 42) :: news)) (m := news.length + 2) (l := l) rfl (.inr ⟨0, off, cap, c0, t0, rfl, .inl rfl, hw, hcap⟩) hl12) ?_
          rintro v h' ⟨c, cp, rfl, rfl, k1, k2, k3⟩
          conv => whnf
          exact J9.mk (S := fun j => S j || Nat.beq j 1) (.agg #[I64 step, slc 0 off l.length cap]) (.agg #[I64 step, slc (news.length + 2) 0 l.length cp]) x93 x94 x12 x13 news.length q3 q4 q5 (news ++ [.cells c 56]) (fun h => f0 (orF rfl h))
            (fun h => f2 (orF rfl h))
            (fun _ => ⟨c, cp, rfl, ⟨k1, k2, k3⟩, by simp⟩)
            (fun h => let ⟨c, cp, e1, e2, e3⟩ := f3 (orF rfl h); ⟨c, cp, e1, e2, getL e3⟩)
            (fun h => let z := f4 (orF rfl h); ⟨z.1, fun h2 => getL (z.2.1 (orN rfl h2)), fun h2 => (noT (g61 (orF rfl h2)).1 hS).elim⟩)
            (fun h => let z := f5 (orF rfl h); ⟨z.1, fun h2 => getL (z.2.1 (orN rfl h2)), fun h2 => let ⟨A, a1, a2⟩ := z.2.2 (orF rfl h2); ⟨A, a1, getL a2⟩⟩)
            (fun h => let z := g61 (orF rfl h); ⟨orL z.1, orL z.2⟩)
            (fun h => let z := g73 (orF rfl h); ⟨orL z.1, orL z.2⟩)
            (fun _ h2 he => absurd (let ⟨_, _, _, _, e⟩ := f3 (orF rfl h2); (List.getElem?_eq_some_iff.1 e).1) (by rw [← he]; exact Nat.lt_irrefl _))
            (fun _ h2 he => absurd (lt45 (f4 (orF rfl h2)).2) (by rw [← he]; exact Nat.lt_irrefl _))
            (fun _ h2 he => absurd (lt45 (f5 (orF rfl h2)).2) (by rw [← he]; exact Nat.lt_irrefl _))
            (fun h h2 => n34 (orF rfl h) (orF rfl h2))
            (fun h h2 => n35 (orF rfl h) (orF rfl h2))
            (fun h h2 => n45 (orF rfl h) (orF rfl h2))
            (by rw [List.length_append, cn]; have e : S 1 = false := hS; simp only [Nat.beq, Bool.or_false, Bool.or_true, e, Bool.toNat_true, Bool.toNat_false, List.length_singleton] <;> omega)
        conv => whnf
        refine ⟨?_, ?_⟩
        · rintro S s ⟨x91, x92, x93, x94, x12, x13, q1, q3, q4, q5, news, f0, f2, f1, f3, f4, f5, g61, g73, n13, n14, n15, n34, n35, n45, cn⟩ hS hp
          conv => whnf
          exact J9.mk (S := fun j => S j || Nat.beq j 2) x91 x92 ((.agg #[I64 step, slc 0 off l.length cap])) x94 x12 x13 q1 q3 q4 q5 news (fun h => f0 (orF rfl h))
            (fun _ => rfl)
            (fun h => f1 (orF rfl h))
            (fun h => f3 (orF rfl h))
            (fun h => let z := f4 (orF rfl h); ⟨z.1, fun h2 => z.2.1 (orN rfl h2), fun h2 => z.2.2 (orF rfl h2)⟩)
            (fun h => let z := f5 (orF rfl h); ⟨z.1, fun h2 => z.2.1 (orN rfl h2), fun h2 => z.2.2 (orF rfl h2)⟩)
            (fun h => let z := g61 (orF rfl h); ⟨orL z.1, orL z.2⟩)
            (fun h => let z := g73 (orF rfl h); ⟨orL z.1, orL z.2⟩)
            (fun h h2 => n13 (orF rfl h) (orF rfl h2))
            (fun h h2 => n14 (orF rfl h) (orF rfl h2))
            (fun h h2 => n15 (orF rfl h) (orF rfl h2))
            (fun h h2 => n34 (orF rfl h) (orF rfl h2))
            (fun h h2 => n35 (orF rfl h) (orF rfl h2))
            (fun h h2 => n45 (orF rfl h) (orF rfl h2))
            (by rw [cn]; simp only [Nat.beq, Bool.or_false])
        conv => whnf
        refine ⟨?_, ?_⟩
        · rintro S s ⟨x91, x92, x93, x94, x12, x13, q1, q3, q4, q5, news, f0, f2, f1, f3, f4, f5, g61, g73, n13, n14, n15, n34, n35, n45, cn⟩ hS hp
          have z2 := f2 (hp 2 (by decide))
          subst z2
          conv => whnf
          refine ac_mono (OwnS_s G step (h := ((.pending c0 t0) :: (.cells #[I64 step, slc 0 off l.length cap] 42) :: news)) (m := news.length + 2) (l := l) rfl (.inr ⟨0, off, cap, c0, t0, rfl, .inl rfl, hw, hcap⟩) hl12) ?_
          rintro v h' ⟨c, cp, rfl, rfl, k1, k2, k3⟩
          conv => whnf
          exact J9.mk (S := fun j => S j || Nat.beq j 3) x91 x92 (.agg #[I64 step, slc 0 off l.length cap]) (.agg #[I64 step, slc (news.length + 2) 0 l.length cp]) x12 x13 q1 news.length q4 q5 (news ++ [.cells c 56]) (fun h => f0 (orF rfl h))
            (fun h => f2 (orF rfl h))
            (fun h => let ⟨c, cp, e1, e2, e3⟩ := f1 (orF rfl h); ⟨c, cp, e1, e2, getL e3⟩)
            (fun _ => ⟨c, cp, rfl, ⟨k1, k2, k3⟩, by simp⟩)
            (fun h => let z := f4 (orF rfl h); ⟨z.1, fun h2 => getL (z.2.1 (orN rfl h2)), fun h2 => let ⟨A, a1, a2⟩ := z.2.2 (orF rfl h2); ⟨A, a1, getL a2⟩⟩)
            (fun h => let z := f5 (orF rfl h); ⟨z.1, fun h2 => getL (z.2.1 (orN rfl h2)), fun h2 => (noT (g73 (orF rfl h2)).1 hS).elim⟩)
            (fun h => let z := g61 (orF rfl h); ⟨orL z.1, orL z.2⟩)
            (fun h => let z := g73 (orF rfl h); ⟨orL z.1, orL z.2⟩)
            (fun h _ he => absurd (let ⟨_, _, _, _, e⟩ := f1 (orF rfl h); (List.getElem?_eq_some_iff.1 e).1) (by rw [he]; exact Nat.lt_irrefl _))
            (fun h h2 => n14 (orF rfl h) (orF rfl h2))
            (fun h h2 => n15 (orF rfl h) (orF rfl h2))
            (fun _ h2 he => absurd (lt45 (f4 (orF rfl h2)).2) (by rw [← he]; exact Nat.lt_irrefl _))
            (fun _ h2 he => absurd (lt45 (f5 (orF rfl h2)).2) (by rw [← he]; exact Nat.lt_irrefl _))
            (fun h h2 => n45 (orF rfl h) (orF rfl h2))
            (by rw [List.length_append, cn]; have e : S 3 = false := hS; simp only [Nat.beq, Bool.or_false, Bool.or_true, e, Bool.toNat_true, Bool.toNat_false, List.length_singleton] <;> omega)
        conv => whnf
        refine ⟨?_, ?_⟩
        · rintro S s ⟨x91, x92, x93, x94, x12, x13, q1, q3, q4, q5, news, f0, f2, f1, f3, f4, f5, g61, g73, n13, n14, n15, n34, n35, n45, cn⟩ hS hp
          conv => whnf
          refine cnt_of ?_
          conv => whnf
          refine app_of ?_
          conv => whnf
          exact J9.mk (S := fun j => S j || Nat.beq j 4) x91 x92 x93 x94 (ptr (news.length + 2) 0) x13 q1 q3 news.length q5 (news ++ [.cells #[I64 0, .slice none 0 0] 42]) (fun h => f0 (orF rfl h))
            (fun h => f2 (orF rfl h))
            (fun h => let ⟨c, cp, e1, e2, e3⟩ := f1 (orF rfl h); ⟨c, cp, e1, e2, getL e3⟩)
            (fun h => let ⟨c, cp, e1, e2, e3⟩ := f3 (orF rfl h); ⟨c, cp, e1, e2, getL e3⟩)
            (fun _ => ⟨rfl, fun _ => by simp, fun h2 => (noT (g61 (orF rfl h2)).2 hS).elim⟩)
            (fun h => let z := f5 (orF rfl h); ⟨z.1, fun h2 => getL (z.2.1 (orN rfl h2)), fun h2 => let ⟨A, a1, a2⟩ := z.2.2 (orF rfl h2); ⟨A, a1, getL a2⟩⟩)
            (fun h => let z := g61 (orF rfl h); ⟨orL z.1, orL z.2⟩)
            (fun h => let z := g73 (orF rfl h); ⟨orL z.1, orL z.2⟩)
            (fun h h2 => n13 (orF rfl h) (orF rfl h2))
            (fun h _ he => absurd (let ⟨_, _, _, _, e⟩ := f1 (orF rfl h); (List.getElem?_eq_some_iff.1 e).1) (by rw [he]; exact Nat.lt_irrefl _))
            (fun h h2 => n15 (orF rfl h) (orF rfl h2))
            (fun h _ he => absurd (let ⟨_, _, _, _, e⟩ := f3 (orF rfl h); (List.getElem?_eq_some_iff.1 e).1) (by rw [he]; exact Nat.lt_irrefl _))
            (fun h h2 => n35 (orF rfl h) (orF rfl h2))
            (fun _ h2 he => absurd (lt45 (f5 (orF rfl h2)).2) (by rw [← he]; exact Nat.lt_irrefl _))
            (by rw [List.length_append, cn]; have e : S 4 = false := hS; simp only [Nat.beq, Bool.or_false, Bool.or_true, e, Bool.toNat_true, Bool.toNat_false, List.length_singleton] <;> omega)
        conv => whnf
        refine ⟨?_, ?_⟩
        · rintro S s ⟨x91, x92, x93, x94, x12, x13, q1, q3, q4, q5, news, f0, f2, f1, f3, f4, f5, g61, g73, n13, n14, n15, n34, n35, n45, cn⟩ hS hp
          conv => whnf
          refine cnt_of ?_
          conv => whnf
          refine app_of ?_
          conv => whnf
          exact J9.mk (S := fun j => S j || Nat.beq j 5) x91 x92 x93 x94 x12 (ptr (news.length + 2) 0) q1 q3 q4 news.length (news ++ [.cells #[I64 0, .slice none 0 0] 42]) (fun h => f0 (orF rfl h))
            (fun h => f2 (orF rfl h))
            (fun h => let ⟨c, cp, e1, e2, e3⟩ := f1 (orF rfl h); ⟨c, cp, e1, e2, getL e3⟩)
            (fun h => let ⟨c, cp, e1, e2, e3⟩ := f3 (orF rfl h); ⟨c, cp, e1, e2, getL e3⟩)
            (fun h => let z := f4 (orF rfl h); ⟨z.1, fun h2 => getL (z.2.1 (orN rfl h2)), fun h2 => let ⟨A, a1, a2⟩ := z.2.2 (orF rfl h2); ⟨A, a1, getL a2⟩⟩)
            (fun _ => ⟨rfl, fun _ => by simp, fun h2 => (noT (g73 (orF rfl h2)).2 hS).elim⟩)
            (fun h => let z := g61 (orF rfl h); ⟨orL z.1, orL z.2⟩)
            (fun h => let z := g73 (orF rfl h); ⟨orL z.1, orL z.2⟩)
            (fun h h2 => n13 (orF rfl h) (orF rfl h2))
            (fun h h2 => n14 (orF rfl h) (orF rfl h2))
            (fun h _ he => absurd (let ⟨_, _, _, _, e⟩ := f1 (orF rfl h); (List.getElem?_eq_some_iff.1 e).1) (by rw [he]; exact Nat.lt_irrefl _))
            (fun h h2 => n34 (orF rfl h) (orF rfl h2))
            (fun h _ he => absurd (let ⟨_, _, _, _, e⟩ := f3 (orF rfl h); (List.getElem?_eq_some_iff.1 e).1) (by rw [he]; exact Nat.lt_irrefl _))
            (fun h _ he => absurd (lt45 (f4 (orF rfl h)).2) (by rw [he]; exact Nat.lt_irrefl _))
            (by rw [List.length_append, cn]; have e : S 5 = false := hS; simp only [Nat.beq, Bool.or_false, Bool.or_true, e, Bool.toNat_true, Bool.toNat_false, List.length_singleton] <;> omega)
        conv => whnf
        refine ⟨?_, ?_⟩
        · rintro S s ⟨x91, x92, x93, x94, x12, x13, q1, q3, q4, q5, news, f0, f2, f1, f3, f4, f5, g61, g73, n13, n14, n15, n34, n35, n45, cn⟩ hS hp
          obtain ⟨c, cp, zo, e2, e3⟩ := f1 (hp 1 (by decide))
          subst zo
          obtain ⟨zx, hm0, _⟩ := f4 (hp 4 (by decide))
          subst zx
          have hm := hm0 hS
          have hlt : q4 < news.length := (List.getElem?_eq_some_iff.1 hm).1
          conv => whnf
          refine nthK_of hm ?_
          conv => whnf
          refine set_of hlt ?_
          conv => whnf
          exact J9.mk (S := fun j => S j || Nat.beq j 6) x91 (.agg #[I64 step, slc (q1 + 2) 0 l.length cp]) x93 x94 (ptr (q4 + 2) 0) x13 q1 q3 q4 q5 (news.set q4 (.cells #[I64 step, slc (q1 + 2) 0 l.length cp] 42)) (fun h => f0 (orF rfl h))
            (fun h => f2 (orF rfl h))
            (fun _ => ⟨c, cp, rfl, e2, by rw [List.getElem?_set_ne (fun e => n14 (hp 1 (by decide)) (hp 4 (by decide)) e.symm)]; exact e3⟩)
            (fun h => let ⟨c, cp, e1, e2, e3⟩ := f3 (orF rfl h); ⟨c, cp, e1, e2, by rw [List.getElem?_set_ne (fun e => n34 (orF rfl h) (hp 4 (by decide)) e.symm)]; exact e3⟩)
            (fun _ => ⟨rfl, fun h2 => (noT (Bool.or_true _) h2).elim, fun _ => ⟨_, rfl, List.getElem?_set_self hlt⟩⟩)
            (fun h => let z := f5 (orF rfl h); ⟨z.1, fun h2 => by rw [List.getElem?_set_ne (n45 (hp 4 (by decide)) (orF rfl h))]; exact z.2.1 (orN rfl h2), fun h2 => let ⟨A, a1, a2⟩ := z.2.2 (orF rfl h2); ⟨A, a1, by rw [List.getElem?_set_ne (n45 (hp 4 (by decide)) (orF rfl h))]; exact a2⟩⟩)
            (fun _ => ⟨orL (hp 1 (by decide)), orL (hp 4 (by decide))⟩)
            (fun h => let z := g73 (orF rfl h); ⟨orL z.1, orL z.2⟩)
            (fun h h2 => n13 (orF rfl h) (orF rfl h2))
            (fun h h2 => n14 (orF rfl h) (orF rfl h2))
            (fun h h2 => n15 (orF rfl h) (orF rfl h2))
            (fun h h2 => n34 (orF rfl h) (orF rfl h2))
            (fun h h2 => n35 (orF rfl h) (orF rfl h2))
            (fun h h2 => n45 (orF rfl h) (orF rfl h2))
            (by rw [List.length_set, cn]; simp only [Nat.beq, Bool.or_false])
        conv => whnf
        refine ⟨?_, ?_⟩
        · rintro S s ⟨x91, x92, x93, x94, x12, x13, q1, q3, q4, q5, news, f0, f2, f1, f3, f4, f5, g61, g73, n13, n14, n15, n34, n35, n45, cn⟩ hS hp
          obtain ⟨c, cp, zo, e2, e3⟩ := f3 (hp 3 (by decide))
          subst zo
          obtain ⟨zx, hm0, _⟩ := f5 (hp 5 (by decide))
          subst zx
          have hm := hm0 hS
          have hlt : q5 < news.length := (List.getElem?_eq_some_iff.1 hm).1
          conv => whnf
          refine nthK_of hm ?_
          conv => whnf
          refine set_of hlt ?_
          conv => whnf
          exact J9.mk (S := fun j => S j || Nat.beq j 7) x91 x92 x93 (.agg #[I64 step, slc (q3 + 2) 0 l.length cp]) x12 (ptr (q5 + 2) 0) q1 q3 q4 q5 (news.set q5 (.cells #[I64 step, slc (q3 + 2) 0 l.length cp] 42)) (fun h => f0 (orF rfl h))
            (fun h => f2 (orF rfl h))
            (fun h => let ⟨c, cp, e1, e2, e3⟩ := f1 (orF rfl h); ⟨c, cp, e1, e2, by rw [List.getElem?_set_ne (fun e => n15 (orF rfl h) (hp 5 (by decide)) e.symm)]; exact e3⟩)
            (fun _ => ⟨c, cp, rfl, e2, by rw [List.getElem?_set_ne (fun e => n35 (hp 3 (by decide)) (hp 5 (by decide)) e.symm)]; exact e3⟩)
            (fun h => let z := f4 (orF rfl h); ⟨z.1, fun h2 => by rw [List.getElem?_set_ne (fun e => n45 (orF rfl h) (hp 5 (by decide)) e.symm)]; exact z.2.1 (orN rfl h2), fun h2 => let ⟨A, a1, a2⟩ := z.2.2 (orF rfl h2); ⟨A, a1, by rw [List.getElem?_set_ne (fun e => n45 (orF rfl h) (hp 5 (by decide)) e.symm)]; exact a2⟩⟩)
            (fun _ => ⟨rfl, fun h2 => (noT (Bool.or_true _) h2).elim, fun _ => ⟨_, rfl, List.getElem?_set_self hlt⟩⟩)
            (fun h => let z := g61 (orF rfl h); ⟨orL z.1, orL z.2⟩)
            (fun _ => ⟨orL (hp 3 (by decide)), orL (hp 5 (by decide))⟩)
            (fun h h2 => n13 (orF rfl h) (orF rfl h2))
            (fun h h2 => n14 (orF rfl h) (orF rfl h2))
            (fun h h2 => n15 (orF rfl h) (orF rfl h2))
            (fun h h2 => n34 (orF rfl h) (orF rfl h2))
            (fun h h2 => n35 (orF rfl h) (orF rfl h2))
            (fun h h2 => n45 (orF rfl h) (orF rfl h2))
            (by rw [List.length_set, cn]; simp only [Nat.beq, Bool.or_false])
        conv => whnf
        trivial
      intro ca cc cp cp2 w1 w2 w3 u1 u2 u3
      conv => whnf
      refine exk hap fun x hx => ?_
      refine way1 (by rw [decide_eq_true_iff]; omega) ?_
      conv => whnf
      refine way1 (by rw [decide_eq_true_iff]; omega) ?_
      conv => whnf
      refine write_part (c := ca) (l := l) (i := ap) (q := pp) (b := x) (b' := setX x pp (wrapS .i64 (wrapS .i64 (0 - box) - 1))) w2 hx (by omega) rfl (setX_in x hpp _) (fun j hj hne => setX_out x hpp _ j hj hne) (by show 0 + ((ap : Int)).toNat * 6 + ((pp : Int)).toNat * 1 = _; omega) ?_
      intro ca' hcl1 hwa
      conv => whnf
      refine way1 (by rw [decide_eq_true_iff]; omega) ?_
      conv => whnf
      refine way1 (by rw [decide_eq_true_iff]; omega) ?_
      conv => whnf
      refine write_part (c := cc) (l := l) (i := ap) (q := 3 + pp) (b := x) (b' := setV x pp (wrapS .i64 (top + 1))) u2 hx (by omega) rfl (setV_in x hpp _) (fun j hj hne => setV_out x hpp _ j hj hne) (by show 0 + ((ap : Int)).toNat * 6 + 3 + ((pp : Int)).toNat * 1 = _; omega) ?_
      intro cc' hcl2 hwc
      conv => whnf
      refine ac_mono (WithinS_s G step (l := l.set ap (setX x pp (wrapS .i64 (wrapS .i64 (0 - box) - 1)))) (.inr ⟨2, 0, cp, ca', 56, by rw [List.length_set], .inr ⟨hcl1 w1, (0, 0), rfl⟩, hwa, by rw [List.length_set]; exact w3⟩) (by rw [List.length_set]; exact hl12) box top) ?_
      rintro v h' ⟨rfl, rfl⟩
      rw [any_set hap (bad_setX b0 b1 t0' t1' x hpp)]
      conv => whnf
      refine ac_mono (WithinS_s G step (l := l.set ap (setV x pp (wrapS .i64 (top + 1)))) (.inr ⟨3, 0, cp2, cc', 56, by rw [List.length_set], .inr ⟨hcl2 u1, (0, 0), rfl⟩, hwc, by rw [List.length_set]; exact u3⟩) (by rw [List.length_set]; exact hl12) box top) ?_
      rintro v h' ⟨rfl, rfl⟩
      rw [any_set hap (bad_setV b0 b1 t0' t1' x hpp)]
      conv => whnf
      refine ac_pure (wakes_c G) rfl ?_
      rintro v h' ⟨rfl, rfl⟩
      refine ⟨rfl, rfl, ?_⟩
      conv => whnf
      refine ⟨rfl, fin_turnedK rfl ?_⟩
      conv => whnf
      exact ⟨rfl, rfl⟩

end Go.Proofs.Ytjpjnjidchdlbaa
