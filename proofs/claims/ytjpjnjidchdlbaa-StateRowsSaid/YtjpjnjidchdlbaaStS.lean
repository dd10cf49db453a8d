/-
  StateRows: what the law computes (no condition).
-/
import Derived.Test.YtjpjnjidchdlbaaStR
namespace Go.Proofs.Ytjpjnjidchdlbaa
set_option linter.unusedSimpArgs false
set_option linter.unusedVariables false
open Go
set_option maxRecDepth 100000
set_option maxHeartbeats 4000000
theorem zC_of {h : List Obj} {m : Nat} : SlB h (.slice none 0 0) [] := .inl ⟨rfl, rfl⟩
theorem rowIs_win {h : List Obj} {m cp : Nat} {c : Array Value} {l : List Int} (hb : h[m]? = some (.cells c 3)) (hw : WinI c 0 l) : RowIs h 1 (slc m 0 l.length cp) l.length (l.map I64) := by
  refine .row hb ?_ (by simp) (cI_clean l)
  show ∀ (j : Nat) (x : Value), (l.map I64)[j]? = some x → c[0 + j]? = some x
  intro j x hj
  rw [List.getElem?_map] at hj
  cases hl : l[j]? with
  | none => rw [hl] at hj; cases hj
  | some y =>
    rw [hl] at hj
    cases hj
    exact hw j y hl
theorem Rows7_nn (G) (step : Int) : AC Try.prog G 7 [.agg #[I64 step, .slice none 0 0], .slice none 0 0] [] (fun v h => v = .bool true ∧ h = []) := by
  refine ac_of_body tabOk has7 ?_
  unfold BodyOk
  conv => whnf
  refine ac_mono (Row24_no G step (l := []) (.inl ⟨rfl, rfl⟩) (by decide) (okState_nil step)) ?_
  rintro v h' ⟨rfl, rfl⟩
  conv => whnf
  refine ac_mono (RRight_s G step (l := []) (.inl ⟨rfl, rfl⟩) (by decide)) ?_
  rintro v h' ⟨rfl, rfl⟩
  rw [okState_nil]
  conv => whnf
  refine ac_mono (Of26_s G (m := 1) rfl (l := []) (.inl ⟨rfl, rfl⟩) (by decide)) ?_
  rintro v h' (⟨_, rfl, rfl⟩ | ⟨q1, _⟩)
  rotate_left
  · exact absurd q1 (by decide)
  conv => whnf
  refine ac_mono (Row24_no G 0 (l := []) (.inl ⟨rfl, rfl⟩) (by decide) (okState_nil 0)) ?_
  rintro v h' ⟨rfl, rfl⟩
  conv => whnf
  refine ac_pure (wakes_c G) rfl ?_
  rintro v h' ⟨rfl, rfl⟩
  refine ⟨rfl, rfl, ?_⟩
  conv => whnf
  refine ⟨rfl, fin_turnedK rfl ?_⟩
  conv => whnf
  exact ⟨rfl, rfl⟩
theorem Rows7_nr (G) (step : Int) (c1 : Array Value) (t1 : TypeId) (off1 cap1 : Nat) (li : List Int) (hw1 : WinI c1 off1 li) (hcap1 : li.length ≤ cap1) : AC Try.prog G 7 [.agg #[I64 step, .slice none 0 0], slc 0 off1 li.length cap1] [.pending c1 t1] (fun v h => v = .bool true ∧ h = [.pending c1 t1]) := by
  refine ac_of_body tabOk has7 ?_
  unfold BodyOk
  conv => whnf
  refine ways (fun h0 => ?_) (fun h0 => ?_) <;> conv => whnf
  · refine ac_pure (wakes_c G) rfl ?_
    rintro v h' ⟨rfl, rfl⟩
    refine ⟨rfl, rfl, ?_⟩
    conv => whnf
    refine ⟨rfl, fin_turnedK rfl ?_⟩
    conv => whnf
    exact ⟨rfl, rfl⟩
  have hli : li.length ≤ 1000000000000 := by have := of_decide_eq_false h0; omega
  refine ac_mono (Row24_no G step (l := []) (.inl ⟨rfl, rfl⟩) (by decide) (okState_nil step)) ?_
  rintro v h' ⟨rfl, rfl⟩
  conv => whnf
  refine ac_mono (RRight_s G step (l := []) (.inl ⟨rfl, rfl⟩) (by decide)) ?_
  rintro v h' ⟨rfl, rfl⟩
  rw [okState_nil]
  conv => whnf
  refine ac_mono (Of26_s G (m := 2) rfl (l := li) (.inr ⟨0, off1, cap1, c1, t1, rfl, .inl rfl, hw1, hcap1⟩) hli) ?_
  rintro v h' (⟨q1, rfl, rfl⟩ | ⟨q1, co, cpo, rfl, rfl, w1, w2, w3⟩)
  · conv => whnf
    refine ac_mono (Row24_no G 0 (l := []) (.inl ⟨rfl, rfl⟩) (by decide) (okState_nil 0)) ?_
    rintro v h' ⟨rfl, rfl⟩
    conv => whnf
    refine ac_pure (wakes_c G) rfl ?_
    rintro v h' ⟨rfl, rfl⟩
    refine ⟨rfl, rfl, ?_⟩
    conv => whnf
    refine ⟨rfl, fin_turnedK rfl ?_⟩
    conv => whnf
    exact ⟨rfl, rfl⟩
  · have hst := ofOk_state q1
    have hl4 := len4 hst
    conv => whnf

    refine ac_mono (Row24_ok G (li.getD 0 0) (m := 4) rfl (l := bdsOf li) (.inr ⟨2, 0, cpo, co, 56, rfl, .inr ⟨w1, (0, 0), rfl⟩, w2, w3⟩) (by omega) hst) ?_
    rintro v h' ⟨cr, cpr, rfl, rfl, y1, y2, y3⟩
    conv => whnf
    refine ac_mono (ints_s G (l := rowOf (li.getD 0 0) (bdsOf li)) (l1 := li) ⟨4, 0, cpr, cr, 3, rfl, .inr ⟨y1, (0, 0), rfl⟩, y2⟩ ⟨0, off1, cap1, c1, t1, rfl, .inl rfl, hw1⟩ (by rw [row_of q1]; exact hli)) ?_
    rintro v h' ⟨b, rfl, hb, rfl⟩
    have hbt : b = true := hb.2 (row_of q1)
    subst hbt
    conv => whnf
    refine ac_pure (wakes_c G) rfl ?_
    rintro v h' ⟨rfl, rfl⟩
    refine ⟨rfl, rfl, ?_⟩
    conv => whnf
    refine ⟨rfl, fin_turnedK rfl ?_⟩
    conv => whnf
    exact ⟨rfl, rfl⟩
theorem Rows7_rn (G) (step : Int) (c0 : Array Value) (t0 : TypeId) (off cap : Nat) (l : List Bd) (hw : WinB c0 off l) (hcap : l.length ≤ cap) : AC Try.prog G 7 [.agg #[I64 step, slc 0 off l.length cap], .slice none 0 0] [.pending c0 t0] (fun v h => v = .bool true ∧ h = [.pending c0 t0]) := by
  refine ac_of_body tabOk has7 ?_
  unfold BodyOk
  conv => whnf
  refine ways (fun h1 => ?_) (fun h1 => ?_) <;> conv => whnf
  · refine ac_pure (wakes_c G) rfl ?_
    rintro v h' ⟨rfl, rfl⟩
    refine ⟨rfl, rfl, ?_⟩
    conv => whnf
    refine ⟨rfl, fin_turnedK rfl ?_⟩
    conv => whnf
    exact ⟨rfl, rfl⟩
  have hl9 : l.length ≤ 9 := by have := of_decide_eq_false h1; omega
  have hl12 : l.length ≤ 1000000000000 := by omega
  cases hno : okState step l
  · refine ac_mono (Row24_no G step (l := l) (.inr ⟨0, off, cap, c0, t0, rfl, .inl rfl, hw, hcap⟩) hl12 hno) ?_
    rintro v h' ⟨rfl, rfl⟩
    conv => whnf
    refine ac_mono (RRight_s G step (l := l) (.inr ⟨0, off, cap, c0, t0, rfl, .inl rfl, hw, hcap⟩) hl12) ?_
    rintro v h' ⟨rfl, rfl⟩
    rw [hno]
    conv => whnf
    refine ac_mono (Of26_s G (m := 2) rfl (l := []) (.inl ⟨rfl, rfl⟩) (by decide)) ?_
    rintro v h' (⟨_, rfl, rfl⟩ | ⟨q1, _⟩)
    rotate_left
    · exact absurd q1 (by decide)
    conv => whnf
    refine ac_mono (Row24_no G 0 (l := []) (.inl ⟨rfl, rfl⟩) (by decide) (okState_nil 0)) ?_
    rintro v h' ⟨rfl, rfl⟩
    conv => whnf
    refine ac_pure (wakes_c G) rfl ?_
    rintro v h' ⟨rfl, rfl⟩
    refine ⟨rfl, rfl, ?_⟩
    conv => whnf
    refine ⟨rfl, fin_turnedK rfl ?_⟩
    conv => whnf
    exact ⟨rfl, rfl⟩
  have h4 := len4 hno
  have hrl : (rowOf step l).length = 2 + 6 * l.length := rowN_len _ _ _
  refine ac_mono (Row24_ok G step (m := 2) rfl (l := l) (.inr ⟨0, off, cap, c0, t0, rfl, .inl rfl, hw, hcap⟩) hl12 hno) ?_
  rintro v h' ⟨cr, cpr, rfl, rfl, y1, y2, y3⟩
  conv => whnf
  refine ac_mono (RRight_s G step (l := l) (.inr ⟨0, off, cap, c0, t0, rfl, .inl rfl, hw, hcap⟩) hl12) ?_
  rintro v h' ⟨rfl, rfl⟩
  rw [hno]
  conv => whnf
  refine ac_mono (Of26_s G (m := 3) rfl (l := rowOf step l) (.inr ⟨2, 0, cpr, cr, 3, rfl, .inr ⟨y1, (0, 0), rfl⟩, y2, y3⟩) (by omega)) ?_
  rintro v h' (⟨q1, _⟩ | ⟨_, co, cpo, rfl, rfl, w1, w2, w3⟩)
  · rw [ofOk_row hno] at q1; cases q1
  conv => whnf
  refine ac_mono (RSame_s G ((rowOf step l).getD 0 0) step (l := bdsOf (rowOf step l)) (l1 := l) ⟨3, 0, cpo, co, 56, rfl, .inr ⟨w1, (0, 0), rfl⟩, w2, w3⟩ ⟨0, off, cap, c0, t0, rfl, .inl rfl, hw, hcap⟩ (by rw [bdsOf_row]; exact hl12)) ?_
  rintro v h' ⟨b, rfl, hb, rfl⟩
  have hbt : b = true := hb.2 ⟨rfl, bdsOf_row step l⟩
  subst hbt
  conv => whnf
  refine way0 (by rw [hrl, wrapI (n := 6 * (l.length : Int)) (by omega) (by omega), wrapI (by omega) (by omega)]; simp) ?_
  conv => whnf
  have hsub : wrapS .i64 (((rowOf step l).length : Int) - 1) = (((rowOf step l).length - 1 : Nat) : Int) := by rw [wrapI (by omega) (by omega)]; omega
  refine way1 (by rw [hsub, decide_eq_true_iff]; omega) ?_
  conv => whnf
  have htk : ((rowOf step l).take ((rowOf step l).length - 1)).length = (rowOf step l).length - 1 := by simp
  refine ac_args (args' := [slc 2 0 ((rowOf step l).take ((rowOf step l).length - 1)).length cpr]) (by rw [hsub, htk, sliceAddrZ]; simp) ?_
  refine ac_mono (Of26_s G (m := 5) rfl (l := (rowOf step l).take ((rowOf step l).length - 1)) (.inr ⟨2, 0, cpr, cr, 3, rfl, .inr ⟨y1, (0, 0), rfl⟩, winI_take y2 _, by omega⟩) (by omega)) ?_
  rintro v h' (⟨_, rfl, rfl⟩ | ⟨q1, _⟩)
  rotate_left
  · rw [not_mod (by omega)] at q1; cases q1
  conv => whnf
  refine ao_grow (lx := 0) (cx := 0) (ly := (rowOf step l).length) (olds := []) (news := (rowOf step l).map I64) (px := some ⟨6, 0, some 0⟩) (vx := slc 6 0 0 0) (vy := slc 2 0 (rowOf step l).length cpr) (i := ti43) (j := ti3) (e := 3) tabOk rfl (by (conv => whnf) <;> rfl) (by (conv => whnf) <;> rfl) rfl rfl rfl rfl rfl rfl
    (.row (ob := .cells ⟨[]⟩ 3) rfl (fun j x hj => by simp at hj) rfl (by simp)) (rowIs_win rfl y2) (by omega) (by show (0 + (rowOf step l).length) * 8 ≤ _; omega) (by omega) ?_
  intro cp8 hcp8
  conv => whnf
  have hA : AccI [Obj.cells ⟨[] ++ (rowOf step l).map I64 ++ (Builtin.zeroCells ti3.zero.cells (cp8 - (0 + (rowOf step l).length))).toList⟩ 3] 0 cp8 (rowOf step l) :=
    ⟨by omega, (Builtin.zeroCells ti3.zero.cells (cp8 - (0 + (rowOf step l).length))).toList, rfl, by rw [zeros_len, show ti3.zero.cells.size = 1 from rfl]; omega, zeros_cleanB ti3.zero.cells rfl _⟩
  refine ao_pushI (m := 7) rfl [_, _, _, _, _, _, _] rfl hA (xv := 0) rfl (by (conv => whnf); exact congrArg (fun k => slc 7 0 k cp8) (Nat.zero_add _)) (by (conv => whnf) <;> rfl) (by omega) ?_
  intro tl q' cp' hA' _
  conv => whnf
  obtain ⟨_, rst, hq', hr'⟩ := hA'
  refine ac_mono (Of26_s G (m := tl.length + 7) rfl (l := rowOf step l ++ [0]) (.inr ⟨q' + 7, 0, cp', _, 3, rfl, .inr ⟨rowI_clean hr', (0, 0), hq'⟩, winI_own, by have := hr'.1; omega⟩) (by simp; omega)) ?_
  rintro v h' (⟨_, rfl, rfl⟩ | ⟨q1, _⟩)
  rotate_left
  · rw [not_mod (by simp; omega)] at q1; cases q1
  conv => whnf
  refine cnt_of ?_
  conv => whnf
  refine app_of ?_
  conv => whnf
  refine nthK_of (get_last _ _) ?_
  conv => whnf
  refine set_ofL ?_
  conv => whnf
  refine ac_mono (Of26_s G (m := (tl.length + 1 + 7)) (by simp) (l := []) (.inl ⟨rfl, rfl⟩) (by decide)) ?_
  rintro v h' (⟨_, rfl, rfl⟩ | ⟨q1, _⟩)
  rotate_left
  · exact absurd q1 (by decide)
  conv => whnf
  refine cnt_of ?_
  conv => whnf
  refine app_of ?_
  conv => whnf
  refine nthK_of (get_last _ _) ?_
  conv => whnf
  refine set_ofL ?_
  conv => whnf
  refine nthK_of (get_last _ _) ?_
  conv => whnf
  refine ac_mono (Row24_no G 0 (l := []) (.inl ⟨rfl, rfl⟩) (by decide) (okState_nil 0)) ?_
  rintro v h' ⟨rfl, rfl⟩
  conv => whnf
  refine nthK_of (get_last _ _) ?_
  conv => whnf
  refine ac_pure (wakes_c G) rfl ?_
  rintro v h' ⟨rfl, rfl⟩
  refine ⟨rfl, rfl, ?_⟩
  conv => whnf
  refine ⟨rfl, fin_turnedK rfl ?_⟩
  conv => whnf
  exact ⟨rfl, rfl⟩
theorem Rows7_rr (G) (step : Int) (c0 : Array Value) (t0 : TypeId) (off cap : Nat) (l : List Bd) (hw : WinB c0 off l) (hcap : l.length ≤ cap) (c1 : Array Value) (t1 : TypeId) (off1 cap1 : Nat) (li : List Int) (hw1 : WinI c1 off1 li) (hcap1 : li.length ≤ cap1) : AC Try.prog G 7 [.agg #[I64 step, slc 0 off l.length cap], slc 1 off1 li.length cap1] [.pending c0 t0, .pending c1 t1] (fun v h => v = .bool true ∧ h = [.pending c0 t0, .pending c1 t1]) := by
  refine ac_of_body tabOk has7 ?_
  unfold BodyOk
  conv => whnf
  refine ways (fun h1 => ?_) (fun h1 => ?_) <;> conv => whnf
  · refine ac_pure (wakes_c G) rfl ?_
    rintro v h' ⟨rfl, rfl⟩
    refine ⟨rfl, rfl, ?_⟩
    conv => whnf
    refine ⟨rfl, fin_turnedK rfl ?_⟩
    conv => whnf
    exact ⟨rfl, rfl⟩
  have hl9 : l.length ≤ 9 := by have := of_decide_eq_false h1; omega
  have hl12 : l.length ≤ 1000000000000 := by omega
  refine ways (fun h0 => ?_) (fun h0 => ?_) <;> conv => whnf
  · refine ac_pure (wakes_c G) rfl ?_
    rintro v h' ⟨rfl, rfl⟩
    refine ⟨rfl, rfl, ?_⟩
    conv => whnf
    refine ⟨rfl, fin_turnedK rfl ?_⟩
    conv => whnf
    exact ⟨rfl, rfl⟩
  have hli : li.length ≤ 1000000000000 := by have := of_decide_eq_false h0; omega
  cases hno : okState step l
  · refine ac_mono (Row24_no G step (l := l) (.inr ⟨0, off, cap, c0, t0, rfl, .inl rfl, hw, hcap⟩) hl12 hno) ?_
    rintro v h' ⟨rfl, rfl⟩
    conv => whnf
    refine ac_mono (RRight_s G step (l := l) (.inr ⟨0, off, cap, c0, t0, rfl, .inl rfl, hw, hcap⟩) hl12) ?_
    rintro v h' ⟨rfl, rfl⟩
    rw [hno]
    conv => whnf
    refine ac_mono (Of26_s G (m := 3) rfl (l := li) (.inr ⟨1, off1, cap1, c1, t1, rfl, .inl rfl, hw1, hcap1⟩) hli) ?_
    rintro v h' (⟨q1, rfl, rfl⟩ | ⟨q1, co, cpo, rfl, rfl, w1, w2, w3⟩)
    · conv => whnf
      refine ac_mono (Row24_no G 0 (l := []) (.inl ⟨rfl, rfl⟩) (by decide) (okState_nil 0)) ?_
      rintro v h' ⟨rfl, rfl⟩
      conv => whnf
      refine ac_pure (wakes_c G) rfl ?_
      rintro v h' ⟨rfl, rfl⟩
      refine ⟨rfl, rfl, ?_⟩
      conv => whnf
      refine ⟨rfl, fin_turnedK rfl ?_⟩
      conv => whnf
      exact ⟨rfl, rfl⟩
    · have hst := ofOk_state q1
      have hl4 := len4 hst
      conv => whnf
    
      refine ac_mono (Row24_ok G (li.getD 0 0) (m := 5) rfl (l := bdsOf li) (.inr ⟨3, 0, cpo, co, 56, rfl, .inr ⟨w1, (0, 0), rfl⟩, w2, w3⟩) (by omega) hst) ?_
      rintro v h' ⟨cr, cpr, rfl, rfl, y1, y2, y3⟩
      conv => whnf
      refine ac_mono (ints_s G (l := rowOf (li.getD 0 0) (bdsOf li)) (l1 := li) ⟨5, 0, cpr, cr, 3, rfl, .inr ⟨y1, (0, 0), rfl⟩, y2⟩ ⟨1, off1, cap1, c1, t1, rfl, .inl rfl, hw1⟩ (by rw [row_of q1]; exact hli)) ?_
      rintro v h' ⟨b, rfl, hb, rfl⟩
      have hbt : b = true := hb.2 (row_of q1)
      subst hbt
      conv => whnf
      refine ac_pure (wakes_c G) rfl ?_
      rintro v h' ⟨rfl, rfl⟩
      refine ⟨rfl, rfl, ?_⟩
      conv => whnf
      refine ⟨rfl, fin_turnedK rfl ?_⟩
      conv => whnf
      exact ⟨rfl, rfl⟩
  have h4 := len4 hno
  have hrl : (rowOf step l).length = 2 + 6 * l.length := rowN_len _ _ _
  refine ac_mono (Row24_ok G step (m := 3) rfl (l := l) (.inr ⟨0, off, cap, c0, t0, rfl, .inl rfl, hw, hcap⟩) hl12 hno) ?_
  rintro v h' ⟨cr, cpr, rfl, rfl, y1, y2, y3⟩
  conv => whnf
  refine ac_mono (RRight_s G step (l := l) (.inr ⟨0, off, cap, c0, t0, rfl, .inl rfl, hw, hcap⟩) hl12) ?_
  rintro v h' ⟨rfl, rfl⟩
  rw [hno]
  conv => whnf
  refine ac_mono (Of26_s G (m := 4) rfl (l := rowOf step l) (.inr ⟨3, 0, cpr, cr, 3, rfl, .inr ⟨y1, (0, 0), rfl⟩, y2, y3⟩) (by omega)) ?_
  rintro v h' (⟨q1, _⟩ | ⟨_, co, cpo, rfl, rfl, w1, w2, w3⟩)
  · rw [ofOk_row hno] at q1; cases q1
  conv => whnf
  refine ac_mono (RSame_s G ((rowOf step l).getD 0 0) step (l := bdsOf (rowOf step l)) (l1 := l) ⟨4, 0, cpo, co, 56, rfl, .inr ⟨w1, (0, 0), rfl⟩, w2, w3⟩ ⟨0, off, cap, c0, t0, rfl, .inl rfl, hw, hcap⟩ (by rw [bdsOf_row]; exact hl12)) ?_
  rintro v h' ⟨b, rfl, hb, rfl⟩
  have hbt : b = true := hb.2 ⟨rfl, bdsOf_row step l⟩
  subst hbt
  conv => whnf
  refine way0 (by rw [hrl, wrapI (n := 6 * (l.length : Int)) (by omega) (by omega), wrapI (by omega) (by omega)]; simp) ?_
  conv => whnf
  have hsub : wrapS .i64 (((rowOf step l).length : Int) - 1) = (((rowOf step l).length - 1 : Nat) : Int) := by rw [wrapI (by omega) (by omega)]; omega
  refine way1 (by rw [hsub, decide_eq_true_iff]; omega) ?_
  conv => whnf
  have htk : ((rowOf step l).take ((rowOf step l).length - 1)).length = (rowOf step l).length - 1 := by simp
  refine ac_args (args' := [slc 3 0 ((rowOf step l).take ((rowOf step l).length - 1)).length cpr]) (by rw [hsub, htk, sliceAddrZ]; simp) ?_
  refine ac_mono (Of26_s G (m := 6) rfl (l := (rowOf step l).take ((rowOf step l).length - 1)) (.inr ⟨3, 0, cpr, cr, 3, rfl, .inr ⟨y1, (0, 0), rfl⟩, winI_take y2 _, by omega⟩) (by omega)) ?_
  rintro v h' (⟨_, rfl, rfl⟩ | ⟨q1, _⟩)
  rotate_left
  · rw [not_mod (by omega)] at q1; cases q1
  conv => whnf
  refine ao_grow (lx := 0) (cx := 0) (ly := (rowOf step l).length) (olds := []) (news := (rowOf step l).map I64) (px := some ⟨7, 0, some 0⟩) (vx := slc 7 0 0 0) (vy := slc 3 0 (rowOf step l).length cpr) (i := ti43) (j := ti3) (e := 3) tabOk rfl (by (conv => whnf) <;> rfl) (by (conv => whnf) <;> rfl) rfl rfl rfl rfl rfl rfl
    (.row (ob := .cells ⟨[]⟩ 3) rfl (fun j x hj => by simp at hj) rfl (by simp)) (rowIs_win rfl y2) (by omega) (by show (0 + (rowOf step l).length) * 8 ≤ _; omega) (by omega) ?_
  intro cp8 hcp8
  conv => whnf
  have hA : AccI [Obj.cells ⟨[] ++ (rowOf step l).map I64 ++ (Builtin.zeroCells ti3.zero.cells (cp8 - (0 + (rowOf step l).length))).toList⟩ 3] 0 cp8 (rowOf step l) :=
    ⟨by omega, (Builtin.zeroCells ti3.zero.cells (cp8 - (0 + (rowOf step l).length))).toList, rfl, by rw [zeros_len, show ti3.zero.cells.size = 1 from rfl]; omega, zeros_cleanB ti3.zero.cells rfl _⟩
  refine ao_pushI (m := 8) rfl [_, _, _, _, _, _, _, _] rfl hA (xv := 0) rfl (by (conv => whnf); exact congrArg (fun k => slc 8 0 k cp8) (Nat.zero_add _)) (by (conv => whnf) <;> rfl) (by omega) ?_
  intro tl q' cp' hA' _
  conv => whnf
  obtain ⟨_, rst, hq', hr'⟩ := hA'
  refine ac_mono (Of26_s G (m := tl.length + 8) rfl (l := rowOf step l ++ [0]) (.inr ⟨q' + 8, 0, cp', _, 3, rfl, .inr ⟨rowI_clean hr', (0, 0), hq'⟩, winI_own, by have := hr'.1; omega⟩) (by simp; omega)) ?_
  rintro v h' (⟨_, rfl, rfl⟩ | ⟨q1, _⟩)
  rotate_left
  · rw [not_mod (by simp; omega)] at q1; cases q1
  conv => whnf
  refine cnt_of ?_
  conv => whnf
  refine app_of ?_
  conv => whnf
  refine nthK_of (get_last _ _) ?_
  conv => whnf
  refine set_ofL ?_
  conv => whnf
  refine ac_mono (Of26_s G (m := (tl.length + 1 + 8)) (by simp) (l := li) (.inr ⟨1, off1, cap1, c1, t1, rfl, .inl rfl, hw1, hcap1⟩) hli) ?_
  rintro v h' (⟨q1, rfl, rfl⟩ | ⟨q1, co, cpo, rfl, rfl, w1, w2, w3⟩)
  · conv => whnf
    refine cnt_of ?_
    conv => whnf
    refine app_of ?_
    conv => whnf
    refine nthK_of (get_last _ _) ?_
    conv => whnf
    refine set_ofL ?_
    conv => whnf
    refine nthK_of (get_last _ _) ?_
    conv => whnf
    refine ac_mono (Row24_no G 0 (l := []) (.inl ⟨rfl, rfl⟩) (by decide) (okState_nil 0)) ?_
    rintro v h' ⟨rfl, rfl⟩
    conv => whnf
    refine nthK_of (get_last _ _) ?_
    conv => whnf
    refine ac_pure (wakes_c G) rfl ?_
    rintro v h' ⟨rfl, rfl⟩
    refine ⟨rfl, rfl, ?_⟩
    conv => whnf
    refine ⟨rfl, fin_turnedK rfl ?_⟩
    conv => whnf
    exact ⟨rfl, rfl⟩
  · have hst := ofOk_state q1
    have hl4 := len4 hst
    conv => whnf
    refine cnt_of ?_
    conv => whnf
    refine app_of ?_
    conv => whnf
    refine nthK_of (get_last _ _) ?_
    conv => whnf
    refine set_ofL ?_
    conv => whnf
    refine nthK_of (get_last _ _) ?_
    conv => whnf
    refine ac_mono (Row24_ok G (li.getD 0 0) (m := (tl.length + 1 + 8 + 1 + 1)) (by simp) (l := bdsOf li) (.inr ⟨(tl.length + 1 + 8), 0, cpo, co, 56, rfl, .inr ⟨w1, (0, 0), (by simp)⟩, w2, w3⟩) (by omega) hst) ?_
    rintro v h' ⟨cr, cpr, rfl, rfl, y1, y2, y3⟩
    conv => whnf
    refine ac_mono (ints_s G (l := rowOf (li.getD 0 0) (bdsOf li)) (l1 := li) ⟨(tl.length + 1 + 8 + 1 + 1), 0, cpr, cr, 3, rfl, .inr ⟨y1, (0, 0), (by simp)⟩, y2⟩ ⟨1, off1, cap1, c1, t1, rfl, .inl rfl, hw1⟩ (by rw [row_of q1]; exact hli)) ?_
    rintro v h' ⟨b, rfl, hb, rfl⟩
    have hbt : b = true := hb.2 (row_of q1)
    subst hbt
    conv => whnf
    refine ac_pure (wakes_c G) rfl ?_
    rintro v h' ⟨rfl, rfl⟩
    refine ⟨rfl, rfl, ?_⟩
    conv => whnf
    refine ⟨rfl, fin_turnedK rfl ?_⟩
    conv => whnf
    exact ⟨rfl, rfl⟩
end Go.Proofs.Ytjpjnjidchdlbaa
