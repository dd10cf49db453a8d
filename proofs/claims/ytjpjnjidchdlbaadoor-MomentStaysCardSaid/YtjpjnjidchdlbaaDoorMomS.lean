/-
  The reference's Turned (no condition).
-/
import Derived.Test.YtjpjnjidchdlbaaDoorMomR
namespace Go.Proofs.YtjpjnjidchdlbaaDoor
set_option linter.unusedSimpArgs false
set_option linter.unusedVariables false
open Go
set_option maxRecDepth 100000
set_option maxHeartbeats 4000000
def negB (b : Bd) : Bd := { b with x := wrapS .i64 (0 - b.x), y := wrapS .i64 (0 - b.y), z := wrapS .i64 (0 - b.z) }
theorem map_next {α : Type} (f : α → α) {l : List α} {i : Nat} {x : α} (hx : l[i]? = some x) : ((l.take i).map f ++ l.drop i).set i (f x) = (l.take (i + 1)).map f ++ l.drop (i + 1) := by
  have hi : i < l.length := (List.getElem?_eq_some_iff.1 hx).1
  have hxe : l[i] = x := (List.getElem?_eq_some_iff.1 hx).2
  have hl : ((l.take i).map f).length = i := by simp; omega
  rw [List.set_append_right i _ (by omega), hl, Nat.sub_self, List.drop_eq_getElem_cons hi, hxe, List.set_cons_zero, List.take_succ_eq_append_getElem hi, hxe, List.map_append]
  simp
theorem mid_at {α : Type} (f : α → α) {l : List α} {i : Nat} {x : α} (hx : l[i]? = some x) : ((l.take i).map f ++ l.drop i)[i]? = some x := by
  have hi : i < l.length := (List.getElem?_eq_some_iff.1 hx).1
  have hl : ((l.take i).map f).length = i := by simp; omega
  rw [List.getElem?_append_right (by omega), hl, Nat.sub_self, List.getElem?_drop, Nat.add_zero]
  exact hx
theorem TurnS_r (G) (step : Int) (c0 : Array Value) (t0 : TypeId) (off cap : Nat) (l : List Bd) (hw : WinB c0 off l) (hcap : l.length ≤ cap) (hl : l.length ≤ 1000000000000) :
    AC Tryd.prog G 41 [.agg #[I64 step, (slc 0 off l.length cap)]] [.pending c0 t0] (OwnPost (wrapS .i64 (0 - step)) (l.map negB) 1 [.pending c0 t0]) := by
  refine ac_of_body tabOk has41 ?_
  unfold BodyOk
  conv => whnf
  refine ac_mono (OwnS_s G step (h := [.pending c0 t0, .cells #[I64 step, (slc 0 off l.length cap)] 42, .cells #[I64 0, .slice none 0 0] 42]) (m := 3) (l := l) rfl (.inr ⟨0, off, cap, c0, t0, rfl, .inl rfl, hw, hcap⟩) hl) ?_
  rintro v h' ⟨c, cp, rfl, rfl, q1, q2, q3⟩
  conv => whnf
  refine aw_invT tabOk [[false, true, true, true, false, false, false, false, false, false, false, false, false, false, false, false], [false, false, false, false, false, false, false, false, false, false, false, false, false, false, false, false], [false, false, false, false, false, false, false, false]] (fun m s' => ∃ (i : Nat) (c3 : Array Value), m = l.length - i ∧ i ≤ l.length ∧ (∀ x ∈ c3.toList, cleanV x = true) ∧ WinB c3 0 ((l.take i).map negB ++ l.drop i) ∧
    s' = ⟨[[.chan none, ptr 1 0, ptr 2 0, I64 (i : Int), .chan none, .chan none, .chan none, .chan none, .chan none, .chan none, .chan none, .chan none, .chan none, .chan none, .chan none, .chan none],
      [.chan none, .chan none, .chan none, .chan none, .chan none, .chan none, .chan none, .chan none, .chan none, .chan none, .chan none, .chan none, .chan none, .chan none, .chan none, .chan none],
      [.chan none, .chan none, .chan none, .chan none, .chan none, .chan none, .chan none, .chan none]],
      [.pending c0 t0, .cells #[I64 (wrapS .i64 (0 - step)), slc 3 0 l.length cp] 42, .cells #[I64 0, .slice none 0 0] 42, .cells c3 61], []⟩) l.length ?_ ⟨0, c, rfl, Nat.zero_le _, q1, q2, rfl⟩
  rintro m s' ⟨i, c3, rfl, hi, hc3, hw3, rfl⟩
  conv => whnf
  refine ways (fun h2 => ?_) (fun h2 => ?_) <;> conv => whnf
  · have hlt : i < l.length := by have := of_decide_eq_true h2; omega
    obtain ⟨x, hx⟩ : ∃ x, l[i]? = some x := ⟨_, List.getElem?_eq_getElem hlt⟩
    have hib : decide (0 ≤ (i : Int) ∧ (i : Int) < ((l.length : Nat) : Int)) = true := by rw [decide_eq_true_iff]; omega
    have hm := mid_at negB hx
    refine way1 hib ?_
    conv => whnf
    refine hw3.part hm (q := 3) (by decide) ?_
    conv => whnf
    refine way1 hib ?_
    obtain ⟨y0, y1, y2, t, rfl⟩ := three hw3 hm
    conv => whnf
    refine write_bd3 (b' := negB x) (vs := [I64 (wrapS .i64 (0 - x.x)), I64 (wrapS .i64 (0 - x.y)), I64 (wrapS .i64 (0 - x.z))]) hw3 hm (by simp) (by simp [cleanV]) (fun j hj => ?_) (fun j hj ho => ?_) ?_
    · match j, hj with
      | 0, _ => rfl
      | 1, _ => rfl
      | 2, _ => rfl
      | j + 3, hj => exact absurd hj (by simp)
    · match j, hj, ho with
      | 0, _, _ => rfl
      | 1, _, _ => rfl
      | 2, _, _ => rfl
      | 3, _, ho => exact absurd ho (by simp)
      | 4, _, ho => exact absurd ho (by simp)
      | 5, _, ho => exact absurd ho (by simp)
      | j + 6, hj, _ => omega
    intro t' hcl' hw'
    rw [map_next negB hx] at hw'
    conv => whnf
    rw [show wrapS .i64 ((i : Int) + 1) = ((i + 1 : Nat) : Int) by rw [wrapI (by omega) (by omega)]; omega]
    refine ⟨?_, rfl, rfl, rfl, l.length - (i + 1), by omega, i + 1, ⟨y0 :: y1 :: y2 :: t'⟩, rfl, by omega, hcl' hc3, hw', rfl⟩
    show ((cellsOf (.cells ⟨y0 :: y1 :: y2 :: t'⟩ 61)).all (scop1 4) && true) = true
    rw [clean_all (hcl' hc3)]
    rfl
  have hin : i = l.length := by have := of_decide_eq_false h2; omega
  subst hin
  rw [List.take_length, List.drop_length, List.append_nil] at hw3
  refine ⟨rfl, fin_oneB 3 ⟨[_, _, _], rfl⟩ (by simp) rfl hc3 (u := .agg #[I64 (wrapS .i64 (0 - step)), slc 1 0 l.length cp]) ?_ rfl ⟨c3, cp, by rw [List.length_map], rfl, hc3, hw3, by rw [List.length_map]; exact q3⟩⟩
  simp [r3, r2, r1, r0, rA, tau]
theorem TurnS_n (G) (step : Int) :
    AC Tryd.prog G 41 [.agg #[I64 step, (.slice none 0 0)]] [] (OwnPost (wrapS .i64 (0 - step)) (([] : List Bd).map negB) 0 []) := by
  refine ac_of_body tabOk has41 ?_
  unfold BodyOk
  conv => whnf
  refine ac_mono (OwnS_s G step (h := [.cells #[I64 step, (.slice none 0 0)] 42, .cells #[I64 0, .slice none 0 0] 42]) (m := 2) (l := ([] : List Bd)) rfl (.inl ⟨rfl, rfl⟩) (by simp)) ?_
  rintro v h' ⟨c, cp, rfl, rfl, q1, q2, q3⟩
  conv => whnf
  refine aw_rounds tabOk 1 ?_
  conv => whnf
  refine ⟨rfl, fin_oneB 2 ⟨[_, _, _], rfl⟩ (by simp) rfl q1 (u := .agg #[I64 (wrapS .i64 (0 - step)), slc 0 0 ([] : List Bd).length cp]) ?_ rfl ⟨c, cp, by rw [List.length_map], rfl, q1, q2, by rw [List.length_map]; exact q3⟩⟩
  simp [r3, r2, r1, r0, rA, tau]
theorem TurnS_s (G) (step : Int) {h : List Obj} {m : Nat} (hm : h.length = m) {bs : Value} {l : List Bd} (hs : SlB h bs l) (hl : l.length ≤ 1000000000000) :
    AC Tryd.prog G 41 [.agg #[I64 step, bs]] h (OwnPost (wrapS .i64 (0 - step)) (l.map negB) m h) :=
  own_lift (f := fun l => l.map negB) hm hs (fun _ => List.length_map _) (TurnS_n G step) fun c t off cap hw hcap => TurnS_r G step c t off cap l hw hcap hl
end Go.Proofs.YtjpjnjidchdlbaaDoor
