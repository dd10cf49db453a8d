/-
  The reference's Moved (no condition).
-/
import Derived.Test.YtjpjnjidchdlbaaDoorMomX
import Derived.Test.YtjpjnjidchdlbaaDoorMomV
namespace Go.Proofs.YtjpjnjidchdlbaaDoor
set_option linter.unusedSimpArgs false
set_option linter.unusedVariables false
open Go
set_option maxRecDepth 100000
set_option maxHeartbeats 4000000
theorem has44 : Has Tryd.prog 44 Tryd.f44 := ⟨Tryd.func44, by kernel_rfl, by kernel_rfl⟩
theorem has46 : Has Tryd.prog 46 Tryd.f46 := ⟨Tryd.func46, by kernel_rfl, by kernel_rfl⟩
def addOk (a b c x y z : Int) : Bool := ok6 a b c x y z && okS (wrapS .i64 (a + x)) (wrapS .i64 (b + y)) (wrapS .i64 (c + z))
def movB (x y z : Int) (b : Bd) : Bd := { b with a := wrapS .i64 (b.a + x), b := wrapS .i64 (b.b + y), c := wrapS .i64 (b.c + z) }
def inBox (x y z : Int) (b : Bd) : Bool := rwin 1048576 (wrapS .i64 (b.a + x)) && (rwin 1048576 (wrapS .i64 (b.b + y)) && rwin 1048576 (wrapS .i64 (b.c + z)))
def okM (x y z : Int) (b : Bd) : Bool := addOk b.a b.b b.c x y z && inBox x y z b
theorem RAddT (G) (a b c x y z : Int) (h : addOk a b c x y z = true) : AC Tryd.prog G 63 [V3 a b c, V3 x y z] [] (fun v h => v = .tuple #[V3 (wrapS .i64 (a + x)) (wrapS .i64 (b + y)) (wrapS .i64 (c + z)), I64 0] ∧ h = []) := by
  have := RAdd_c G a b c x y z
  unfold addOk at h
  rw [h] at this
  exact this
theorem RAddF (G) (a b c x y z : Int) (h : addOk a b c x y z = false) : AC Tryd.prog G 63 [V3 a b c, V3 x y z] [] (fun v h => v = .tuple #[V3 0 0 0, I64 20] ∧ h = []) := by
  have := RAdd_c G a b c x y z
  unfold addOk at h
  rw [h] at this
  exact this
/-- what Moved leaves -/
def MovedPost (step x y z : Int) (l : List Bd) (m : Nat) (h : List Obj) (v : Value) (h' : List Obj) : Prop :=
  ∃ c cp e, v = .tuple #[.agg #[I64 step, slc m 0 l.length cp], I64 e] ∧ h' = h ++ [.cells c 61] ∧ (∀ x ∈ c.toList, cleanV x = true) ∧ (e = 0 → okState step l = true ∧ (∀ b ∈ l, okM x y z b = true) ∧ WinB c 0 (l.map (movB x y z)) ∧ l.length ≤ cp)
theorem Moved_r (G) (step x y z : Int) (c0 : Array Value) (t0 : TypeId) (off cap : Nat) (l : List Bd) (hw : WinB c0 off l) (hcap : l.length ≤ cap) (hl : l.length ≤ 2932031007402) :
    AC Tryd.prog G 44 [.agg #[I64 step, (slc 0 off l.length cap)], V3 x y z] [.pending c0 t0] (MovedPost step x y z l 1 [.pending c0 t0]) := by
  refine ac_of_body tabOk has44 ?_
  unfold BodyOk
  conv => whnf
  refine ac_mono (OwnSW_s G step (h := [.pending c0 t0, .cells #[I64 step, (slc 0 off l.length cap)] 42, .cells #[I64 x, I64 y, I64 z] 59, .cells #[I64 0, .slice none 0 0] 42]) (m := 4) (l := l) rfl (.inr ⟨0, off, cap, c0, t0, rfl, .inl rfl, hw, hcap⟩) hl) ?_
  rintro v h' ⟨c, cp, rfl, rfl, q1, q2, q3⟩
  conv => whnf
  refine ac_mono (RRightU_s G step (l := l) (.inr ⟨0, off, cap, c0, t0, rfl, .inl rfl, hw, hcap⟩)) ?_
  rintro v h' ⟨rfl, rfl⟩
  conv => whnf
  refine ways (fun h1 => ?_) (fun h1 => ?_) <;> conv => whnf
  · refine ⟨rfl, fin_oneB 4 ⟨[_, _, _, _, _], rfl⟩ (by simp) rfl q1 (u := .tuple #[.agg #[I64 step, slc 1 0 l.length cp], I64 2]) ?_ rfl ⟨c, cp, 2, rfl, rfl, q1, fun h => absurd h (by decide)⟩⟩
    simp [r3, r2, r1, r0, rA, tau]
  have hok := notT h1
  have hl4 : l.length ≤ 4 := by
    unfold okState at hok
    simp only [Bool.and_eq_true, decide_eq_true_eq] at hok
    exact hok.2.2.2.1
  refine aw_invT tabOk [[false, false, true, true, true, true, true, true, false, false, false, false, false, false, false, false], [false, false, false, false, false, false, false, false, false, false, false, false, false, false, false, false], [false, false, false, false, false, false, false, false, false, false, false, false, false, false, false, false], [false, false]] (fun m s' => ∃ (i : Nat) (c3 : Array Value), m = l.length - i ∧ i ≤ l.length ∧ (∀ x ∈ c3.toList, cleanV x = true) ∧ WinB c3 0 ((l.take i).map (movB x y z) ++ l.drop i) ∧ (∀ b ∈ l.take i, okM x y z b = true) ∧
    s' = ⟨[[.chan none, .chan none, ptr 1 0, ptr 2 0, ptr 3 0, I64 0, ptr 5 0, I64 (i : Int), .chan none, .chan none, .chan none, .chan none, .chan none, .chan none, .chan none, .chan none],
      [.chan none, .chan none, .chan none, .chan none, .chan none, .chan none, .chan none, .chan none, .chan none, .chan none, .chan none, .chan none, .chan none, .chan none, .chan none, .chan none],
      [.chan none, .chan none, .chan none, .chan none, .chan none, .chan none, .chan none, .chan none, .chan none, .chan none, .chan none, .chan none, .chan none, .chan none, .chan none, .chan none],
      [.chan none, .chan none]],
      [.pending c0 t0, .cells #[I64 step, (slc 0 off l.length cap)] 42, .cells #[I64 x, I64 y, I64 z] 59, .cells #[I64 0, .slice none 0 0] 42, .cells c3 61, .cells #[I64 step, slc 4 0 l.length cp] 42], []⟩) l.length ?_ ⟨0, c, rfl, Nat.zero_le _, q1, q2, by simp, rfl⟩
  rintro m s' ⟨i, c3, rfl, hi, hc3, hw3, hb3, rfl⟩
  conv => whnf
  refine ways (fun h2 => ?_) (fun h2 => ?_) <;> conv => whnf
  · have hlt : i < l.length := by have := of_decide_eq_true h2; omega
    obtain ⟨w, hx⟩ : ∃ w, l[i]? = some w := ⟨_, List.getElem?_eq_getElem hlt⟩
    have hib : decide (0 ≤ (i : Int) ∧ (i : Int) < ((l.length : Nat) : Int)) = true := by rw [decide_eq_true_iff]; omega
    have hm := mid_at (movB x y z) hx
    rcases Bool.eq_false_or_eq_true (addOk w.a w.b w.c x y z) with ha | ha
    rotate_left
    · refine ad_of tabOk (by kernel_rfl) [(11, false), (0, false), (1, false), (2, false), (3, false), (4, false), (5, false), (6, false), (7, false), (8, false), (9, false), (10, false), (12, false), (13, false)] (by kernel_rfl) ?_
      conv => whnf
      refine way1 hib ?_
      conv => whnf
      refine hw3.part hm (q := 0) (by decide) ?_
      conv => whnf
      refine quiet_of (RAddF G w.a w.b w.c x y z ha) rfl ?_
      rintro v h' ⟨rfl, rfl⟩
      refine ⟨rfl, rfl, ?_⟩
      conv => whnf
      refine ⟨⟨_, rfl⟩, ?_⟩
      conv => whnf
      refine ac_mono (OwnSW_s G step (h := [.pending c0 t0, .cells #[I64 step, (slc 0 off l.length cap)] 42, .cells #[I64 x, I64 y, I64 z] 59, .cells #[I64 0, .slice none 0 0] 42, .cells c3 61, .cells #[I64 step, slc 4 0 l.length cp] 42, .cells #[I64 0, I64 0, I64 0] 59]) (m := 7) (l := l) rfl (.inr ⟨0, off, cap, c0, t0, rfl, .inl rfl, hw, hcap⟩) hl) ?_
      rintro v h' ⟨c5, cp5, rfl, rfl, r1, r2, r3⟩
      conv => whnf
      refine ⟨rfl, fin_oneB 7 ⟨[_, _, _, _, _, _, _], rfl⟩ (by simp) rfl r1 (u := .tuple #[.agg #[I64 step, slc 1 0 l.length cp5], I64 2]) ?_ rfl ⟨c5, cp5, 2, rfl, rfl, r1, fun h => absurd h (by decide)⟩⟩
      clear r1 r2 r3
      simp [r3, r2, r1, r0, rA, tau]
    · refine ad_of tabOk (by kernel_rfl) [(11, false), (0, false), (1, false), (2, false), (3, false), (4, false), (5, false), (6, false), (7, false), (8, false), (9, false), (10, false), (12, false), (13, false)] (by kernel_rfl) ?_
      conv => whnf
      refine way1 hib ?_
      conv => whnf
      refine hw3.part hm (q := 0) (by decide) ?_
      conv => whnf
      refine quiet_of (RAddT G w.a w.b w.c x y z ha) rfl ?_
      rintro v h' ⟨rfl, rfl⟩
      refine ⟨rfl, rfl, ?_⟩
      conv => whnf
      refine ⟨⟨_, rfl⟩, ?_⟩
      conv => whnf
      refine ac_pure (Within_c G _ _ _ 1048576) rfl ?_
      rintro v h' ⟨rfl, rfl⟩
      refine ⟨rfl, rfl, ?_⟩
      conv => whnf
      refine ways (fun h3 => ?_) (fun h3 => ?_) <;> conv => whnf
      · refine ac_mono (OwnSW_s G step (h := [.pending c0 t0, .cells #[I64 step, (slc 0 off l.length cap)] 42, .cells #[I64 x, I64 y, I64 z] 59, .cells #[I64 0, .slice none 0 0] 42, .cells c3 61, .cells #[I64 step, slc 4 0 l.length cp] 42, .cells #[I64 (wrapS .i64 (w.a + x)), I64 (wrapS .i64 (w.b + y)), I64 (wrapS .i64 (w.c + z))] 59]) (m := 7) (l := l) rfl (.inr ⟨0, off, cap, c0, t0, rfl, .inl rfl, hw, hcap⟩) hl) ?_
        rintro v h' ⟨c5, cp5, rfl, rfl, r1, r2, r3⟩
        conv => whnf
        refine ⟨rfl, fin_oneB 7 ⟨[_, _, _, _, _, _, _], rfl⟩ (by simp) rfl r1 (u := .tuple #[.agg #[I64 step, slc 1 0 l.length cp5], I64 2]) ?_ rfl ⟨c5, cp5, 2, rfl, rfl, r1, fun h => absurd h (by decide)⟩⟩
        clear r1 r2 r3
        simp [r3, r2, r1, r0, rA, tau]
      have hbx : inBox x y z w = true := notT h3
      refine way1 hib ?_
      conv => whnf
      refine write_bd (q := 0) (b' := movB x y z w) (vs := [I64 (wrapS .i64 (w.a + x)), I64 (wrapS .i64 (w.b + y)), I64 (wrapS .i64 (w.c + z))]) hw3 hm (by simp) (by simp [cleanV]) (fun j hj => ?_) (fun j hj ho => ?_) ?_
      · match j, hj with
        | 0, _ => rfl
        | 1, _ => rfl
        | 2, _ => rfl
        | j + 3, hj => exact absurd hj (by simp)
      · match j, hj, ho with
        | 0, _, ho => exact absurd ho (by simp)
        | 1, _, ho => exact absurd ho (by simp)
        | 2, _, ho => exact absurd ho (by simp)
        | 3, _, _ => rfl
        | 4, _, _ => rfl
        | 5, _, _ => rfl
        | j + 6, hj, _ => omega
      intro t' hcl' hw'
      rw [map_next (movB x y z) hx] at hw'
      conv => whnf
      rw [show wrapS .i64 ((i : Int) + 1) = ((i + 1 : Nat) : Int) by rw [wrapI (by omega) (by omega)]; omega]
      refine ⟨?_, rfl, rfl, rfl, l.length - (i + 1), by omega, i + 1, t', rfl, by omega, hcl' hc3, hw', ?_, rfl⟩
      · show ((cellsOf (.cells t' 61)).all (scop1 6) && true) = true
        rw [clean_all (hcl' hc3)]
        rfl
      · intro b hb
        rw [List.take_succ_eq_append_getElem hlt] at hb
        rcases List.mem_append.1 hb with hb | hb
        · exact hb3 b hb
        · rcases List.mem_singleton.1 hb with rfl
          have hwe : l[i] = w := (List.getElem?_eq_some_iff.1 hx).2
          rw [hwe]
          unfold okM
          rw [ha, hbx]
          rfl
  have hin : i = l.length := by have := of_decide_eq_false h2; omega
  subst hin
  rw [List.take_length, List.drop_length, List.append_nil] at hw3
  rw [List.take_length] at hb3
  refine ⟨rfl, fin_oneB 4 ⟨[_, _, _, _, _], rfl⟩ (by simp) rfl hc3 (u := .tuple #[.agg #[I64 step, slc 1 0 l.length cp], I64 0]) ?_ rfl ⟨c3, cp, 0, rfl, rfl, hc3, fun _ => ⟨hok, hb3, hw3, q3⟩⟩⟩
  simp [r3, r2, r1, r0, rA, tau]
theorem Moved_n (G) (step x y z : Int) :
    AC Tryd.prog G 44 [.agg #[I64 step, (.slice none 0 0)], V3 x y z] [] (MovedPost step x y z ([] : List Bd) 0 []) := by
  refine ac_of_body tabOk has44 ?_
  unfold BodyOk
  conv => whnf
  refine ac_mono (OwnSW_s G step (h := [.cells #[I64 step, (.slice none 0 0)] 42, .cells #[I64 x, I64 y, I64 z] 59, .cells #[I64 0, .slice none 0 0] 42]) (m := 3) (l := ([] : List Bd)) rfl (.inl ⟨rfl, rfl⟩) (by simp)) ?_
  rintro v h' ⟨c, cp, rfl, rfl, q1, q2, q3⟩
  conv => whnf
  refine ac_mono (RRightU_s G step (l := ([] : List Bd)) (.inl ⟨rfl, rfl⟩)) ?_
  rintro v h' ⟨rfl, rfl⟩
  conv => whnf
  rw [okState_nil]
  conv => whnf
  refine ⟨rfl, fin_oneB 3 ⟨[_, _, _, _, _], rfl⟩ (by simp) rfl q1 (u := .tuple #[.agg #[I64 step, slc 0 0 ([] : List Bd).length cp], I64 2]) ?_ rfl ⟨c, cp, 2, rfl, rfl, q1, fun h => absurd h (by decide)⟩⟩
  simp [r3, r2, r1, r0, rA, tau]
theorem Moved_s (G) (step x y z : Int) {h : List Obj} {m : Nat} (hm : h.length = m) {bs : Value} {l : List Bd} (hs : SlB h bs l) (hl : l.length ≤ 2932031007402) :
    AC Tryd.prog G 44 [.agg #[I64 step, bs], V3 x y z] h (MovedPost step x y z l m h) := by
  subst hm
  have hrO : ∀ (t : Ren) (c : Array Value), (∀ x ∈ c.toList, cleanV x = true) → rO t (.cells c 61) = .cells c 61 := fun t c hr => rO_cl hr
  rcases hs with ⟨rfl, rfl⟩ | ⟨m, off, cap, c, t, rfl, h2, h4, h5⟩
  · refine ac_frame [] (Moved_n G step x y z) (by simp [r3, r2, r1, r0]) (fun v hv => ?_) cold_0 ?_
    · refine (scop3_ok (n := 0) (List.all_eq_true.1 (by rfl : ([.agg #[I64 step, .slice none 0 0], V3 x y z] : List Value).all (scop3 0) = true) v hv)).1
    · rintro v h' ⟨c, cp, e, rfl, rfl, q1, q2⟩
      refine ⟨_, rfl, c, cp, e, ?_, ?_, q1, q2⟩
      · simp [r3, r2, r1, r0, rA, nu]
      · rw [List.map_cons, hrO _ _ q1]; rfl
  · refine ac_frame [m] (Moved_r G step x y z c t off cap l h4 h5 hl) (by simp [r3, r2, r1, r0, rA, nu]) (fun v hv => ?_) (cold_p h2) ?_
    · refine (scop3_ok (n := 1) (List.all_eq_true.1 (by rfl : ([.agg #[I64 step, slc 0 off l.length cap], V3 x y z] : List Value).all (scop3 1) = true) v hv)).1
    · rintro v h' ⟨c, cp, e, rfl, rfl, q1, q2⟩
      refine ⟨_, rfl, c, cp, e, ?_, ?_, q1, q2⟩
      · simp [r3, r2, r1, r0, rA, nu]
      · rw [List.map_cons, hrO _ _ q1]; rfl
/-! ## The sum of the masses -/
def totF (l : List Int) : Int := l.foldl (fun s m => wrapS .i64 (s + m)) 0
theorem totF_succ {l : List Int} {i : Nat} {m : Int} (hm : l[i]? = some m) : totF (l.take (i + 1)) = wrapS .i64 (totF (l.take i) + m) := by
  have h1 : i < l.length := (List.getElem?_eq_some_iff.1 hm).1
  have e1 : l[i] = m := (List.getElem?_eq_some_iff.1 hm).2
  unfold totF
  rw [List.take_succ_eq_append_getElem h1, List.foldl_append, e1]
  rfl
theorem Total_r (tt : TypeId) (c0 : Array Value) (t0 : TypeId) (off cap : Nat) (l : List Int) (hw : WinI c0 off l) (hcap : l.length ≤ cap) (g b tp nr me : Int) (hok : okConf (l.length : Int) l g b tp nr me = true) :
    AC Tryd.prog (GM tt) 46 [.agg (confC (slc 0 off l.length cap) g b tp nr me)] [.pending c0 t0] (fun v h => v = I64 (totF l) ∧ h = [.pending c0 t0]) := by
  refine ac_of_body tabOk has46 ?_
  unfold BodyOk
  conv => whnf
  have hl4 : l.length ≤ 4 := by have := (okConf_len hok).2; omega
  refine aw_inv tabOk [[false, true, false, true, true, false, false, false, false, false, false, false, false, false, false, false], [false, false, false, false, false, false, false, false, false]] (fun m s' => ∃ (i : Nat), m = l.length - i ∧ i ≤ l.length ∧
    s' = ⟨[[.chan none, ptr 1 0, .chan none, I64 (totF (l.take i)), I64 (i : Int), .chan none, .chan none, .chan none, .chan none, .chan none, .chan none, .chan none, .chan none, .chan none, .chan none, .chan none],
      [.chan none, .chan none, .chan none, .chan none, .chan none, .chan none, .chan none, .chan none, .chan none]],
      [.pending c0 t0, .cells (confC (slc 0 off l.length cap) g b tp nr me) 39], []⟩) l.length ?_ ⟨0, rfl, Nat.zero_le _, rfl⟩
  rintro m s' ⟨i, rfl, hi, rfl⟩
  conv => whnf
  refine ways (fun h2 => ?_) (fun h2 => ?_) <;> conv => whnf
  · have hlt : i < l.length := by have := of_decide_eq_true h2; omega
    obtain ⟨w, hx⟩ : ∃ w, l[i]? = some w := ⟨_, List.getElem?_eq_getElem hlt⟩
    refine ac_mono (RCheckU_s tt (l := l) (.inr ⟨0, off, cap, c0, t0, rfl, .inl rfl, hw, hcap⟩) g b tp nr me) ?_
    rintro v h' ⟨rfl, rfl⟩
    conv => whnf
    rw [hok]
    conv => whnf
    refine way1 (by rw [decide_eq_true_iff]; omega) ?_
    conv => whnf
    refine nthK_of (l := c0.toList) (hw.at hx) ?_
    conv => whnf
    rw [show wrapS .i64 ((i : Int) + 1) = ((i + 1 : Nat) : Int) by rw [wrapI (by omega) (by omega)]; omega]
    exact ⟨l.length - (i + 1), by omega, i + 1, rfl, by omega, by rw [totF_succ hx]; rfl⟩
  have hin : i = l.length := by have := of_decide_eq_false h2; omega
  subst hin
  refine ⟨rfl, fin_turnedK rfl ?_⟩
  conv => whnf
  exact ⟨by rw [List.take_length], rfl⟩
theorem Total_s (tt : TypeId) {h : List Obj} {ms : Value} {l : List Int} (hs : SlI h ms l) (g b tp nr me : Int) (hok : okConf (l.length : Int) l g b tp nr me = true) :
    AC Tryd.prog (GM tt) 46 [.agg (confC ms g b tp nr me)] h (fun v h' => v = I64 (totF l) ∧ h' = h) := by
  rcases hs with ⟨rfl, rfl⟩ | ⟨m, off, cap, c, t, rfl, h2, h4, h5⟩
  · cases hok
  · refine ac_readF [m] (Total_r tt c t off cap l h4 h5 g b tp nr me hok) (by simp [r3, r2, r1, r0, rA, nu]) rfl (cold_p h2) ?_
    rintro v h' ⟨rfl, rfl⟩
    exact ⟨rfl, rfl, rfl, rfl⟩
end Go.Proofs.YtjpjnjidchdlbaaDoor
