/-
  state.Own, state.Turned (no condition).
-/
import Derived.Test.YtjpjnjidchdlbaaStB
namespace Go.Proofs.Ytjpjnjidchdlbaa
set_option linter.unusedSimpArgs false
set_option linter.unusedVariables false
open Go
set_option maxRecDepth 100000
set_option maxHeartbeats 4000000
theorem Own45_r (G) (step : Int) (c0 : Array Value) (t0 : TypeId) (off cap : Nat) (l : List Bd) (hw : WinB c0 off l) (hcap : l.length ≤ cap) (hn : 1 ≤ l.length) (hl : l.length ≤ 1000000000000) :
    AC Try.prog G 45 [.agg #[I64 step, slc 0 off l.length cap]] [.pending c0 t0] (OwnPost step l 1 [.pending c0 t0]) := by
  refine ac_of_body tabOk has45 ?_
  unfold BodyOk
  conv => whnf
  refine ac_of_body tabOk has55 ?_
  unfold BodyOk
  conv => whnf
  refine ao_grow (lx := 0) (cx := 0) (ly := l.length) (olds := []) (news := flatB l) (px := some ⟨3, 0, some 0⟩) (vx := slc 3 0 0 0) (vy := slc 0 off l.length cap) (i := ti40) (j := ti56) (e := 56) tabOk rfl (by conv => whnf) (by conv => whnf) rfl rfl rfl rfl rfl rfl
    (.row (ob := .cells ⟨[]⟩ 56) rfl (fun j x hj => by simp at hj) rfl (by simp)) (winB_row rfl hw) (by omega) (by show (0 + l.length) * 48 ≤ _; omega) (by omega) ?_
  intro cp hcp
  conv => whnf
  have hcl : ∀ x ∈ (⟨flatB l ++ (Builtin.zeroCells ti56.zero.cells (cp - (0 + l.length))).toList⟩ : Array Value).toList, cleanV x = true := rowB_clean (zeros_cleanB ti56.zero.cells rfl _)
  refine ⟨rfl, fin_oneB 4 ⟨[_, _], rfl⟩ (by simp) rfl hcl (u := slc 3 0 (0 + l.length) cp) ?_ rfl ?_⟩
  · simp [r3, r2, r1, r0, rA, tau]
  conv => whnf
  refine ⟨rfl, fin_oneB 3 ⟨[_, _, _], rfl⟩ (by simp) rfl hcl (u := .agg #[I64 step, slc 1 0 (0 + l.length) cp]) ?_ rfl ⟨_, cp, by rw [Nat.zero_add], rfl, hcl, winB_own, by omega⟩⟩
  simp [r3, r2, r1, r0, rA, tau]
theorem own_lift1 {P : Program} {G : List (Nat × Obj)} {fn : FuncId} {st st2 : Int} {f : List Bd → List Bd} {h : List Obj} {m : Nat} (hm : h.length = m) {bs : Value} {l : List Bd} (hs : SlB h bs l) (hn : 1 ≤ l.length) (hlen : ∀ l, (f l).length = l.length)
    (hr : ∀ (c : Array Value) (t : TypeId) (off cap : Nat), WinB c off l → l.length ≤ cap → AC P G fn [.agg #[I64 st, slc 0 off l.length cap]] [.pending c t] (OwnPost st2 (f l) 1 [.pending c t])) :
    AC P G fn [.agg #[I64 st, bs]] h (OwnPost st2 (f l) m h) := by
  subst hm
  have hrO : ∀ (t : Ren) (c : Array Value), (∀ x ∈ c.toList, cleanV x = true) → rO t (.cells c 56) = .cells c 56 := fun t c hr => rO_cl hr
  rcases hs with ⟨rfl, rfl⟩ | ⟨m, off, cap, c, t, rfl, h2, h4, h5⟩
  · exact absurd hn (by simp)
  · refine ac_frame [m] (hr c t off cap h4 h5) (by simp [r3, r2, r1, r0, rA, nu]) (fun v hv => ?_) (cold_p h2) ?_
    · rcases List.mem_singleton.1 hv with rfl
      exact (scop3_ok (n := 1) (by rfl)).1
    · rintro v h' ⟨c, cp, rfl, rfl, q1, q2, q3⟩
      refine ⟨_, rfl, c, cp, ?_, ?_, q1, q2, q3⟩
      · simp [r3, r2, r1, r0, rA, nu]
      · rw [List.map_cons, hrO _ _ q1]; rfl
theorem Own45_s (G) (step : Int) {h : List Obj} {m : Nat} (hm : h.length = m) {bs : Value} {l : List Bd} (hs : SlB h bs l) (hn : 1 ≤ l.length) (hl : l.length ≤ 1000000000000) :
    AC Try.prog G 45 [.agg #[I64 step, bs]] h (OwnPost step l m h) :=
  own_lift1 (f := fun l => l) hm hs hn (fun _ => rfl) fun c t off cap hw hcap => Own45_r G step c t off cap l hw hcap hn hl
def negB (b : Bd) : Bd := { b with x := wrapS .i64 (0 - b.x), y := wrapS .i64 (0 - b.y), z := wrapS .i64 (0 - b.z) }
theorem Turn29_r (G) (step : Int) (c0 : Array Value) (t0 : TypeId) (off cap : Nat) (l : List Bd) (hw : WinB c0 off l) (hcap : l.length ≤ cap) (hn : 1 ≤ l.length) (hl : l.length ≤ 1000000000000) :
    AC Try.prog G 29 [.agg #[I64 step, slc 0 off l.length cap]] [.pending c0 t0] (OwnPost (wrapS .i64 (0 - step)) (l.map negB) 1 [.pending c0 t0]) := by
  refine ac_of_body tabOk has29 ?_
  unfold BodyOk
  conv => whnf
  refine ac_mono (Own45_s G step (h := [.pending c0 t0, .cells #[I64 step, (slc 0 off l.length cap)] 42, .cells #[I64 0, .slice none 0 0] 42]) (m := 3) (l := l) rfl (.inr ⟨0, off, cap, c0, t0, rfl, .inl rfl, hw, hcap⟩) hn hl) ?_
  rintro v h' ⟨c, cp, rfl, rfl, q1, q2, q3⟩
  conv => whnf
  refine aw_invT tabOk [[false, true, true, false, false, false, false, false, false, false, false, false, true, true, true, false], [false, false, false, false, false, false, false, false, false, false, false, false, false]] (fun m s' => ∃ (i : Nat) (c3 : Array Value), m = l.length - i ∧ i ≤ l.length ∧ (∀ x ∈ c3.toList, cleanV x = true) ∧ WinB c3 0 ((l.take i).map negB ++ l.drop i) ∧
    s' = ⟨[[.chan none, ptr 1 0, ptr 2 0, .chan none, .chan none, .chan none, .chan none, .chan none, .chan none, .chan none, .chan none, .chan none, slc 3 0 l.length cp, I64 (l.length : Int), I64 (i : Int), .chan none],
      [.chan none, .chan none, .chan none, .chan none, .chan none, .chan none, .chan none, .chan none, .chan none, .chan none, .chan none, .chan none, .chan none]],
      [.pending c0 t0, .cells #[I64 (wrapS .i64 (0 - step)), slc 3 0 l.length cp] 42, .cells #[I64 0, .slice none 0 0] 42, .cells c3 56], []⟩) l.length ?_ ⟨0, c, rfl, Nat.zero_le _, q1, q2, rfl⟩
  rintro m s' ⟨i, c3, rfl, hi, hc3, hw3, rfl⟩
  conv => whnf
  refine ways (fun h2 => ?_) (fun h2 => ?_) <;> conv => whnf
  · have hlt : i < l.length := by have := of_decide_eq_true h2; omega
    obtain ⟨x, hx⟩ : ∃ x, l[i]? = some x := ⟨_, List.getElem?_eq_getElem hlt⟩
    have hib : decide (0 ≤ (i : Int) ∧ (i : Int) < ((l.length : Nat) : Int)) = true := by rw [decide_eq_true_iff]; omega
    have hm := mid_at negB hx
    refine way1 hib ?_
    conv => whnf
    refine hw3.body hm ?_
    conv => whnf
    refine ad_of tabOk (by kernel_rfl) [(0, false), (1, false), (2, false), (3, false), (4, false), (5, false), (6, false), (7, false), (8, true)] (by kernel_rfl) ?_
    conv => whnf
    refine quiet_of (Neg_c G x.x x.y x.z) rfl ?_
    rintro v h' ⟨rfl, rfl⟩
    refine ⟨rfl, rfl, ?_⟩
    conv => whnf
    refine way1 hib ?_
    obtain ⟨y0, y1, y2, t, rfl⟩ := three hw3 hm
    conv => whnf
    refine write_bd3 (b' := negB x) (vs := [I64 (wrapS .i64 (0 - x.x)), I64 (wrapS .i64 (0 - x.y)), I64 (wrapS .i64 (0 - x.z))]) hw3 hm (by simp) (by simp [cleanV]) (fun j hj => ?_) (fun j hj ho => ?_) ?_
    · match j, hj with
      | 0, _ => rfl
      | 1, _ => rfl
      | 2, _ => rfl
      | j + 3, hj => exact absurd hj (by simp)
    · match j, hj, ho with
      | 0, _, _ => rfl
      | 1, _, _ => rfl
      | 2, _, _ => rfl
      | 3, _, ho => exact absurd ho (by simp)
      | 4, _, ho => exact absurd ho (by simp)
      | 5, _, ho => exact absurd ho (by simp)
      | j + 6, hj, _ => omega
    intro t' hcl' hw'
    rw [map_next negB hx] at hw'
    conv => whnf
    rw [show wrapS .i64 ((i : Int) + 1) = ((i + 1 : Nat) : Int) by rw [wrapI (by omega) (by omega)]; omega]
    refine ⟨?_, rfl, rfl, rfl, l.length - (i + 1), by omega, i + 1, ⟨y0 :: y1 :: y2 :: t'⟩, rfl, by omega, hcl' hc3, hw', rfl⟩
    show ((cellsOf (.cells ⟨y0 :: y1 :: y2 :: t'⟩ 56)).all (scop1 4) && true) = true
    rw [clean_all (hcl' hc3)]
    rfl
  have hin : i = l.length := by have := of_decide_eq_false h2; omega
  subst hin
  rw [List.take_length, List.drop_length, List.append_nil] at hw3
  refine ⟨rfl, fin_oneB 3 ⟨[_, _, _], rfl⟩ (by simp) rfl hc3 (u := .agg #[I64 (wrapS .i64 (0 - step)), slc 1 0 l.length cp]) ?_ rfl ⟨c3, cp, by rw [List.length_map], rfl, hc3, hw3, by rw [List.length_map]; exact q3⟩⟩
  simp [r3, r2, r1, r0, rA, tau]
theorem Turn29_s (G) (step : Int) {h : List Obj} {m : Nat} (hm : h.length = m) {bs : Value} {l : List Bd} (hs : SlB h bs l) (hn : 1 ≤ l.length) (hl : l.length ≤ 1000000000000) :
    AC Try.prog G 29 [.agg #[I64 step, bs]] h (OwnPost (wrapS .i64 (0 - step)) (l.map negB) m h) :=
  own_lift1 (f := fun l => l.map negB) hm hs hn (fun _ => List.length_map _) fun c t off cap hw hcap => Turn29_r G step c t off cap l hw hcap hn hl
theorem beq_iff' {a b : Int} : (a == b) = true ↔ a = b := by simp
theorem bdeq_iff {x y : Bd} : (x.a == y.a && (x.b == y.b && (x.c == y.c && (x.x == y.x && (x.y == y.y && (x.z == y.z && true)))))) = true ↔ x = y := by
  cases x; cases y; simp [Bd.mk.injEq]
theorem take_eq {l l1 : List Bd} (hlen : l.length = l1.length) {i : Nat} {x y : Bd} (hx : l[i]? = some x) (hy : l1[i]? = some y) (he : l.take i = l1.take i) (hxy : x = y) : l.take (i + 1) = l1.take (i + 1) := by
  have h1 : i < l.length := (List.getElem?_eq_some_iff.1 hx).1
  have h2 : i < l1.length := (List.getElem?_eq_some_iff.1 hy).1
  rw [List.take_succ_eq_append_getElem h1, List.take_succ_eq_append_getElem h2, he, (List.getElem?_eq_some_iff.1 hx).2, (List.getElem?_eq_some_iff.1 hy).2, hxy]
theorem RSame_rr (G) (step step1 : Int) (c0 : Array Value) (t0 : TypeId) (off cap : Nat) (l : List Bd) (hw : WinB c0 off l) (hcap : l.length ≤ cap) (hl : l.length ≤ 1000000000000) (c1 : Array Value) (t1 : TypeId) (off1 cap1 : Nat) (l1 : List Bd) (hw1 : WinB c1 off1 l1) (hcap1 : l1.length ≤ cap1) :
    AC Try.prog G 27 [.agg #[I64 step, slc 0 off l.length cap], .agg #[I64 step1, slc 1 off1 l1.length cap1]] [.pending c0 t0, .pending c1 t1] (fun v h => ∃ b, v = .bool b ∧ (b = true ↔ step = step1 ∧ l = l1) ∧ h = [.pending c0 t0, .pending c1 t1]) := by
  refine ac_of_body tabOk has27 ?_
  unfold BodyOk
  conv => whnf
  refine ways (fun h1 => ?_) (fun h1 => ?_) <;> conv => whnf
  · refine ⟨rfl, fin_turnedK rfl ?_⟩
    conv => whnf
    refine ⟨false, rfl, ⟨fun h => absurd h Bool.false_ne_true, fun h => ?_⟩, rfl⟩
    rw [h.1] at h1
    simp at h1
  have hst : step = step1 := by simpa using h1
  refine ways (fun h2 => ?_) (fun h2 => ?_) <;> conv => whnf
  · refine ⟨rfl, fin_turnedK rfl ?_⟩
    conv => whnf
    refine ⟨false, rfl, ⟨fun h => absurd h Bool.false_ne_true, fun h => ?_⟩, rfl⟩
    rw [h.2] at h2
    simp at h2
  have hlen : l.length = l1.length := by have h3 : (l.length : Int) = (l1.length : Int) := (by simpa using h2); omega
  refine aw_inv tabOk [[false, false, true, true, false, true, false, false, false, false, false, false, false, false, false, false], [false, false, false, false, false, false, false, false, false, false, false, false, false, false, false, false], [false, false, false, false, false, false]] (fun m s' => ∃ (i : Nat), m = l.length - i ∧ i ≤ l.length ∧ l.take i = l1.take i ∧
    s' = ⟨[[.chan none, .chan none, ptr 2 0, ptr 3 0, .chan none, I64 (i : Int), .chan none, .chan none, .chan none, .chan none, .chan none, .chan none, .chan none, .chan none, .chan none, .chan none],
      [.chan none, .chan none, .chan none, .chan none, .chan none, .chan none, .chan none, .chan none, .chan none, .chan none, .chan none, .chan none, .chan none, .chan none, .chan none, .chan none],
      [.chan none, .chan none, .chan none, .chan none, .chan none, .chan none]],
      [.pending c0 t0, .pending c1 t1, .cells #[I64 step, slc 0 off l.length cap] 42, .cells #[I64 step1, slc 1 off1 l1.length cap1] 42], []⟩) l.length ?_ ⟨0, rfl, Nat.zero_le _, rfl, rfl⟩
  rintro m s' ⟨i, rfl, hi, hti, rfl⟩
  conv => whnf
  refine ways (fun h3 => ?_) (fun h3 => ?_) <;> conv => whnf
  · have hlt : i < l.length := by have := of_decide_eq_true h3; omega
    obtain ⟨x, hx⟩ : ∃ x, l[i]? = some x := ⟨_, List.getElem?_eq_getElem hlt⟩
    obtain ⟨y, hy⟩ : ∃ y, l1[i]? = some y := ⟨_, List.getElem?_eq_getElem (by omega)⟩
    refine ad_of tabOk (by kernel_rfl) [(0, false), (1, false), (2, false), (3, false), (4, false), (5, false), (6, false), (7, false), (8, false), (9, false), (10, false)] (by kernel_rfl) ?_
    conv => whnf
    refine way1 (by rw [decide_eq_true_iff]; omega) ?_
    conv => whnf
    refine hw.body hx ?_
    conv => whnf
    refine way1 (by rw [decide_eq_true_iff]; omega) ?_
    conv => whnf
    refine hw1.body hy ?_
    conv => whnf
    refine ways (fun h4 => ?_) (fun h4 => ?_) <;> conv => whnf
    · refine ⟨rfl, fin_turnedK rfl ?_⟩
      conv => whnf
      refine ⟨false, rfl, ⟨fun h => absurd h Bool.false_ne_true, fun h => ?_⟩, rfl⟩
      have : x = y := by
        have h5 := h.2
        subst h5
        rw [hx] at hy
        exact Option.some.inj hy
      rw [bdeq_iff.2 this] at h4
      cases h4
    · have hxy : x = y := bdeq_iff.1 (notT h4)
      rw [show wrapS .i64 ((i : Int) + 1) = ((i + 1 : Nat) : Int) by rw [wrapI (by omega) (by omega)]; omega]
      exact ⟨l.length - (i + 1), by omega, i + 1, rfl, by omega, take_eq hlen hx hy hti hxy, rfl⟩
  have hin : i = l.length := by have := of_decide_eq_false h3; omega
  subst hin
  rw [List.take_length, hlen, List.take_length] at hti
  refine ⟨rfl, fin_turnedK rfl ?_⟩
  conv => whnf
  exact ⟨true, rfl, ⟨fun _ => ⟨hst, hti⟩, fun _ => rfl⟩, rfl⟩
theorem Equal_rr (G) (c0 : Array Value) (t0 : TypeId) (off cap : Nat) (l : List Bd) (hw : WinB c0 off l) (hcap : l.length ≤ cap) (hl : l.length ≤ 1000000000000) (c1 : Array Value) (t1 : TypeId) (off1 cap1 : Nat) (l1 : List Bd) (hw1 : WinB c1 off1 l1) (hcap1 : l1.length ≤ cap1) :
    AC Try.prog G 50 [slc 0 off l.length cap, slc 1 off1 l1.length cap1] [.pending c0 t0, .pending c1 t1] (fun v h => ∃ b, v = .bool b ∧ (b = true ↔ l = l1) ∧ h = [.pending c0 t0, .pending c1 t1]) := by
  refine ac_of_body tabOk has50 ?_
  unfold BodyOk
  conv => whnf
  refine ways (fun h2 => ?_) (fun h2 => ?_) <;> conv => whnf
  · refine ⟨rfl, fin_turnedK rfl ?_⟩
    conv => whnf
    refine ⟨false, rfl, ⟨fun h => absurd h Bool.false_ne_true, fun h => ?_⟩, rfl⟩
    rw [h] at h2
    simp at h2
  have hlen : l.length = l1.length := by have h3 : (l.length : Int) = (l1.length : Int) := (by simpa using h2); omega
  refine aw_inv tabOk [[true, true, false, false, true, false, false, false, false, false, false, false, true, true, false, false], [false, false, false, false, false, false, false, false, false, false]] (fun m s' => ∃ (i : Nat), m = l.length - i ∧ i ≤ l.length ∧ l.take i = l1.take i ∧
    s' = ⟨[[slc 0 off l.length cap, slc 1 off1 l1.length cap1, .chan none, .chan none, .bool false, .chan none, .chan none, .chan none, .chan none, .chan none, .chan none, .chan none, I64 (l.length : Int), I64 (i : Int), .chan none, .chan none],
      [.chan none, .chan none, .chan none, .chan none, .chan none, .chan none, .chan none, .chan none, .chan none, .chan none]],
      [.pending c0 t0, .pending c1 t1], []⟩) l.length ?_ ⟨0, rfl, Nat.zero_le _, rfl, rfl⟩
  rintro m s' ⟨i, rfl, hi, hti, rfl⟩
  conv => whnf
  refine ways (fun h3 => ?_) (fun h3 => ?_) <;> conv => whnf
  · have hlt : i < l.length := by have := of_decide_eq_true h3; omega
    obtain ⟨x, hx⟩ : ∃ x, l[i]? = some x := ⟨_, List.getElem?_eq_getElem hlt⟩
    obtain ⟨y, hy⟩ : ∃ y, l1[i]? = some y := ⟨_, List.getElem?_eq_getElem (by omega)⟩
    refine ad_of tabOk (by kernel_rfl) [(0, false), (1, false), (2, false), (3, false), (4, false), (5, false), (6, false), (7, false), (8, false)] (by kernel_rfl) ?_
    conv => whnf
    refine way1 (by rw [decide_eq_true_iff]; omega) ?_
    conv => whnf
    refine hw.body hx ?_
    conv => whnf
    refine way1 (by rw [decide_eq_true_iff]; omega) ?_
    conv => whnf
    refine hw1.body hy ?_
    conv => whnf
    refine ways (fun h4 => ?_) (fun h4 => ?_) <;> conv => whnf
    · refine ⟨rfl, fin_turnedK rfl ?_⟩
      conv => whnf
      refine ⟨false, rfl, ⟨fun h => absurd h Bool.false_ne_true, fun h => ?_⟩, rfl⟩
      have : x = y := by
        subst h
        rw [hx] at hy
        exact Option.some.inj hy
      rw [bdeq_iff.2 this] at h4
      cases h4
    · have hxy : x = y := bdeq_iff.1 (notT h4)
      rw [show wrapS .i64 ((i : Int) + 1) = ((i + 1 : Nat) : Int) by rw [wrapI (by omega) (by omega)]; omega]
      exact ⟨l.length - (i + 1), by omega, i + 1, rfl, by omega, take_eq hlen hx hy hti hxy, rfl⟩
  have hin : i = l.length := by have := of_decide_eq_false h3; omega
  subst hin
  rw [List.take_length, hlen, List.take_length] at hti
  refine ⟨rfl, fin_turnedK rfl ?_⟩
  conv => whnf
  exact ⟨true, rfl, ⟨fun _ => hti, fun _ => rfl⟩, rfl⟩
theorem Same40_rr (G) (step step1 : Int) (c0 : Array Value) (t0 : TypeId) (off cap : Nat) (l : List Bd) (hw : WinB c0 off l) (hcap : l.length ≤ cap) (hl : l.length ≤ 1000000000000) (c1 : Array Value) (t1 : TypeId) (off1 cap1 : Nat) (l1 : List Bd) (hw1 : WinB c1 off1 l1) (hcap1 : l1.length ≤ cap1) :
    AC Try.prog G 40 [.agg #[I64 step, slc 0 off l.length cap], .agg #[I64 step1, slc 1 off1 l1.length cap1]] [.pending c0 t0, .pending c1 t1] (fun v h => ∃ b, v = .bool b ∧ (b = true ↔ step = step1 ∧ l = l1) ∧ h = [.pending c0 t0, .pending c1 t1]) := by
  refine ac_of_body tabOk has40 ?_
  unfold BodyOk
  conv => whnf
  refine ways (fun h1 => ?_) (fun h1 => ?_) <;> conv => whnf
  rotate_left
  · refine ⟨rfl, fin_turnedK rfl ?_⟩
    conv => whnf
    refine ⟨false, rfl, ⟨fun h => absurd h Bool.false_ne_true, fun h => ?_⟩, rfl⟩
    rw [h.1] at h1
    simp at h1
  have hst : step = step1 := by simpa using h1
  refine ac_readF [0, 1] (Equal_rr G c0 t0 off cap l hw hcap hl c1 t1 off1 cap1 l1 hw1 hcap1) (by simp [r3, r2, r1, r0, rA, nu]) rfl (cold_2 (.inl rfl) (.inl rfl)) ?_
  rintro v h' ⟨b, rfl, hb, rfl⟩
  refine ⟨rfl, rfl, ?_⟩
  conv => whnf
  refine ⟨rfl, fin_turnedK rfl ?_⟩
  conv => whnf
  exact ⟨b, rfl, ⟨fun h => ⟨hst, hb.1 h⟩, fun h => hb.2 h.2⟩, rfl⟩
def RowB (h : List Obj) (v : Value) (l : List Bd) : Prop := ∃ (m off cap : Nat) (c : Array Value) (t : TypeId), v = slc m off l.length cap ∧ (h[m]? = some (.pending c t) ∨ ((∀ x ∈ c.toList, cleanV x = true) ∧ ∃ g, h[m]? = some (.cells c t g))) ∧ WinB c off l ∧ l.length ≤ cap
theorem SlB.row {h : List Obj} {v : Value} {l : List Bd} (H : SlB h v l) (hn : 1 ≤ l.length) : RowB h v l := by
  rcases H with ⟨_, rfl⟩ | H
  · exact absurd hn (by simp)
  · exact H
theorem RSame_s (G) (step step1 : Int) {h : List Obj} {bs bs1 : Value} {l l1 : List Bd} (hs : RowB h bs l) (hs1 : RowB h bs1 l1) (hl : l.length ≤ 1000000000000) :
    AC Try.prog G 27 [.agg #[I64 step, bs], .agg #[I64 step1, bs1]] h (fun v h' => ∃ b, v = .bool b ∧ (b = true ↔ step = step1 ∧ l = l1) ∧ h' = h) := by
  obtain ⟨m, off, cap, c, t, rfl, h2, h4, h5⟩ := hs
  obtain ⟨m1, off1, cap1, c1, t1, rfl, k2, k4, k5⟩ := hs1
  refine ac_readF [m, m1] (RSame_rr G step step1 c t off cap l h4 h5 hl c1 t1 off1 cap1 l1 k4 k5) (by simp [r3, r2, r1, r0, rA, nu]) rfl (cold_2 h2 k2) ?_
  rintro v h' ⟨b, rfl, hb, rfl⟩
  exact ⟨rfl, rfl, b, rfl, hb, rfl⟩
theorem Same40_s (G) (step step1 : Int) {h : List Obj} {bs bs1 : Value} {l l1 : List Bd} (hs : RowB h bs l) (hs1 : RowB h bs1 l1) (hl : l.length ≤ 1000000000000) :
    AC Try.prog G 40 [.agg #[I64 step, bs], .agg #[I64 step1, bs1]] h (fun v h' => ∃ b, v = .bool b ∧ (b = true ↔ step = step1 ∧ l = l1) ∧ h' = h) := by
  obtain ⟨m, off, cap, c, t, rfl, h2, h4, h5⟩ := hs
  obtain ⟨m1, off1, cap1, c1, t1, rfl, k2, k4, k5⟩ := hs1
  refine ac_readF [m, m1] (Same40_rr G step step1 c t off cap l h4 h5 hl c1 t1 off1 cap1 l1 k4 k5) (by simp [r3, r2, r1, r0, rA, nu]) rfl (cold_2 h2 k2) ?_
  rintro v h' ⟨b, rfl, hb, rfl⟩
  exact ⟨rfl, rfl, b, rfl, hb, rfl⟩
end Go.Proofs.Ytjpjnjidchdlbaa
