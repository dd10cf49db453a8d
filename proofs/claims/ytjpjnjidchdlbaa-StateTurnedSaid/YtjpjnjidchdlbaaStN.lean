/-
  StateLeast: what the law computes (no condition).
-/
import Derived.Test.YtjpjnjidchdlbaaStM
namespace Go.Proofs.Ytjpjnjidchdlbaa
set_option linter.unusedSimpArgs false
set_option linter.unusedVariables false
open Go
set_option maxRecDepth 100000
set_option maxHeartbeats 4000000
theorem ok_bad {step : Int} {l : List Bd} (h : okState step l = true) {i : Nat} {x : Bd} (hx : l[i]? = some x) : badB 1048576 65536 x = false := by
  unfold okState at h
  simp only [Bool.and_eq_true, Bool.not_eq_true'] at h
  cases hb : badB 1048576 65536 x with
  | false => rfl
  | true => rw [any_bad hx hb] at h; exact absurd h.2.2.2.2 (by decide)
theorem ok_len {step : Int} {l : List Bd} (h : okState step l = true) : 1 ≤ l.length := by
  unfold okState at h
  simp only [Bool.and_eq_true, decide_eq_true_iff] at h
  omega
theorem good_iff {b : Bd} (h : badB 1048576 65536 b = false) : (-1048576 ≤ b.a ∧ b.a ≤ 1048576) ∧ (-1048576 ≤ b.b ∧ b.b ≤ 1048576) ∧ (-1048576 ≤ b.c ∧ b.c ≤ 1048576) ∧ (-65536 ≤ b.x ∧ b.x ≤ 65536) ∧ (-65536 ≤ b.y ∧ b.y ≤ 65536) ∧ (-65536 ≤ b.z ∧ b.z ≤ 65536) := by
  have := mt (bad_iff b).2 (by rw [h]; decide)
  omega
def farL (x y : Bd) : Int := dot3 (wrapS .i64 (x.a - y.a)) (wrapS .i64 (x.b - y.b)) (wrapS .i64 (x.c - y.c)) (wrapS .i64 (x.a - y.a)) (wrapS .i64 (x.b - y.b)) (wrapS .i64 (x.c - y.c))
theorem okc_of {x : Int} (h1 : -536870912 ≤ x) (h2 : x ≤ 536870912) : okc x = true := by
  unfold okc
  rw [decide_eq_false (by omega), decide_eq_false (by omega)]
  rfl
theorem far_eq {x y : Bd} (hx : badB 1048576 65536 x = false) (hy : badB 1048576 65536 y = false) : farV x y = farL x y := by
  have hx := good_iff hx
  have hy := good_iff hy
  have e1 : wrapS .i64 (x.a - y.a) = x.a - y.a := wrapI (by omega) (by omega)
  have e2 : wrapS .i64 (x.b - y.b) = x.b - y.b := wrapI (by omega) (by omega)
  have e3 : wrapS .i64 (x.c - y.c) = x.c - y.c := wrapI (by omega) (by omega)
  have h6 : ok6 x.a x.b x.c y.a y.b y.c = true := by
    unfold ok6
    rw [okc_of (by omega) (by omega), okc_of (by omega) (by omega), okc_of (by omega) (by omega), okc_of (by omega) (by omega), okc_of (by omega) (by omega), okc_of (by omega) (by omega)]
    rfl
  have h3 : fine3 (x.a - y.a) (x.b - y.b) (x.c - y.c) = true := by
    unfold fine3
    rw [okc_of (by omega) (by omega), okc_of (by omega) (by omega), okc_of (by omega) (by omega)]
    rfl
  have h7 : ok6 (x.a - y.a) (x.b - y.b) (x.c - y.c) (x.a - y.a) (x.b - y.b) (x.c - y.c) = true := by
    unfold ok6
    rw [okc_of (by omega) (by omega), okc_of (by omega) (by omega), okc_of (by omega) (by omega)]
    rfl
  unfold farV farW farL
  rw [e1, e2, e3, h6, h3]
  unfold far2R
  simp only [Bool.and_self, sel, err, pick2, h7]
  rfl
/-- the ways of all pairs, body by body -/
def waysP (l : List Bd) : Nat → List Int
  | 0 => []
  | i + 1 => match l[i]? with
    | some x => waysP l i ++ (l.take i).map (farV x)
    | none => waysP l i
theorem waysP_succ {l : List Bd} {i : Nat} {x : Bd} (hx : l[i]? = some x) : waysP l (i + 1) = waysP l i ++ (l.take i).map (farV x) := by rw [waysP, hx]
theorem waysP_next {l : List Bd} {k : Nat} {x y : Bd} (hy : l[k]? = some y) : (l.take (k + 1)).map (farV x) = (l.take k).map (farV x) ++ [farV x y] := by
  have h1 : k < l.length := (List.getElem?_eq_some_iff.1 hy).1
  rw [List.take_succ_eq_append_getElem h1, (List.getElem?_eq_some_iff.1 hy).2, List.map_append]
  rfl
theorem leastP_ways (l : List Bd) : ∀ i, i ≤ l.length → leastP l i = (waysP l i).foldl stepL (0, false)
  | 0, _ => rfl
  | i + 1, hi => by
    have hx : l[i]? = some l[i] := List.getElem?_eq_getElem (by omega)
    rw [leastP_succ hx, waysP_succ hx, List.foldl_append, leastP_ways l i (by omega)]
    unfold inL
    rw [List.foldl_map]
theorem foldl_step : ∀ (F : List Int) (s : Int × Bool), s.2 = true → (F.foldl stepL s).2 = true ∧ (F.foldl stepL s).1 ≤ s.1 ∧ (∀ f ∈ F, (F.foldl stepL s).1 ≤ f) ∧ ((F.foldl stepL s).1 = s.1 ∨ (F.foldl stepL s).1 ∈ F)
  | [], s, h => ⟨h, Int.le_refl _, fun f hf => (by cases hf), .inl rfl⟩
  | d :: F, s, h => by
    obtain ⟨m, b⟩ := s
    have hb : b = true := h
    subst hb
    by_cases hd : d < m
    · have e : stepL (m, true) d = (d, true) := by unfold stepL; rw [show decide (d < (m, true).1) = true from decide_eq_true hd]; rfl
      obtain ⟨h1, h2, h3, h4⟩ := foldl_step F (d, true) rfl
      rw [List.foldl_cons, e]
      refine ⟨h1, by omega, fun f hf => ?_, ?_⟩
      · rcases List.mem_cons.1 hf with rfl | hf
        · exact h2
        · exact h3 f hf
      · rcases h4 with h4 | h4
        · exact .inr (by rw [h4]; exact List.mem_cons_self)
        · exact .inr (List.mem_cons_of_mem _ h4)
    · have e : stepL (m, true) d = (m, true) := by unfold stepL; rw [show decide (d < (m, true).1) = false from decide_eq_false hd]; rfl
      obtain ⟨h1, h2, h3, h4⟩ := foldl_step F (m, true) rfl
      rw [List.foldl_cons, e]
      have h2' : (F.foldl stepL (m, true)).1 ≤ m := h2
      refine ⟨h1, h2, fun f hf => ?_, ?_⟩
      · rcases List.mem_cons.1 hf with rfl | hf
        · omega
        · exact h3 f hf
      · rcases h4 with h4 | h4
        · exact .inl h4
        · exact .inr (List.mem_cons_of_mem _ h4)
theorem fold_all {F : List Int} (h : F ≠ []) : (F.foldl stepL (0, false)).2 = true ∧ (∀ f ∈ F, (F.foldl stepL (0, false)).1 ≤ f) ∧ (F.foldl stepL (0, false)).1 ∈ F := by
  match F, h with
  | d :: F, _ =>
    have e : stepL (0, false) d = (d, true) := rfl
    obtain ⟨h1, h2, h3, h4⟩ := foldl_step F (d, true) rfl
    rw [List.foldl_cons, e]
    refine ⟨h1, fun f hf => ?_, ?_⟩
    · rcases List.mem_cons.1 hf with rfl | hf
      · exact h2
      · exact h3 f hf
    · rcases h4 with h4 | h4
      · rw [h4]; exact List.mem_cons_self
      · exact List.mem_cons_of_mem _ h4
theorem waysP_ne {l : List Bd} (h : 2 ≤ l.length) : waysP l l.length ≠ [] := by
  obtain ⟨n, hn⟩ : ∃ n, l.length = n + 1 := ⟨l.length - 1, by omega⟩
  have hx : l[n]? = some l[n] := List.getElem?_eq_getElem (by omega)
  rw [hn, waysP_succ hx]
  intro h2
  have h3 := (List.append_eq_nil_iff.1 h2).2
  have h4 := congrArg List.length h3
  rw [List.length_map, List.length_take] at h4
  simp only [List.length_nil] at h4
  omega
theorem waysP_mem {l : List Bd} {i k : Nat} {x y : Bd} (hx : l[i]? = some x) (hy : l[k]? = some y) (hk : k < i) : ∀ n, i < n → n ≤ l.length → farV x y ∈ waysP l n
  | 0, h, _ => absurd h (by omega)
  | n + 1, h, hn => by
    have hz : l[n]? = some l[n] := List.getElem?_eq_getElem (by omega)
    rw [waysP_succ hz]
    by_cases hi : i = n
    · subst hi
      rw [hx] at hz
      obtain rfl := Option.some.inj hz
      refine List.mem_append_right _ (List.mem_map.2 ⟨y, ?_, rfl⟩)
      refine List.mem_of_getElem? (i := k) ?_
      rw [List.getElem?_take, if_pos hk]
      exact hy
    · exact List.mem_append_left _ (waysP_mem hx hy hk n (by omega) (by omega))
theorem leastF_one {step : Int} {l : List Bd} (h : l.length < 2) : leastF step l = (0, false) := by
  unfold leastF
  split
  · match l, h with
    | [], _ => rfl
    | [x], _ => rfl
    | _ :: _ :: t, h => exact absurd h (by simp)
  · rfl
theorem Least10_n (G) (step : Int) : AC Try.prog G 10 [.agg #[I64 step, .slice none 0 0]] [] (fun v h => v = .bool true ∧ h = []) := by
  refine ac_of_body tabOk has10 ?_
  unfold BodyOk
  conv => whnf
  refine ac_mono (Least_s G step (l := []) (.inl ⟨rfl, rfl⟩) (by decide)) ?_
  rintro v h' ⟨rfl, rfl⟩
  rw [leastF_nil]
  conv => whnf
  refine ac_mono (RRight_s G step (l := []) (.inl ⟨rfl, rfl⟩) (by decide)) ?_
  rintro v h' ⟨rfl, rfl⟩
  rw [okState_nil]
  conv => whnf
  refine ac_pure (wakes_c G) rfl ?_
  rintro v h' ⟨rfl, rfl⟩
  refine ⟨rfl, rfl, ?_⟩
  conv => whnf
  refine ⟨rfl, fin_turnedK rfl ?_⟩
  conv => whnf
  exact ⟨rfl, rfl⟩
theorem Least10_r (G) (step : Int) (c0 : Array Value) (t0 : TypeId) (off cap : Nat) (l : List Bd) (hw : WinB c0 off l) (hcap : l.length ≤ cap) : AC Try.prog G 10 [.agg #[I64 step, slc 0 off l.length cap]] [.pending c0 t0] (fun v h => v = .bool true ∧ h = [.pending c0 t0]) := by
  refine ac_of_body tabOk has10 ?_
  unfold BodyOk
  conv => whnf
  refine ways (fun h1 => ?_) (fun h1 => ?_) <;> conv => whnf
  · refine ac_pure (wakes_c G) rfl ?_
    rintro v h' ⟨rfl, rfl⟩
    refine ⟨rfl, rfl, ?_⟩
    conv => whnf
    refine ⟨rfl, fin_turnedK rfl ?_⟩
    conv => whnf
    exact ⟨rfl, rfl⟩
  have hl9 : l.length ≤ 9 := by have := of_decide_eq_false h1; omega
  refine ac_mono (Least_s G step (l := l) (.inr ⟨0, off, cap, c0, t0, rfl, .inl rfl, hw, hcap⟩) (by omega)) ?_
  rintro v h' ⟨rfl, rfl⟩
  conv => whnf
  refine ac_mono (RRight_s G step (l := l) (.inr ⟨0, off, cap, c0, t0, rfl, .inl rfl, hw, hcap⟩) (by omega)) ?_
  rintro v h' ⟨rfl, rfl⟩
  conv => whnf
  refine ways (fun h2 => ?_) (fun h2 => ?_) <;> conv => whnf
  · have e : leastF step l = (0, false) := by
      have h2' : okState step l = false := by simpa using h2
      unfold leastF
      rw [h2']
    rw [e]
    conv => whnf
    refine ac_pure (wakes_c G) rfl ?_
    rintro v h' ⟨rfl, rfl⟩
    refine ⟨rfl, rfl, ?_⟩
    conv => whnf
    refine ⟨rfl, fin_turnedK rfl ?_⟩
    conv => whnf
    exact ⟨rfl, rfl⟩
  have h2 : okState step l = true := by simpa using h2
  refine ways (fun h3 => ?_) (fun h3 => ?_) <;> conv => whnf
  · have e : leastF step l = (0, false) := leastF_one (by have := of_decide_eq_true h3; omega)
    rw [e]
    conv => whnf
    refine ac_pure (wakes_c G) rfl ?_
    rintro v h' ⟨rfl, rfl⟩
    refine ⟨rfl, rfl, ?_⟩
    conv => whnf
    refine ⟨rfl, fin_turnedK rfl ?_⟩
    conv => whnf
    exact ⟨rfl, rfl⟩
  have hl2 : 2 ≤ l.length := by have := of_decide_eq_false h3; omega
  have hF : leastF step l = ((waysP l l.length).foldl stepL (0, false)) := by
    unfold leastF
    rw [h2]
    exact leastP_ways l _ (Nat.le_refl _)
  obtain ⟨g1, g2, g3⟩ := fold_all (waysP_ne hl2)
  rw [← hF] at g1 g2 g3
  obtain ⟨n, hn⟩ : ∃ n, n = (leastF step l).1 := ⟨_, rfl⟩
  rw [← hn] at g2 g3
  rw [← hn, g1]
  refine aw_inv tabOk [[false, true, false, true, true, true, true, false, false, false, false, false, false, false, false, false], [false, false, false, false, false, false, false, false, false, false, false, false, false, false, false, false], [false, false, false, false, false, false, false, false, false, false, false, false, false, false, false, false], [false, false, false, false, false, false, false, false, false, false, false, false, false, false, false, false], [false, false, false, false, false, false, false, false, false, false, false, false, false, false, false, false], [false, false, false, false, false, false, false, false, false, false, false, false, false]] (fun m s' => ∃ (i : Nat) (F : List Int), m = l.length - i ∧ i ≤ l.length ∧ F = waysP l i ∧ s' = ⟨[[.chan none, ptr 1 0, .chan none, I64 n, .bool true, .bool (F.any fun f => f == n), I64 (i : Int), .chan none, .chan none, .chan none, .chan none, .chan none, .chan none, .chan none, .chan none, .chan none],
      [.chan none, .chan none, .chan none, .chan none, .chan none, .chan none, .chan none, .chan none, .chan none, .chan none, .chan none, .chan none, .chan none, .chan none, .chan none, .chan none],
      [.chan none, .chan none, .chan none, .chan none, .chan none, .chan none, .chan none, .chan none, .chan none, .chan none, .chan none, .chan none, .chan none, .chan none, .chan none, .chan none],
      [.chan none, .chan none, .chan none, .chan none, .chan none, .chan none, .chan none, .chan none, .chan none, .chan none, .chan none, .chan none, .chan none, .chan none, .chan none, .chan none],
      [.chan none, .chan none, .chan none, .chan none, .chan none, .chan none, .chan none, .chan none, .chan none, .chan none, .chan none, .chan none, .chan none, .chan none, .chan none, .chan none],
      [.chan none, .chan none, .chan none, .chan none, .chan none, .chan none, .chan none, .chan none, .chan none, .chan none, .chan none, .chan none, .chan none]], [.pending c0 t0, .cells #[I64 step, slc 0 off l.length cap] 42], []⟩) l.length ?_ ⟨0, [], rfl, Nat.zero_le _, rfl, rfl⟩
  rintro m s' ⟨i, F, rfl, hi, hFi, rfl⟩
  conv => whnf
  refine ways (fun h4 => ?_) (fun h4 => ?_) <;> conv => whnf
  · have hlt : i < l.length := by have := of_decide_eq_true h4; omega
    refine exk hlt fun x hx => ?_
    have hib : decide (0 ≤ (i : Int) ∧ (i : Int) < ((l.length : Nat) : Int)) = true := by rw [decide_eq_true_iff]; omega
    refine aw_inv tabOk [[false, true, false, true, true, true, true, true, false, false, false, false, false, false, false, false], [false, false, false, false, false, false, false, false, false, false, false, false, false, false, false, false], [false, false, false, false, false, false, false, false, false, false, false, false, false, false, false, false], [false, false, false, false, false, false, false, false, false, false, false, false, false, false, false, false], [false, false, false, false, false, false, false, false, false, false, false, false, false, false, false, false], [false, false, false, false, false, false, false, false, false, false, false, false, false]] (fun m s' => ∃ (k : Nat) (F : List Int), m = i - k ∧ k ≤ i ∧ F = waysP l i ++ (l.take k).map (farV x) ∧ s' = ⟨[[.chan none, ptr 1 0, .chan none, I64 n, .bool true, .bool (F.any fun f => f == n), I64 (i : Int), I64 (k : Int), .chan none, .chan none, .chan none, .chan none, .chan none, .chan none, .chan none, .chan none],
      [.chan none, .chan none, .chan none, .chan none, .chan none, .chan none, .chan none, .chan none, .chan none, .chan none, .chan none, .chan none, .chan none, .chan none, .chan none, .chan none],
      [.chan none, .chan none, .chan none, .chan none, .chan none, .chan none, .chan none, .chan none, .chan none, .chan none, .chan none, .chan none, .chan none, .chan none, .chan none, .chan none],
      [.chan none, .chan none, .chan none, .chan none, .chan none, .chan none, .chan none, .chan none, .chan none, .chan none, .chan none, .chan none, .chan none, .chan none, .chan none, .chan none],
      [.chan none, .chan none, .chan none, .chan none, .chan none, .chan none, .chan none, .chan none, .chan none, .chan none, .chan none, .chan none, .chan none, .chan none, .chan none, .chan none],
      [.chan none, .chan none, .chan none, .chan none, .chan none, .chan none, .chan none, .chan none, .chan none, .chan none, .chan none, .chan none, .chan none]], [.pending c0 t0, .cells #[I64 step, slc 0 off l.length cap] 42], []⟩) i ?_ ⟨0, F, rfl, Nat.zero_le _, by rw [hFi]; simp, rfl⟩
    clear hFi
    rintro m s' ⟨k, F, rfl, hk, hFk, rfl⟩
    conv => whnf
    refine ways (fun h5 => ?_) (fun h5 => ?_) <;> conv => whnf
    · have hki : k < i := by have := of_decide_eq_true h5; omega
      refine exk (l := l) (i := k) (by omega) fun y hy => ?_
      have hkb : decide (0 ≤ (k : Int) ∧ (k : Int) < ((l.length : Nat) : Int)) = true := by rw [decide_eq_true_iff]; omega
      refine aw_rounds tabOk 4 ?_
      conv => whnf
      refine ad_of tabOk (by kernel_rfl) [(0, false), (1, false), (2, false), (3, false), (4, false), (5, false), (6, false), (7, false), (8, false), (9, false), (10, false), (11, false), (12, false), (13, false), (14, false), (15, false), (16, false), (17, false)] (by kernel_rfl) ?_
      conv => whnf
      refine way1 hib ?_
      conv => whnf
      refine nthK_of (l := c0.toList) (hw.at hx (q := 0) rfl) ?_
      conv => whnf
      refine way1 hkb ?_
      conv => whnf
      refine nthK_of (l := c0.toList) (hw.at hy (q := 0) rfl) ?_
      conv => whnf
      refine ad_of tabOk (by kernel_rfl) [(0, false), (1, false), (2, false), (3, false), (4, false), (5, false), (6, false), (7, false), (8, false), (9, false), (10, false), (11, false), (12, false), (13, false), (14, false), (15, false), (16, false), (17, false)] (by kernel_rfl) ?_
      conv => whnf
      refine way1 hib ?_
      conv => whnf
      refine nthK_of (l := c0.toList) (hw.at hx (q := 1) rfl) ?_
      conv => whnf
      refine way1 hkb ?_
      conv => whnf
      refine nthK_of (l := c0.toList) (hw.at hy (q := 1) rfl) ?_
      conv => whnf
      refine ad_of tabOk (by kernel_rfl) [(0, false), (1, false), (2, false), (3, false), (4, false), (5, false), (6, false), (7, false), (8, false), (9, false), (10, false), (11, false), (12, false), (13, false), (14, false), (15, false), (16, false), (17, false)] (by kernel_rfl) ?_
      conv => whnf
      refine way1 hib ?_
      conv => whnf
      refine nthK_of (l := c0.toList) (hw.at hx (q := 2) rfl) ?_
      conv => whnf
      refine way1 hkb ?_
      conv => whnf
      refine nthK_of (l := c0.toList) (hw.at hy (q := 2) rfl) ?_
      conv => whnf
      have hfar : farL x y = farV x y := (far_eq (ok_bad h2 hx) (ok_bad h2 hy)).symm
      refine ways (fun h6 => ?_) (fun h6 => ?_) <;> conv => whnf
      · have h7 : farL x y < n := of_decide_eq_true h6
        have := g2 _ (waysP_mem hx hy hki l.length hlt (Nat.le_refl _))
        omega
      refine ways (fun h7 => ?_) (fun h7 => ?_) <;> conv => whnf
      · rw [show wrapS .i64 ((k : Int) + 1) = ((k + 1 : Nat) : Int) by rw [wrapI (by omega) (by omega)]; omega]
        refine ⟨i - (k + 1), by omega, k + 1, F ++ [farV x y], rfl, by omega, by rw [hFk, waysP_next hy, List.append_assoc], ?_⟩
        have e : ((F ++ [farV x y]).any fun f => f == n) = true := by rw [List.any_append, h7]; rfl
        rw [e]
        rfl
      · rw [show wrapS .i64 ((k : Int) + 1) = ((k + 1 : Nat) : Int) by rw [wrapI (by omega) (by omega)]; omega]
        refine ⟨i - (k + 1), by omega, k + 1, F ++ [farV x y], rfl, by omega, by rw [hFk, waysP_next hy, List.append_assoc], ?_⟩
        have e : ((F ++ [farV x y]).any fun f => f == n) = (farL x y == n) := by rw [List.any_append, h7, ← hfar]; simp
        rw [e]
        rfl
    · have hin : k = i := by have := of_decide_eq_false h5; omega
      subst hin
      rw [show wrapS .i64 ((k : Int) + 1) = ((k + 1 : Nat) : Int) by rw [wrapI (by omega) (by omega)]; omega]
      exact ⟨l.length - (k + 1), by omega, k + 1, F, rfl, by omega, by rw [hFk, waysP_succ hx], rfl⟩
  · have hin : i = l.length := by have := of_decide_eq_false h4; omega
    subst hin
    have e : (F.any fun f => f == n) = true := by
      rw [hFi]
      exact List.any_eq_true.2 ⟨n, g3, by simp⟩
    rw [e]
    conv => whnf
    refine ac_pure (wakes_c G) rfl ?_
    rintro v h' ⟨rfl, rfl⟩
    refine ⟨rfl, rfl, ?_⟩
    conv => whnf
    refine ⟨rfl, fin_turnedK rfl ?_⟩
    conv => whnf
    exact ⟨rfl, rfl⟩
end Go.Proofs.Ytjpjnjidchdlbaa
