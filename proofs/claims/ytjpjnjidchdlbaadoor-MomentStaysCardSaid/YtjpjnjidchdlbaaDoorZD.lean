import Derived.Test.YtjpjnjidchdlbaaDoorZC
import Derived.Test.YtjpjnjidchdlbaaDoorMomV
import Derived.Test.YtjpjnjidchdlbaaDoorMomI
import Derived.Test.YtjpjnjidchdlbaaDoorMomP
/-
  The kick: all pulls together are nothing (plain Lean).
-/
namespace Go.Proofs.YtjpjnjidchdlbaaDoor
set_option linter.unusedSimpArgs false
set_option linter.unusedVariables false
open Go
set_option maxRecDepth 100000
set_option maxHeartbeats 4000000

theorem okc_iff {x : Int} : okc x = true ↔ (-536870912 ≤ x ∧ x ≤ 536870912) := by
  unfold okc
  simp only [Bool.and_eq_true, Bool.not_eq_true', decide_eq_false_iff_not]
  omega
theorem okc_neg (x : Int) : okc (-x) = okc x := by
  have h : okc (-x) = true ↔ okc x = true := by rw [okc_iff, okc_iff]; omega
  cases h1 : okc x <;> cases h2 : okc (-x) <;> simp [h1, h2] at h ⊢
theorem ok6_turn (a b c x y z : Int) : ok6 x y z a b c = ok6 a b c x y z := by
  unfold ok6
  cases okc a <;> cases okc b <;> cases okc c <;> cases okc x <;> cases okc y <;> cases okc z <;> rfl
theorem ok6_iff {a b c x y z : Int} (h : ok6 a b c x y z = true) : (okc a = true ∧ okc b = true ∧ okc c = true) ∧ okc x = true ∧ okc y = true ∧ okc z = true := by
  unfold ok6 at h
  simp only [Bool.and_eq_true] at h
  exact ⟨⟨h.1, h.2.1, h.2.2.1⟩, h.2.2.2.1, h.2.2.2.2.1, h.2.2.2.2.2⟩
theorem diff_turn {a x : Int} (h1 : okc a = true) (h2 : okc x = true) : wrapS .i64 (x - a) = -(wrapS .i64 (a - x)) := by
  rw [okc_iff] at h1 h2
  rw [wrapI (by omega) (by omega), wrapI (by omega) (by omega)]
  omega
theorem sub_turn (b me : Bd) : subK me.a me.b me.c b.a b.b b.c = subK b.a b.b b.c me.a me.b me.c := by
  unfold subK
  rw [ok6_turn]
  cases h : ok6 b.a b.b b.c me.a me.b me.c with
  | false => rfl
  | true =>
    obtain ⟨⟨h1, h2, h3⟩, h4, h5, h6⟩ := ok6_iff h
    unfold okS
    rw [diff_turn h1 h4, diff_turn h2 h5, diff_turn h3 h6, okc_neg, okc_neg, okc_neg]
theorem sel_low (k : Bool) (x : Int) (h : k = true → okc x = true) : low62 (sel k x) := by
  cases k with
  | false => exact (show low62 0 from ⟨by decide, by decide⟩)
  | true =>
    have := okc_iff.1 (h rfl)
    show low62 x
    exact ⟨by omega, by omega⟩
theorem subK_ok {a b c x y z : Int} (h : subK a b c x y z = true) : ok6 a b c x y z = true ∧ okc (wrapS .i64 (a - x)) = true ∧ okc (wrapS .i64 (b - y)) = true ∧ okc (wrapS .i64 (c - z)) = true := by
  unfold subK okS at h
  simp only [Bool.and_eq_true] at h
  exact ⟨h.1, h.2.1, h.2.2.1, h.2.2.2⟩
/-- the pull of b on me, turned about, is the pull of me on b -/
theorem pullB_turn (g n d m : Int) (b me : Bd) : pullB g n d m me b = ((wrapS .i64 (0 - (pullB g n d m b me).1.1), wrapS .i64 (0 - (pullB g n d m b me).1.2.1), wrapS .i64 (0 - (pullB g n d m b me).1.2.2)), (pullB g n d m b me).2) := by
  unfold pullB
  rw [sub_turn b me]
  have key : ∀ a x : Int, (subK b.a b.b b.c me.a me.b me.c = true → okc a = true ∧ okc x = true) → sel (subK b.a b.b b.c me.a me.b me.c) (wrapS .i64 (x - a)) = -(sel (subK b.a b.b b.c me.a me.b me.c) (wrapS .i64 (a - x))) := by
    intro a x h
    cases hk : subK b.a b.b b.c me.a me.b me.c with
    | false => rfl
    | true => exact diff_turn (h hk).1 (h hk).2
  rw [key b.a me.a (fun h => ⟨(ok6_iff (subK_ok h).1).1.1, (ok6_iff (subK_ok h).1).2.1⟩), key b.b me.b (fun h => ⟨(ok6_iff (subK_ok h).1).1.2.1, (ok6_iff (subK_ok h).1).2.2.1⟩), key b.c me.c (fun h => ⟨(ok6_iff (subK_ok h).1).1.2.2, (ok6_iff (subK_ok h).1).2.2.2⟩)]
  exact pull_odd n d g m (sel_low _ _ fun h => (subK_ok h).2.1) (sel_low _ _ fun h => (subK_ok h).2.2.1) (sel_low _ _ fun h => (subK_ok h).2.2.2)
/-- all pulls on body i, not wrapped -/
def pSum (p : Int × Int × Int → Int) (g n d : Int) (i : Nat) (me : Bd) : Nat → List (Int × Bd) → Int
  | _, [] => 0
  | j, x :: r => (match (((j : Nat) : Int) == ((i : Nat) : Int)) with | true => 0 | false => p (pullB g n d x.1 x.2 me).1) + pSum p g n d i me (j + 1) r
theorem kR_sum (p : Int × Int × Int → Int) (hp : ∀ s t, p (add3 s t) = wrapS .i64 (p s + p t)) (g n d : Int) (i : Nat) (me : Bd) : ∀ (r : List (Int × Bd)) (j : Nat) (s : Int × Int × Int), (kR g n d i me j r s).2 = 0 →
    (18446744073709551616 : Int) ∣ p (kR g n d i me j r s).1 - (p s + pSum p g n d i me j r)
  | [], j, s, _ => by
    show (18446744073709551616 : Int) ∣ p s - (p s + 0)
    omega
  | x :: r, j, s, h => by
    unfold kR at h ⊢
    unfold pSum
    cases h1 : (((j : Nat) : Int) == ((i : Nat) : Int)) with
    | true =>
      rw [h1] at h
      have := kR_sum p hp g n d i me r (j + 1) s h
      show (18446744073709551616 : Int) ∣ p (kR g n d i me (j + 1) r s).1 - (p s + (0 + pSum p g n d i me (j + 1) r))
      omega
    | false =>
      rw [h1] at h
      cases h2 : !((pullB g n d x.1 x.2 me).2 == 0) with
      | true =>
        simp only [h2] at h
        have h3 : (pullB g n d x.1 x.2 me).2 ≠ 0 := by simpa using h2
        exact absurd h h3
      | false =>
        simp only [h2] at h
        have := kR_sum p hp g n d i me r (j + 1) _ h
        rw [hp] at this
        have h4 := wr_dvd (p s + p (pullB g n d x.1 x.2 me).1)
        show (18446744073709551616 : Int) ∣ p (kR g n d i me (j + 1) r (add3 s (pullB g n d x.1 x.2 me).1)).1 - (p s + (p (pullB g n d x.1 x.2 me).1 + pSum p g n d i me (j + 1) r))
        omega
end Go.Proofs.YtjpjnjidchdlbaaDoor

/-
  The way of one body (no condition).
-/
namespace Go.Proofs.YtjpjnjidchdlbaaDoor
set_option linter.unusedSimpArgs false
set_option linter.unusedVariables false
open Go
set_option maxRecDepth 100000
set_option maxHeartbeats 4000000
theorem has93 : Has Tryd.prog 93 Tryd.f93 := ⟨Tryd.func93, by kernel_rfl, by kernel_rfl⟩
theorem has80 : Has Tryd.prog 80 Tryd.f80 := ⟨Tryd.func80, by kernel_rfl, by kernel_rfl⟩
theorem has72 : Has Tryd.prog 72 Tryd.f72 := ⟨Tryd.func72, by kernel_rfl, by kernel_rfl⟩
theorem Ints_n (G) {a b c : Int} (ha : in64 a) (hb : in64 b) (hc : 1 ≤ c ∧ c ≤ 2097152) : AC Tryd.prog G 93 [I64 a, I64 b, I64 c] [] (fun v h => (∃ x e : Int, v = .tuple #[I64 x, I64 e]) ∧ h = []) := by
  have hoc : ofN c = c.toNat := ofN_p (by omega)
  refine ac_of_body tabOk has93 ?_
  unfold BodyOk
  conv => whnf
  refine ac_pure (Of_n G (i := a) ha.1 ha.2) rfl ?_
  rintro v h' ⟨rfl, rfl⟩
  refine ⟨rfl, rfl, ?_⟩
  conv => whnf
  refine ac_pure (Of_n G (i := b) hb.1 hb.2) rfl ?_
  rintro v h' ⟨rfl, rfl⟩
  refine ⟨rfl, rfl, ?_⟩
  conv => whnf
  refine ac_pure (Mul_n G (ofN_lt ha.2) (ofN_lt hb.2)) rfl ?_
  rintro v h' ⟨rfl, rfl⟩
  refine ⟨rfl, rfl, ?_⟩
  conv => whnf
  refine ad_of tabOk (by kernel_rfl) [(7, false), (0, false), (1, false), (2, false), (3, false), (4, false), (5, false), (6, false), (8, false), (9, false)] (by kernel_rfl) ?_
  conv => whnf
  refine quiet_of (Of_n G (i := c) (by omega) (by omega)) rfl ?_
  rintro v h' ⟨rfl, rfl⟩
  refine ⟨rfl, rfl, ?_⟩
  conv => whnf
  refine quiet_of (Near_n G (a := (mulN (ofN a) (ofN b))) (b := ofN c) (mulN_lt _ _) (by rw [hoc]; omega) (by rw [hoc]; omega)) rfl ?_
  rintro v h' ⟨rfl, rfl⟩
  refine ⟨rfl, rfl, ?_⟩
  conv => whnf
  refine ⟨⟨.inl rfl, trivial⟩, ?_⟩
  conv => whnf
  refine ways (fun h1 => ?_) (fun h1 => ?_) <;> conv => whnf
  · skip
    refine ⟨rfl, fin_turnedK rfl ?_⟩
    conv => whnf
    exact ⟨⟨_, _, rfl⟩, rfl⟩
  refine ac_pure (Int_n G (nearN (mulN (ofN a) (ofN b)) (ofN c)).1) rfl ?_
  rintro v h' ⟨rfl, rfl⟩
  refine ⟨rfl, rfl, ?_⟩
  conv => whnf
  refine ways (fun h2 => ?_) (fun h2 => ?_) <;> conv => whnf
  · skip
    refine ⟨rfl, fin_turnedK rfl ?_⟩
    conv => whnf
    exact ⟨⟨_, _, rfl⟩, rfl⟩
  refine ⟨rfl, fin_turnedK rfl ?_⟩
  conv => whnf
  exact ⟨⟨_, _, rfl⟩, rfl⟩
theorem One15_n (G) {x n d : Int} (hp : partB n d = true) : AC Tryd.prog G 80 [I64 x, I64 n, I64 d] [] (fun v h => (∃ y e : Int, v = .tuple #[I64 y, I64 e]) ∧ h = []) := by
  obtain ⟨hn, hd1, hd2, _, _⟩ := part_in hp
  refine ac_of_body tabOk has80 ?_
  unfold BodyOk
  conv => whnf
  refine ac_pure (part38_n G n d) rfl ?_
  rintro v h' ⟨rfl, rfl⟩
  refine ⟨rfl, rfl, ?_⟩
  conv => whnf
  rw [hp]
  conv => whnf
  refine ways (fun h1 => ?_) (fun h1 => ?_) <;> conv => whnf
  · skip
    refine ⟨rfl, fin_turnedK rfl ?_⟩
    conv => whnf
    exact ⟨⟨_, _, rfl⟩, rfl⟩
  refine ways (fun h2 => ?_) (fun h2 => ?_) <;> conv => whnf
  · skip
    refine ⟨rfl, fin_turnedK rfl ?_⟩
    conv => whnf
    exact ⟨⟨_, _, rfl⟩, rfl⟩
  have h1' := of_decide_eq_false h1
  have h2' := of_decide_eq_false h2
  refine ac_pure (Ints_n G (a := n) (b := x) (c := d) hn ⟨by omega, by omega⟩ ⟨hd1, hd2⟩) rfl ?_
  rintro v h' ⟨⟨y, e, rfl⟩, rfl⟩
  refine ⟨rfl, rfl, ?_⟩
  conv => whnf
  refine ⟨rfl, fin_turnedK rfl ?_⟩
  conv => whnf
  exact ⟨⟨_, _, rfl⟩, rfl⟩
theorem Way_n (G) {x y z n d : Int} (hp : partB n d = true) : AC Tryd.prog G 72 [V3 x y z, I64 n, I64 d] [] (fun v h => (∃ a b c e : Int, v = .tuple #[V3 a b c, I64 e]) ∧ h = []) := by
  refine ac_of_body tabOk has72 ?_
  unfold BodyOk
  conv => whnf
  refine aw_rounds tabOk 4 ?_
  conv => whnf
  refine ac_pure (One15_n G (x := x) hp) rfl ?_
  rintro v h' ⟨⟨y0, e0, rfl⟩, rfl⟩
  refine ⟨rfl, rfl, ?_⟩
  conv => whnf
  refine ways (fun h0 => ?_) (fun h0 => ?_) <;> conv => whnf
  · skip
    refine ⟨rfl, fin_turnedK rfl ?_⟩
    conv => whnf
    exact ⟨⟨_, _, _, _, rfl⟩, rfl⟩
  refine ac_pure (One15_n G (x := y) hp) rfl ?_
  rintro v h' ⟨⟨y1, e1, rfl⟩, rfl⟩
  refine ⟨rfl, rfl, ?_⟩
  conv => whnf
  refine ways (fun h1 => ?_) (fun h1 => ?_) <;> conv => whnf
  · skip
    refine ⟨rfl, fin_turnedK rfl ?_⟩
    conv => whnf
    exact ⟨⟨_, _, _, _, rfl⟩, rfl⟩
  refine ac_pure (One15_n G (x := z) hp) rfl ?_
  rintro v h' ⟨⟨y2, e2, rfl⟩, rfl⟩
  refine ⟨rfl, rfl, ?_⟩
  conv => whnf
  refine ways (fun h2 => ?_) (fun h2 => ?_) <;> conv => whnf
  · skip
    refine ⟨rfl, fin_turnedK rfl ?_⟩
    conv => whnf
    exact ⟨⟨_, _, _, _, rfl⟩, rfl⟩
  refine ⟨rfl, fin_turnedK rfl ?_⟩
  conv => whnf
  exact ⟨⟨_, _, _, _, rfl⟩, rfl⟩
end Go.Proofs.YtjpjnjidchdlbaaDoor

/-
  The ways of all bodies (no condition).
-/
namespace Go.Proofs.YtjpjnjidchdlbaaDoor
set_option linter.unusedSimpArgs false
set_option linter.unusedVariables false
open Go
set_option maxRecDepth 100000
set_option maxHeartbeats 4000000
theorem has61 : Has Tryd.prog 61 Tryd.f61 := ⟨Tryd.func61, by kernel_rfl, by kernel_rfl⟩
theorem Ways_r (G : List (Nat × Obj)) (c1 : Array Value) (t1 : TypeId) (off1 cap1 : Nat) (bl : List Bd) (hw1 : WinB c1 off1 bl) (hcap1 : bl.length ≤ cap1) (step n d : Int) (hok : okState step bl = true) (hpart : partB n d = true) :
    AC Tryd.prog G 61 [.agg #[I64 step, (slc 0 off1 bl.length cap1)], I64 n, I64 d] [.pending c1 t1] (RowPost (fun _ => True) bl.length 1 [.pending c1 t1]) := by
  have hl4 : bl.length ≤ 4 ∧ 1 ≤ bl.length := by
    unfold okState at hok
    simp only [Bool.and_eq_true, decide_eq_true_eq] at hok
    exact ⟨hok.2.2.2.1, hok.2.2.1⟩
  refine ac_of_body tabOk has61 ?_
  unfold BodyOk
  conv => whnf
  refine ac_mono (RRightU_s G step (l := bl) (h := [.pending c1 t1, .cells #[I64 step, (slc 0 off1 bl.length cap1)] 42]) (.inr ⟨0, off1, cap1, c1, t1, rfl, .inl rfl, hw1, hcap1⟩)) ?_
  rintro v h' ⟨rfl, rfl⟩
  conv => whnf
  rw [hok]
  conv => whnf
  refine ac_pure (part38_n G n d) rfl ?_
  rintro v h' ⟨rfl, rfl⟩
  refine ⟨rfl, rfl, ?_⟩
  conv => whnf
  rw [hpart]
  conv => whnf
  refine aw_inv tabOk [[false, true, true, true, false, false, false, false, true, true, false, false, false, false, false, false], [false, false, false, false, false, false, false, false, false, false, false, false, false, false, false, false], [false, false, false, false, false, false, false, false, false, false, false, false, false]] (fun m s' => ∃ (i : Nat) (acc : List Vc) (w : Value) (news : List Obj), m = bl.length - i ∧ i ≤ bl.length ∧ acc.length = i ∧ AccVT 2 news w acc ∧
    s' = ⟨[[.chan none, I64 n, I64 d, ptr 1 0, .chan none, .chan none, .chan none, .chan none, w, I64 (i : Int), .chan none, .chan none, .chan none, .chan none, .chan none, .chan none],
      [.chan none, .chan none, .chan none, .chan none, .chan none, .chan none, .chan none, .chan none, .chan none, .chan none, .chan none, .chan none, .chan none, .chan none, .chan none, .chan none],
      [.chan none, .chan none, .chan none, .chan none, .chan none, .chan none, .chan none, .chan none, .chan none, .chan none, .chan none, .chan none, .chan none]],
      (.pending c1 t1) :: (.cells #[I64 step, (slc 0 off1 bl.length cap1)] 42) :: news, []⟩) bl.length ?_ ⟨0, [], .slice none 0 0, [], rfl, Nat.zero_le _, rfl, .inl ⟨rfl, rfl⟩, rfl⟩
  rintro m s' ⟨i, acc, w, news, rfl, hi, hal, hV, rfl⟩
  have hV' := hV
  rcases hV with ⟨rfl, rfl⟩ | ⟨q, cp, rfl, hB⟩
  · skip
    conv => whnf
    refine ways (fun h1 => ?_) (fun h1 => ?_) <;> conv => whnf
    · have hib : i < bl.length := by have := of_decide_eq_true h1; omega
      obtain ⟨bi, hi'⟩ : ∃ x, bl[i]? = some x := ⟨_, List.getElem?_eq_getElem hib⟩
      refine way1 (by rw [decide_eq_true_iff]; omega) ?_
      conv => whnf
      refine hw1.part hi' (q := 3) (by decide) ?_
      conv => whnf
      refine ac_pure (Way_n G (x := bi.x) (y := bi.y) (z := bi.z) hpart) rfl ?_
      rintro v h' ⟨⟨p, q0, r, e, rfl⟩, rfl⟩
      refine ⟨rfl, rfl, ?_⟩
      conv => whnf
      refine cnt_of ?_
      conv => whnf
      refine app_of ?_
      conv => whnf
      refine nthK_of lastL ?_
      conv => whnf
      refine write_last ?_
      conv => whnf
      refine nthK_of lastL ?_
      conv => whnf
      refine cnt_of ?_
      conv => whnf
      refine app_of ?_
      conv => whnf
      refine ao_pushBT (m := 2) rfl [_, _] rfl (b := ⟨p, q0, r⟩) (hV'.app [_]) rfl (by (conv => whnf) <;> rfl) (by (conv => whnf) <;> rfl) (by simp only [List.length_nil]; omega) ?_
      intro news' q' cp' hA'
      conv => whnf
      rw [show wrapS .i64 ((i : Int) + 1) = ((i + 1 : Nat) : Int) from by rw [wrapI (by omega) (by omega)]; omega]
      exact ⟨bl.length - (i + 1), by omega, i + 1, _, _, news', rfl, by omega, by rw [List.length_append, hal]; rfl, .inr ⟨q', cp', rfl, hA'⟩, rfl⟩
    · have e : i = bl.length := by have := of_decide_eq_false h1; omega
      rw [List.length_nil] at hal
      omega
  · skip
    conv => whnf
    refine ways (fun h1 => ?_) (fun h1 => ?_) <;> conv => whnf
    · have hib : i < bl.length := by have := of_decide_eq_true h1; omega
      obtain ⟨bi, hi'⟩ : ∃ x, bl[i]? = some x := ⟨_, List.getElem?_eq_getElem hib⟩
      refine way1 (by rw [decide_eq_true_iff]; omega) ?_
      conv => whnf
      refine hw1.part hi' (q := 3) (by decide) ?_
      conv => whnf
      refine ac_pure (Way_n G (x := bi.x) (y := bi.y) (z := bi.z) hpart) rfl ?_
      rintro v h' ⟨⟨p, q0, r, e, rfl⟩, rfl⟩
      refine ⟨rfl, rfl, ?_⟩
      conv => whnf
      refine cnt_of ?_
      conv => whnf
      refine app_of ?_
      conv => whnf
      refine nthK_of lastL ?_
      conv => whnf
      refine write_last ?_
      conv => whnf
      refine nthK_of lastL ?_
      conv => whnf
      refine cnt_of ?_
      conv => whnf
      refine app_of ?_
      conv => whnf
      refine ao_pushBT (m := 2) rfl [_, _] rfl (b := ⟨p, q0, r⟩) (hV'.app [_]) rfl (by (conv => whnf) <;> rfl) (by (conv => whnf) <;> rfl) (by omega) ?_
      intro news' q' cp' hA'
      conv => whnf
      rw [show wrapS .i64 ((i : Int) + 1) = ((i + 1 : Nat) : Int) from by rw [wrapI (by omega) (by omega)]; omega]
      exact ⟨bl.length - (i + 1), by omega, i + 1, _, _, news', rfl, by omega, by rw [List.length_append, hal]; rfl, .inr ⟨q', cp', rfl, hA'⟩, rfl⟩
    · have e : i = bl.length := by have := of_decide_eq_false h1; omega
      subst e
      obtain ⟨hpos, rest, hq, hr, hrc⟩ := hB
      have hcl : ∀ x ∈ (⟨flatBT acc ++ rest⟩ : Array Value).toList, cleanV x = true := fun x hx => by
        rcases List.mem_append.1 hx with hx | hx
        · exact flatBT_clean acc x hx
        · exact hrc x hx
      refine ⟨rfl, fin_oneB (q + 2) ⟨_, rfl⟩ (by show 1 ≤ q + 2; omega) (show news[q]? = _ from hq) hcl (u := .tuple #[slc 1 0 acc.length cp, I64 0]) ?_ rfl (.inr ⟨acc, _, cp, trivial, hal, by rw [hal], rfl, hcl, winT_own, by omega⟩)⟩
      simp [r3, r2, r1, r0, rA, tau, c2]
theorem Ways_s (G) {h : List Obj} {m0 : Nat} (hm0 : h.length = m0) {bs : Value} {bl : List Bd} (hb : SlB h bs bl) (step n d : Int) (hok : okState step bl = true) (hpart : partB n d = true) :
    AC Tryd.prog G 61 [.agg #[I64 step, bs], I64 n, I64 d] h (RowPost (fun _ => True) bl.length m0 h) := by
  rcases hb with ⟨rfl, rfl⟩ | ⟨m1, off1, cap1, c1, t1, rfl, k2, k4, k5⟩
  · rw [okState_nil] at hok; cases hok
  · refine row_lift hm0 [m1] (Ways_r G c1 t1 off1 cap1 bl k4 k5 step n d hok hpart) rfl (by simp [r3, r2, r1, r0, rA, nu]) (fun v hv => ?_) (cold_p k2)
    refine (scop3_ok (List.all_eq_true.1 (?_ : List.all _ (scop3 1) = true) v hv)).1
    rfl
end Go.Proofs.YtjpjnjidchdlbaaDoor

/-
  The drift (no condition).
-/
namespace Go.Proofs.YtjpjnjidchdlbaaDoor
set_option linter.unusedSimpArgs false
set_option linter.unusedVariables false
open Go
set_option maxRecDepth 100000
set_option maxHeartbeats 4000000
theorem has39 : Has Tryd.prog 39 Tryd.f39 := ⟨Tryd.func39, by kernel_rfl, by kernel_rfl⟩
theorem rv_win (n x : Int) : rwin n x = vwin n x := by
  unfold rwin vwin
  rw [Bool.and_comm (!(decide (x > n)))]
def dDone (bl bl' : List Bd) : Prop := ∀ (j : Nat) (bj : Bd), bl[j]? = some bj → ∃ a b c : Int, bl'[j]? = some ⟨a, b, c, bj.x, bj.y, bj.z⟩
theorem okState_drift {step : Int} {bl bl' : List Bd} (h : okState step bl = true) (hl : bl'.length = bl.length) (hd : ∀ (j : Nat) (bj : Bd), bl[j]? = some bj → ∃ a b c : Int, bl'[j]? = some ⟨a, b, c, bj.x, bj.y, bj.z⟩ ∧ vwin3 1048576 a b c = true) : okState step bl' = true := by
  unfold okState at *
  rw [hl]
  simp only [Bool.and_eq_true, decide_eq_true_eq, Bool.not_eq_true'] at *
  refine ⟨h.1, h.2.1, h.2.2.1, h.2.2.2.1, ?_⟩
  have h5 := h.2.2.2.2
  rw [List.any_eq_false] at *
  intro b' hb'
  obtain ⟨j, hj, he⟩ := List.mem_iff_getElem.1 hb'
  obtain ⟨bj, hbj⟩ : ∃ x, bl[j]? = some x := ⟨_, List.getElem?_eq_getElem (by omega)⟩
  obtain ⟨a, b, c, e, hv⟩ := hd j bj hbj
  have e2 : b' = ⟨a, b, c, bj.x, bj.y, bj.z⟩ := by
    rw [List.getElem?_eq_getElem hj, he] at e
    exact Option.some.inj e
  have h6 := h5 bj (List.mem_of_getElem? hbj)
  subst e2
  unfold badB at *
  show ¬ ((!vwin3 1048576 a b c || !vwin3 65536 bj.x bj.y bj.z) = true)
  rw [hv]
  cases h7 : vwin3 65536 bj.x bj.y bj.z with
  | true => decide
  | false => rw [h7] at h6; simp at h6
theorem Drift_r (G : List (Nat × Obj)) (c1 : Array Value) (t1 : TypeId) (off1 cap1 : Nat) (bl : List Bd) (hw1 : WinB c1 off1 bl) (hcap1 : bl.length ≤ cap1) (step n d : Int) (hok : okState step bl = true) (hpart : partB n d = true) :
    AC Tryd.prog G 39 [.agg #[I64 step, (slc 0 off1 bl.length cap1)], I64 n, I64 d] [.pending c1 t1] (KickPost step (dDone bl) bl.length 1 [.pending c1 t1]) := by
  have hl4 : bl.length ≤ 4 ∧ 1 ≤ bl.length := by
    unfold okState at hok
    simp only [Bool.and_eq_true, decide_eq_true_eq] at hok
    exact ⟨hok.2.2.2.1, hok.2.2.1⟩
  refine ac_of_body tabOk has39 ?_
  unfold BodyOk
  conv => whnf
  refine ac_mono (Ways_s G (bl := bl) (h := [.pending c1 t1, .cells #[I64 step, (slc 0 off1 bl.length cap1)] 42, .cells #[I64 0, .slice none 0 0] 42]) (m0 := 3) rfl (.inr ⟨0, off1, cap1, c1, t1, rfl, .inl rfl, hw1, hcap1⟩) step n d hok hpart) ?_
  rintro v h' (⟨e, he, rfl, rfl⟩ | ⟨vs, cr, cpr, -, hvl, rfl, rfl, w1, hT, w3⟩)
  · conv => whnf
    refine way1 (by simpa using he) ?_
    conv => whnf
    refine ac_mono (OwnS_s G step (h := [.pending c1 t1, .cells #[I64 step, (slc 0 off1 bl.length cap1)] 42, .cells #[I64 0, .slice none 0 0] 42]) (m := 3) (l := bl) rfl (.inr ⟨0, off1, cap1, c1, t1, rfl, .inl rfl, hw1, hcap1⟩) (by omega)) ?_
    rintro v h' ⟨c5, cp5, rfl, rfl, q1, q2, q3⟩
    conv => whnf
    refine ⟨rfl, fin_oneB 3 ⟨_, rfl⟩ (by simp) rfl q1 (u := .tuple #[.agg #[I64 step, slc 1 0 bl.length cp5], I64 e]) ?_ rfl ⟨bl, c5, cp5, e, rfl, rfl, q1, q2, rfl, q3, fun h => absurd h he⟩⟩
    simp [r3, r2, r1, r0, rA, tau]
  conv => whnf
  refine ac_mono (OwnS_s G step (h := [.pending c1 t1, .cells #[I64 step, (slc 0 off1 bl.length cap1)] 42, .cells #[I64 0, .slice none 0 0] 42, .cells cr 59]) (m := 4) (l := bl) rfl (.inr ⟨0, off1, cap1, c1, t1, rfl, .inl rfl, hw1, hcap1⟩) (by omega)) ?_
  rintro v h' ⟨c, cp, rfl, rfl, q1, q2, q3⟩
  conv => whnf
  refine aw_invT tabOk [[false, false, false, true, false, false, true, false, true, false, true, true, false, false, false, false], [false, false, false, false, false, false, false, false, false, false, false, false, false, false, false, false], [false, false, false, false, false, false, false, false, false, false, false, false, false, false, false, false], [false, false, false, false, false, false, false, false, false, false, false, false, false, false, false, false], [false, false, false, false, false, false, false, false, false, false, false, false, false, false, false, false]] (fun m s' => ∃ (i : Nat) (c3 : Array Value) (bl' : List Bd), m = bl.length - i ∧ i ≤ bl.length ∧ (∀ x ∈ c3.toList, cleanV x = true) ∧ WinB c3 0 bl' ∧ bl'.length = bl.length ∧
    (∀ (j : Nat) (bj : Bd), bl[j]? = some bj → (j < i → ∃ a b c : Int, bl'[j]? = some ⟨a, b, c, bj.x, bj.y, bj.z⟩ ∧ vwin3 1048576 a b c = true) ∧ (i ≤ j → bl'[j]? = some bj)) ∧
    s' = ⟨[[.chan none, .chan none, .chan none, ptr 1 0, .chan none, .chan none, ptr 2 0, .chan none, slc 3 0 bl.length cpr, .chan none, ptr 5 0, I64 (i : Int), .chan none, .chan none, .chan none, .chan none],
      [.chan none, .chan none, .chan none, .chan none, .chan none, .chan none, .chan none, .chan none, .chan none, .chan none, .chan none, .chan none, .chan none, .chan none, .chan none, .chan none],
      [.chan none, .chan none, .chan none, .chan none, .chan none, .chan none, .chan none, .chan none, .chan none, .chan none, .chan none, .chan none, .chan none, .chan none, .chan none, .chan none],
      [.chan none, .chan none, .chan none, .chan none, .chan none, .chan none, .chan none, .chan none, .chan none, .chan none, .chan none, .chan none, .chan none, .chan none, .chan none, .chan none],
      [.chan none, .chan none, .chan none, .chan none, .chan none, .chan none, .chan none, .chan none, .chan none, .chan none, .chan none, .chan none, .chan none, .chan none, .chan none, .chan none]],
      [.pending c1 t1, .cells #[I64 step, (slc 0 off1 bl.length cap1)] 42, .cells #[I64 0, .slice none 0 0] 42, .cells cr 59, .cells c3 61, .cells #[I64 step, slc 4 0 bl.length cp] 42], []⟩) bl.length ?_ ⟨0, c, bl, rfl, Nat.zero_le _, q1, q2, rfl, fun j bj hb => ⟨fun h => absurd h (Nat.not_lt_zero j), fun _ => hb⟩, rfl⟩
  rintro m s' ⟨i, c3, bl', rfl, hi, hc3, hw3, hbl, hst, rfl⟩
  conv => whnf
  refine ways (fun h1 => ?_) (fun h1 => ?_) <;> conv => whnf
  · have hlt : i < bl.length := by have := of_decide_eq_true h1; omega
    obtain ⟨bi, hi'⟩ : ∃ x, bl[i]? = some x := ⟨_, List.getElem?_eq_getElem hlt⟩
    have hbi : bl'[i]? = some bi := (hst i bi hi').2 (Nat.le_refl i)
    obtain ⟨vi, hvi⟩ : ∃ v, vs[i]? = some v := ⟨_, List.getElem?_eq_getElem (by omega)⟩
    have hib : decide (0 ≤ (i : Int) ∧ (i : Int) < ((bl.length : Nat) : Int)) = true := by rw [decide_eq_true_iff]; omega
    refine way1 hib ?_
    conv => whnf
    refine hw3.part hbi (q := 0) (by decide) ?_
    conv => whnf
    refine ad_of tabOk (by kernel_rfl) [(0, false), (1, false), (2, false), (3, false), (4, false), (5, false), (6, false), (7, false), (8, false), (9, false), (10, false), (11, false), (12, false), (13, false), (14, false), (15, false), (16, false), (17, false), (18, false), (19, false), (20, false), (21, false), (22, false), (23, false), (24, false), (25, false), (26, false), (27, false), (28, false), (29, false), (30, true)] (by kernel_rfl) ?_
    conv => whnf
    refine way1 hib ?_
    conv => whnf
    refine nthK_of (hT.at hvi (q := 0) rfl) ?_
    conv => whnf
    refine way1 hib ?_
    conv => whnf
    refine nthK_of (hT.at hvi (q := 1) rfl) ?_
    conv => whnf
    refine way1 hib ?_
    conv => whnf
    refine nthK_of (hT.at hvi (q := 2) rfl) ?_
    conv => whnf
    refine way1 hib ?_
    conv => whnf
    refine write_bd (q := 0) (b' := (⟨wrapS .i64 (bi.a + vi.x), wrapS .i64 (bi.b + vi.y), wrapS .i64 (bi.c + vi.z), bi.x, bi.y, bi.z⟩ : Bd)) (vs := [I64 (wrapS .i64 (bi.a + vi.x)), I64 (wrapS .i64 (bi.b + vi.y)), I64 (wrapS .i64 (bi.c + vi.z))]) hw3 hbi (by simp) (by simp [cleanV]) (fun j hj => ?_) (fun j hj ho => ?_) ?_
    · match j, hj with
      | 0, _ => rfl
      | 1, _ => rfl
      | 2, _ => rfl
    · match j, hj, ho with
      | 0, _, ho => exfalso; simp at ho
      | 1, _, ho => exfalso; simp at ho
      | 2, _, ho => exfalso; simp at ho
      | 3, _, _ => rfl
      | 4, _, _ => rfl
      | 5, _, _ => rfl
    intro c4 hcc4 hw4
    have hc4 := hcc4 hc3
    have hb4 : (bl'.set i (⟨wrapS .i64 (bi.a + vi.x), wrapS .i64 (bi.b + vi.y), wrapS .i64 (bi.c + vi.z), bi.x, bi.y, bi.z⟩ : Bd))[i]? = some (⟨wrapS .i64 (bi.a + vi.x), wrapS .i64 (bi.b + vi.y), wrapS .i64 (bi.c + vi.z), bi.x, bi.y, bi.z⟩ : Bd) := List.getElem?_set_self (by omega)
    conv => whnf
    refine way1 hib ?_
    conv => whnf
    refine hw4.part hb4 (q := 0) (by decide) ?_
    conv => whnf
    refine ac_pure (Within_c G (wrapS .i64 (bi.a + vi.x)) (wrapS .i64 (bi.b + vi.y)) (wrapS .i64 (bi.c + vi.z)) 1048576) rfl ?_
    rintro v h' ⟨rfl, rfl⟩
    refine ⟨rfl, rfl, ?_⟩
    conv => whnf
    refine ways (fun h3 => ?_) (fun h3 => ?_) <;> conv => whnf
    · skip
      refine ac_mono (OwnS_s G step (h := [.pending c1 t1, .cells #[I64 step, (slc 0 off1 bl.length cap1)] 42, .cells #[I64 0, .slice none 0 0] 42, .cells cr 59, .cells c4 61, .cells #[I64 step, slc 4 0 bl.length cp] 42, .cells #[I64 bi.a, I64 bi.b, I64 bi.c] 59]) (m := 7) (l := bl) rfl (.inr ⟨0, off1, cap1, c1, t1, rfl, .inl rfl, hw1, hcap1⟩) (by omega)) ?_
      rintro v h' ⟨c5, cp5, rfl, rfl, p1, p2, p3⟩
      conv => whnf
      refine ⟨rfl, fin_oneB 7 ⟨_, rfl⟩ (by simp) rfl p1 (u := .tuple #[.agg #[I64 step, slc 1 0 bl.length cp5], I64 20]) ?_ rfl ⟨bl, c5, cp5, 20, rfl, rfl, p1, p2, rfl, p3, fun h => absurd h (by decide)⟩⟩
      simp [r3, r2, r1, r0, rA, tau]
    rw [show wrapS .i64 ((i : Int) + 1) = ((i + 1 : Nat) : Int) from by rw [wrapI (by omega) (by omega)]; omega]
    refine ⟨?_, rfl, rfl, rfl, bl.length - (i + 1), by omega, i + 1, c4, _, rfl, by omega, hc4, hw4, by simp only [List.length_set]; exact hbl, fun j bj hb => ⟨fun hj => ?_, fun hj => ?_⟩, rfl⟩
    · refine List.all_eq_true.2 fun o ho => ?_
      have ho' : o = .pending c1 t1 ∨ o = .cells #[I64 step, slc 0 off1 bl.length cap1] 42 ∨ o = .cells #[I64 0, .slice none 0 0] 42 ∨ o = .cells cr 59 ∨ o = .cells c4 61 ∨ o = .cells #[I64 step, slc 4 0 bl.length cp] 42 := by simpa using ho
      rcases ho' with rfl | rfl | rfl | rfl | rfl | rfl
      · rfl
      · rfl
      · rfl
      · exact clean_all w1 _ _
      · exact clean_all hc4 _ _
      · rfl
    · by_cases hji : j = i
      · subst hji
        rw [hi'] at hb
        cases hb
        refine ⟨_, _, _, hb4, ?_⟩
        have h4 := notT h3
        rw [rv_win, rv_win, rv_win] at h4
        exact h4
      · obtain ⟨a, b, c, k1, k2⟩ := (hst j bj hb).1 (by omega)
        exact ⟨a, b, c, by rw [List.getElem?_set_ne (by omega)]; exact k1, k2⟩
    · rw [List.getElem?_set_ne (by omega)]
      exact (hst j bj hb).2 (by omega)
  have e : i = bl.length := by have := of_decide_eq_false h1; omega
  have hall : ∀ (j : Nat) (bj : Bd), bl[j]? = some bj → ∃ a b c : Int, bl'[j]? = some ⟨a, b, c, bj.x, bj.y, bj.z⟩ ∧ vwin3 1048576 a b c = true := fun j bj hb => (hst j bj hb).1 (by have := (List.getElem?_eq_some_iff.1 hb).1; omega)
  refine ⟨rfl, fin_oneB 4 ⟨_, rfl⟩ (by simp) rfl hc3 (u := .tuple #[.agg #[I64 step, slc 1 0 bl.length cp], I64 0]) ?_ rfl ⟨bl', c3, cp, 0, rfl, rfl, hc3, hw3, hbl, q3, fun _ => ⟨okState_drift hok hbl hall, fun j bj hb => let ⟨a, b, c, k, _⟩ := hall j bj hb; ⟨a, b, c, k⟩⟩⟩⟩
  simp [r3, r2, r1, r0, rA, tau]
end Go.Proofs.YtjpjnjidchdlbaaDoor

/-
  The kick and the drift: what stays (plain Lean).
-/
namespace Go.Proofs.YtjpjnjidchdlbaaDoor
set_option linter.unusedSimpArgs false
set_option linter.unusedVariables false
open Go
set_option maxRecDepth 100000
set_option maxHeartbeats 4000000

def neg3 (s : Int × Int × Int) : Int × Int × Int := (wrapS .i64 (0 - s.1), wrapS .i64 (0 - s.2.1), wrapS .i64 (0 - s.2.2))
theorem turn_dvd (p : Int × Int × Int → Int) (hn : ∀ s, p (neg3 s) = wrapS .i64 (0 - p s)) (g n d m : Int) (b me : Bd) : (18446744073709551616 : Int) ∣ p (pullB g n d m me b).1 + p (pullB g n d m b me).1 := by
  have e : (pullB g n d m me b).1 = neg3 (pullB g n d m b me).1 := by rw [pullB_turn g n d m b me]; rfl
  rw [e, hn]
  have := wr_dvd (0 - p (pullB g n d m b me).1)
  omega
theorem get_eq {bl' : List Bd} {j : Nat} {b : Bd} (h : bl'[j]? = some b) : ∃ hj, bl'[j]'hj = b := List.getElem?_eq_some_iff.1 h
theorem stay1 (p : Int × Int × Int → Int) (hp : ∀ s t, p (add3 s t) = wrapS .i64 (p s + p t)) (h0 : p (0, 0, 0) = 0) (hn : ∀ s, p (neg3 s) = wrapS .i64 (0 - p s)) (f : Bd → Int) (hf : ∀ b s, f (kickBd b (ofK s)) = wrapS .i64 (f b + p s))
    (g n d c : Int) (b0 : Bd) (bl' : List Bd) (hlen : bl'.length = 1) (hd : kDone g n d [c] [b0] bl') : (18446744073709551616 : Int) ∣ sum1 f ([c].zip bl') - sum1 f ([c].zip [b0]) := by
  match bl', hlen with
  | [x0], _ =>
    obtain ⟨z0, e0⟩ := hd 0 b0 rfl
    have e0 : x0 = kickBd b0 (ofK (kickR g n d [c] [b0] 0 b0).1) := Option.some.inj e0
    have s0 := kR_sum p hp g n d 0 b0 ([c].zip [b0]) 0 (0, 0, 0) z0
    have w0 := wr_dvd (f b0 + p (kickR g n d [c] [b0] 0 b0).1)
    rw [← hf, ← e0] at w0
    change (18446744073709551616 : Int) ∣ p (kickR g n d [c] [b0] 0 b0).1 - (p (0, 0, 0) + (0 + 0)) at s0
    rw [h0] at s0
    have hD : (18446744073709551616 : Int) ∣ (f x0 - f b0) := by omega
    have hc := Int.dvd_trans hD (Int.dvd_mul_left c _)
    have e : sum1 f ([c].zip [x0]) - sum1 f ([c].zip [b0]) = c * ((f x0 - f b0)) := by
      show (c * f x0 + 0) - (c * f b0 + 0) = _
      simp only [Int.mul_add, Int.mul_sub]
      omega
    rw [e]
    exact hc
theorem stay2 (p : Int × Int × Int → Int) (hp : ∀ s t, p (add3 s t) = wrapS .i64 (p s + p t)) (h0 : p (0, 0, 0) = 0) (hn : ∀ s, p (neg3 s) = wrapS .i64 (0 - p s)) (f : Bd → Int) (hf : ∀ b s, f (kickBd b (ofK s)) = wrapS .i64 (f b + p s))
    (g n d c : Int) (b0 b1 : Bd) (bl' : List Bd) (hlen : bl'.length = 2) (hd : kDone g n d [c, c] [b0, b1] bl') : (18446744073709551616 : Int) ∣ sum1 f ([c, c].zip bl') - sum1 f ([c, c].zip [b0, b1]) := by
  match bl', hlen with
  | [x0, x1], _ =>
    obtain ⟨z0, e0⟩ := hd 0 b0 rfl
    have e0 : x0 = kickBd b0 (ofK (kickR g n d [c, c] [b0, b1] 0 b0).1) := Option.some.inj e0
    have s0 := kR_sum p hp g n d 0 b0 ([c, c].zip [b0, b1]) 0 (0, 0, 0) z0
    have w0 := wr_dvd (f b0 + p (kickR g n d [c, c] [b0, b1] 0 b0).1)
    rw [← hf, ← e0] at w0
    change (18446744073709551616 : Int) ∣ p (kickR g n d [c, c] [b0, b1] 0 b0).1 - (p (0, 0, 0) + (0 + (p (pullB g n d c b1 b0).1 + 0))) at s0
    rw [h0] at s0
    obtain ⟨z1, e1⟩ := hd 1 b1 rfl
    have e1 : x1 = kickBd b1 (ofK (kickR g n d [c, c] [b0, b1] 1 b1).1) := Option.some.inj e1
    have s1 := kR_sum p hp g n d 1 b1 ([c, c].zip [b0, b1]) 0 (0, 0, 0) z1
    have w1 := wr_dvd (f b1 + p (kickR g n d [c, c] [b0, b1] 1 b1).1)
    rw [← hf, ← e1] at w1
    change (18446744073709551616 : Int) ∣ p (kickR g n d [c, c] [b0, b1] 1 b1).1 - (p (0, 0, 0) + (p (pullB g n d c b0 b1).1 + (0 + 0))) at s1
    rw [h0] at s1
    have t01 := turn_dvd p hn g n d c b0 b1
    have hD : (18446744073709551616 : Int) ∣ (f x0 - f b0) + (f x1 - f b1) := by omega
    have hc := Int.dvd_trans hD (Int.dvd_mul_left c _)
    have e : sum1 f ([c, c].zip [x0, x1]) - sum1 f ([c, c].zip [b0, b1]) = c * ((f x0 - f b0) + (f x1 - f b1)) := by
      show (c * f x0 + (c * f x1 + 0)) - (c * f b0 + (c * f b1 + 0)) = _
      simp only [Int.mul_add, Int.mul_sub]
      omega
    rw [e]
    exact hc
theorem stay3 (p : Int × Int × Int → Int) (hp : ∀ s t, p (add3 s t) = wrapS .i64 (p s + p t)) (h0 : p (0, 0, 0) = 0) (hn : ∀ s, p (neg3 s) = wrapS .i64 (0 - p s)) (f : Bd → Int) (hf : ∀ b s, f (kickBd b (ofK s)) = wrapS .i64 (f b + p s))
    (g n d c : Int) (b0 b1 b2 : Bd) (bl' : List Bd) (hlen : bl'.length = 3) (hd : kDone g n d [c, c, c] [b0, b1, b2] bl') : (18446744073709551616 : Int) ∣ sum1 f ([c, c, c].zip bl') - sum1 f ([c, c, c].zip [b0, b1, b2]) := by
  match bl', hlen with
  | [x0, x1, x2], _ =>
    obtain ⟨z0, e0⟩ := hd 0 b0 rfl
    have e0 : x0 = kickBd b0 (ofK (kickR g n d [c, c, c] [b0, b1, b2] 0 b0).1) := Option.some.inj e0
    have s0 := kR_sum p hp g n d 0 b0 ([c, c, c].zip [b0, b1, b2]) 0 (0, 0, 0) z0
    have w0 := wr_dvd (f b0 + p (kickR g n d [c, c, c] [b0, b1, b2] 0 b0).1)
    rw [← hf, ← e0] at w0
    change (18446744073709551616 : Int) ∣ p (kickR g n d [c, c, c] [b0, b1, b2] 0 b0).1 - (p (0, 0, 0) + (0 + (p (pullB g n d c b1 b0).1 + (p (pullB g n d c b2 b0).1 + 0)))) at s0
    rw [h0] at s0
    obtain ⟨z1, e1⟩ := hd 1 b1 rfl
    have e1 : x1 = kickBd b1 (ofK (kickR g n d [c, c, c] [b0, b1, b2] 1 b1).1) := Option.some.inj e1
    have s1 := kR_sum p hp g n d 1 b1 ([c, c, c].zip [b0, b1, b2]) 0 (0, 0, 0) z1
    have w1 := wr_dvd (f b1 + p (kickR g n d [c, c, c] [b0, b1, b2] 1 b1).1)
    rw [← hf, ← e1] at w1
    change (18446744073709551616 : Int) ∣ p (kickR g n d [c, c, c] [b0, b1, b2] 1 b1).1 - (p (0, 0, 0) + (p (pullB g n d c b0 b1).1 + (0 + (p (pullB g n d c b2 b1).1 + 0)))) at s1
    rw [h0] at s1
    obtain ⟨z2, e2⟩ := hd 2 b2 rfl
    have e2 : x2 = kickBd b2 (ofK (kickR g n d [c, c, c] [b0, b1, b2] 2 b2).1) := Option.some.inj e2
    have s2 := kR_sum p hp g n d 2 b2 ([c, c, c].zip [b0, b1, b2]) 0 (0, 0, 0) z2
    have w2 := wr_dvd (f b2 + p (kickR g n d [c, c, c] [b0, b1, b2] 2 b2).1)
    rw [← hf, ← e2] at w2
    change (18446744073709551616 : Int) ∣ p (kickR g n d [c, c, c] [b0, b1, b2] 2 b2).1 - (p (0, 0, 0) + (p (pullB g n d c b0 b2).1 + (p (pullB g n d c b1 b2).1 + (0 + 0)))) at s2
    rw [h0] at s2
    have t01 := turn_dvd p hn g n d c b0 b1
    have t02 := turn_dvd p hn g n d c b0 b2
    have t12 := turn_dvd p hn g n d c b1 b2
    have hD : (18446744073709551616 : Int) ∣ (f x0 - f b0) + (f x1 - f b1) + (f x2 - f b2) := by omega
    have hc := Int.dvd_trans hD (Int.dvd_mul_left c _)
    have e : sum1 f ([c, c, c].zip [x0, x1, x2]) - sum1 f ([c, c, c].zip [b0, b1, b2]) = c * ((f x0 - f b0) + (f x1 - f b1) + (f x2 - f b2)) := by
      show (c * f x0 + (c * f x1 + (c * f x2 + 0))) - (c * f b0 + (c * f b1 + (c * f b2 + 0))) = _
      simp only [Int.mul_add, Int.mul_sub]
      omega
    rw [e]
    exact hc
theorem stay4 (p : Int × Int × Int → Int) (hp : ∀ s t, p (add3 s t) = wrapS .i64 (p s + p t)) (h0 : p (0, 0, 0) = 0) (hn : ∀ s, p (neg3 s) = wrapS .i64 (0 - p s)) (f : Bd → Int) (hf : ∀ b s, f (kickBd b (ofK s)) = wrapS .i64 (f b + p s))
    (g n d c : Int) (b0 b1 b2 b3 : Bd) (bl' : List Bd) (hlen : bl'.length = 4) (hd : kDone g n d [c, c, c, c] [b0, b1, b2, b3] bl') : (18446744073709551616 : Int) ∣ sum1 f ([c, c, c, c].zip bl') - sum1 f ([c, c, c, c].zip [b0, b1, b2, b3]) := by
  match bl', hlen with
  | [x0, x1, x2, x3], _ =>
    obtain ⟨z0, e0⟩ := hd 0 b0 rfl
    have e0 : x0 = kickBd b0 (ofK (kickR g n d [c, c, c, c] [b0, b1, b2, b3] 0 b0).1) := Option.some.inj e0
    have s0 := kR_sum p hp g n d 0 b0 ([c, c, c, c].zip [b0, b1, b2, b3]) 0 (0, 0, 0) z0
    have w0 := wr_dvd (f b0 + p (kickR g n d [c, c, c, c] [b0, b1, b2, b3] 0 b0).1)
    rw [← hf, ← e0] at w0
    change (18446744073709551616 : Int) ∣ p (kickR g n d [c, c, c, c] [b0, b1, b2, b3] 0 b0).1 - (p (0, 0, 0) + (0 + (p (pullB g n d c b1 b0).1 + (p (pullB g n d c b2 b0).1 + (p (pullB g n d c b3 b0).1 + 0))))) at s0
    rw [h0] at s0
    obtain ⟨z1, e1⟩ := hd 1 b1 rfl
    have e1 : x1 = kickBd b1 (ofK (kickR g n d [c, c, c, c] [b0, b1, b2, b3] 1 b1).1) := Option.some.inj e1
    have s1 := kR_sum p hp g n d 1 b1 ([c, c, c, c].zip [b0, b1, b2, b3]) 0 (0, 0, 0) z1
    have w1 := wr_dvd (f b1 + p (kickR g n d [c, c, c, c] [b0, b1, b2, b3] 1 b1).1)
    rw [← hf, ← e1] at w1
    change (18446744073709551616 : Int) ∣ p (kickR g n d [c, c, c, c] [b0, b1, b2, b3] 1 b1).1 - (p (0, 0, 0) + (p (pullB g n d c b0 b1).1 + (0 + (p (pullB g n d c b2 b1).1 + (p (pullB g n d c b3 b1).1 + 0))))) at s1
    rw [h0] at s1
    obtain ⟨z2, e2⟩ := hd 2 b2 rfl
    have e2 : x2 = kickBd b2 (ofK (kickR g n d [c, c, c, c] [b0, b1, b2, b3] 2 b2).1) := Option.some.inj e2
    have s2 := kR_sum p hp g n d 2 b2 ([c, c, c, c].zip [b0, b1, b2, b3]) 0 (0, 0, 0) z2
    have w2 := wr_dvd (f b2 + p (kickR g n d [c, c, c, c] [b0, b1, b2, b3] 2 b2).1)
    rw [← hf, ← e2] at w2
    change (18446744073709551616 : Int) ∣ p (kickR g n d [c, c, c, c] [b0, b1, b2, b3] 2 b2).1 - (p (0, 0, 0) + (p (pullB g n d c b0 b2).1 + (p (pullB g n d c b1 b2).1 + (0 + (p (pullB g n d c b3 b2).1 + 0))))) at s2
    rw [h0] at s2
    obtain ⟨z3, e3⟩ := hd 3 b3 rfl
    have e3 : x3 = kickBd b3 (ofK (kickR g n d [c, c, c, c] [b0, b1, b2, b3] 3 b3).1) := Option.some.inj e3
    have s3 := kR_sum p hp g n d 3 b3 ([c, c, c, c].zip [b0, b1, b2, b3]) 0 (0, 0, 0) z3
    have w3 := wr_dvd (f b3 + p (kickR g n d [c, c, c, c] [b0, b1, b2, b3] 3 b3).1)
    rw [← hf, ← e3] at w3
    change (18446744073709551616 : Int) ∣ p (kickR g n d [c, c, c, c] [b0, b1, b2, b3] 3 b3).1 - (p (0, 0, 0) + (p (pullB g n d c b0 b3).1 + (p (pullB g n d c b1 b3).1 + (p (pullB g n d c b2 b3).1 + (0 + 0))))) at s3
    rw [h0] at s3
    have t01 := turn_dvd p hn g n d c b0 b1
    have t02 := turn_dvd p hn g n d c b0 b2
    have t03 := turn_dvd p hn g n d c b0 b3
    have t12 := turn_dvd p hn g n d c b1 b2
    have t13 := turn_dvd p hn g n d c b1 b3
    have t23 := turn_dvd p hn g n d c b2 b3
    have hD : (18446744073709551616 : Int) ∣ (f x0 - f b0) + (f x1 - f b1) + (f x2 - f b2) + (f x3 - f b3) := by omega
    have hc := Int.dvd_trans hD (Int.dvd_mul_left c _)
    have e : sum1 f ([c, c, c, c].zip [x0, x1, x2, x3]) - sum1 f ([c, c, c, c].zip [b0, b1, b2, b3]) = c * ((f x0 - f b0) + (f x1 - f b1) + (f x2 - f b2) + (f x3 - f b3)) := by
      show (c * f x0 + (c * f x1 + (c * f x2 + (c * f x3 + 0)))) - (c * f b0 + (c * f b1 + (c * f b2 + (c * f b3 + 0)))) = _
      simp only [Int.mul_add, Int.mul_sub]
      omega
    rw [e]
    exact hc
theorem alike_all {l : List Int} (h : alikeF l = true) : l = List.replicate l.length (l.headD 0) := by
  unfold alikeF at h
  rw [List.all_eq_true] at h
  exact List.eq_replicate_iff.2 ⟨rfl, fun b hb => by simpa using h b hb⟩
theorem stay_all (p : Int × Int × Int → Int) (hp : ∀ s t, p (add3 s t) = wrapS .i64 (p s + p t)) (h0 : p (0, 0, 0) = 0) (hn : ∀ s, p (neg3 s) = wrapS .i64 (0 - p s)) (f : Bd → Int) (hf : ∀ b s, f (kickBd b (ofK s)) = wrapS .i64 (f b + p s))
    (g n d : Int) {l : List Int} {bl bl' : List Bd} (ha : alikeF l = true) (hlen : l.length = bl.length) (h4 : bl.length ≤ 4) (hl' : bl'.length = bl.length) (hd : kDone g n d l bl bl') : (18446744073709551616 : Int) ∣ sum1 f (l.zip bl') - sum1 f (l.zip bl) := by
  have hr := alike_all ha
  generalize l.headD 0 = c at hr
  rw [hlen] at hr
  match bl, h4 with
  | [], _ =>
    rw [hr]
    exact ⟨0, rfl⟩
  | [b0], _ =>
    have e : l = [c] := hr
    subst e
    exact stay1 p hp h0 hn f hf g n d c b0 bl' hl' hd
  | [b0, b1], _ =>
    have e : l = [c, c] := hr
    subst e
    exact stay2 p hp h0 hn f hf g n d c b0 b1 bl' hl' hd
  | [b0, b1, b2], _ =>
    have e : l = [c, c, c] := hr
    subst e
    exact stay3 p hp h0 hn f hf g n d c b0 b1 b2 bl' hl' hd
  | [b0, b1, b2, b3], _ =>
    have e : l = [c, c, c, c] := hr
    subst e
    exact stay4 p hp h0 hn f hf g n d c b0 b1 b2 b3 bl' hl' hd
  | _ :: _ :: _ :: _ :: _ :: _, h => simp at h
/-- the momentum after a kick -/
theorem P_kick {g n d : Int} {l : List Int} {bl bl' : List Bd} (ha : alikeF l = true) (hlen : l.length = bl.length) (h4 : bl.length ≤ 4) (hl' : bl'.length = bl.length) (hd : kDone g n d l bl bl') : sumF ofV l bl' = sumF ofV l bl := by
  rw [sumF_eq, sumF_eq]
  rw [wr_eq (stay_all (fun s => s.1) (fun _ _ => rfl) rfl (fun _ => rfl) (fun b => (ofV b).1) (fun _ _ => rfl) g n d ha hlen h4 hl' hd),
    wr_eq (stay_all (fun s => s.2.1) (fun _ _ => rfl) rfl (fun _ => rfl) (fun b => (ofV b).2.1) (fun _ _ => rfl) g n d ha hlen h4 hl' hd),
    wr_eq (stay_all (fun s => s.2.2) (fun _ _ => rfl) rfl (fun _ => rfl) (fun b => (ofV b).2.2) (fun _ _ => rfl) g n d ha hlen h4 hl' hd)]
theorem sum1_pt (f : Bd → Int) : ∀ (l : List Int) (bl bl' : List Bd), bl'.length = bl.length → (∀ (j : Nat) (b b' : Bd), bl[j]? = some b → bl'[j]? = some b' → f b' = f b) → sum1 f (l.zip bl') = sum1 f (l.zip bl)
  | [], _, _, _, _ => by simp [sum1]
  | _ :: _, [], [], _, _ => rfl
  | m :: l, b :: bl, b' :: bl', hl, h => by
    rw [List.zip_cons_cons, List.zip_cons_cons, sum1, sum1, h 0 b b' rfl rfl, sum1_pt f l bl bl' (by simpa using hl) fun j x x' h1 h2 => h (j + 1) x x' h1 h2]
  | _ :: _, [], _ :: _, hl, _ => by simp at hl
  | _ :: _, _ :: _, [], hl, _ => by simp at hl
theorem sumF_pt (of : Bd → I3) {l : List Int} {bl bl' : List Bd} (hl : bl'.length = bl.length) (h : ∀ (j : Nat) (b b' : Bd), bl[j]? = some b → bl'[j]? = some b' → of b' = of b) : sumF of l bl' = sumF of l bl := by
  rw [sumF_eq, sumF_eq, sum1_pt (fun b => (of b).1) l bl bl' hl fun j b b' h1 h2 => (by show (of b').1 = (of b).1; rw [h j b b' h1 h2]), sum1_pt (fun b => (of b).2.1) l bl bl' hl fun j b b' h1 h2 => (by show (of b').2.1 = (of b).2.1; rw [h j b b' h1 h2]), sum1_pt (fun b => (of b).2.2) l bl bl' hl fun j b b' h1 h2 => (by show (of b').2.2 = (of b).2.2; rw [h j b b' h1 h2])]
theorem X_kick {g n d : Int} {l : List Int} {bl bl' : List Bd} (hl' : bl'.length = bl.length) (hd : kDone g n d l bl bl') : sumF ofX l bl' = sumF ofX l bl :=
  sumF_pt ofX hl' fun j b b' h1 h2 => by
    have := (hd j b h1).2
    rw [h2] at this
    cases this
    rfl
theorem P_drift {l : List Int} {bl bl' : List Bd} (hl' : bl'.length = bl.length) (hd : dDone bl bl') : sumF ofV l bl' = sumF ofV l bl :=
  sumF_pt ofV hl' fun j b b' h1 h2 => by
    obtain ⟨x, y, z, e⟩ := hd j b h1
    rw [h2] at e
    cases e
    rfl
theorem fits_other {l : List Int} {g b tp nr me step : Int} {bl bl' : List Bd} (h : fitsF l g b tp nr me step bl = true) (hl : bl'.length = bl.length) (hok : okState step bl' = true) : fitsF l g b tp nr me step bl' = true := by
  unfold fitsF at *
  rw [hl, hok]
  simp only [Bool.and_eq_true] at h
  rw [h.1, h.2.1]
  rfl
/-! ## In whatever heap -/
theorem kick_lift {P : Program} {G : List (Nat × Obj)} {fn : FuncId} {args args0 : List Value} {h h0 : List Obj} {m k : Nat} (hm : h.length = m) {step : Int} {done : List Bd → Prop} {n : Nat} (sg : List Nat)
    (H : AC P G fn args0 h0 (KickPost step done n k h0)) (hk : h0.length = k) (ha : args = args0.map (r3 (nu k h.length sg))) (hs : ∀ v ∈ args0, s3 k v)
    (hc : ∀ (i : Nat) (o : Obj), h0[i]? = some o → hot o = false ∧ (∀ v ∈ cellsOf o, s1 k v) ∧ ∃ o', h[sg.getD i 0]? = some o' ∧ ObjLe (rO (nu k h.length sg) o) o') :
    AC P G fn args h (KickPost step done n m h) := by
  subst hm
  subst hk
  refine ac_frame sg H ha hs hc ?_
  rintro v h' ⟨bl', c, cp, e, rfl, rfl, q1, q2, q3, q4, q5⟩
  refine ⟨[.cells c 61], rfl, bl', c, cp, e, ?_, ?_, q1, q2, q3, q4, q5⟩
  · simp [r3, r2, r1, r0, rA, nu]
  · rw [List.map_cons, rO_cl q1]; rfl
theorem Kick_s (tt : TypeId) {h : List Obj} {m0 : Nat} (hm0 : h.length = m0) {ms bs : Value} {l : List Int} {bl : List Bd} (hs : SlI h ms l) (hb : SlB h bs bl) (g b tp nr me step n d : Int) (hfit : fitsF l g b tp nr me step bl = true) (hpart : partB n d = true) :
    AC Tryd.prog (GM tt) 40 [.agg (confC ms g b tp nr me), .agg #[I64 step, bs], I64 n, I64 d] h (KickPost step (kDone g n d l bl) bl.length m0 h) := by
  rcases hs with ⟨rfl, rfl⟩ | ⟨m, off, cap, c, t, rfl, h2, h4, h5⟩
  · rw [fits_nil1] at hfit; cases hfit
  · rcases hb with ⟨rfl, rfl⟩ | ⟨m1, off1, cap1, c1, t1, rfl, k2, k4, k5⟩
    · rw [fits_nil2] at hfit; cases hfit
    · refine kick_lift hm0 [m, m1] (Kick_r tt c t off cap l h4 h5 c1 t1 off1 cap1 bl k4 k5 g b tp nr me step n d hfit hpart) rfl (by simp [r3, r2, r1, r0, rA, nu]) (fun v hv => ?_) (cold_2 h2 k2)
      refine (scop3_ok (List.all_eq_true.1 (?_ : List.all _ (scop3 2) = true) v hv)).1
      rfl
theorem Drift_s (G) {h : List Obj} {m0 : Nat} (hm0 : h.length = m0) {bs : Value} {bl : List Bd} (hb : SlB h bs bl) (step n d : Int) (hok : okState step bl = true) (hpart : partB n d = true) :
    AC Tryd.prog G 39 [.agg #[I64 step, bs], I64 n, I64 d] h (KickPost step (dDone bl) bl.length m0 h) := by
  rcases hb with ⟨rfl, rfl⟩ | ⟨m1, off1, cap1, c1, t1, rfl, k2, k4, k5⟩
  · rw [okState_nil] at hok; cases hok
  · refine kick_lift hm0 [m1] (Drift_r G c1 t1 off1 cap1 bl k4 k5 step n d hok hpart) rfl (by simp [r3, r2, r1, r0, rA, nu]) (fun v hv => ?_) (cold_p k2)
    refine (scop3_ok (List.all_eq_true.1 (?_ : List.all _ (scop3 1) = true) v hv)).1
    rfl
end Go.Proofs.YtjpjnjidchdlbaaDoor

/-
  MomentStays: the walk (no condition).
-/
namespace Go.Proofs.YtjpjnjidchdlbaaDoor
set_option linter.unusedSimpArgs false
set_option linter.unusedVariables false
open Go
set_option maxRecDepth 100000
set_option maxHeartbeats 4000000
theorem has8 : Has Tryd.prog 8 Tryd.f8 := ⟨Tryd.func8, by kernel_rfl, by kernel_rfl⟩
theorem Stays8_rr (tt : TypeId) (c0 : Array Value) (t0 : TypeId) (off cap : Nat) (l : List Int) (hw : WinI c0 off l) (hcap : l.length ≤ cap) (c1 : Array Value) (t1 : TypeId) (off1 cap1 : Nat) (bl : List Bd) (hw1 : WinB c1 off1 bl) (hcap1 : bl.length ≤ cap1) (g b tp nr me step kn kd : Int) :
    AC Tryd.prog (GM tt) 8 [.agg (confC (slc 0 off l.length cap) g b tp nr me), .agg #[I64 step, (slc 1 off1 bl.length cap1)], I64 kn, I64 kd] [.pending c0 t0, .pending c1 t1] (fun v h => v = .bool true ∧ h = [.pending c0 t0, .pending c1 t1]) := by
  refine ac_of_body tabOk has8 ?_
  unfold BodyOk
  conv => whnf
  refine ac_mono (RFitsU_s tt (l := l) (bl := bl) (h := [.pending c0 t0, .pending c1 t1, .cells (confC (slc 0 off l.length cap) g b tp nr me) 39, .cells #[I64 step, (slc 1 off1 bl.length cap1)] 42]) (.inr ⟨0, off, cap, c0, t0, rfl, .inl rfl, hw, hcap⟩) (.inr ⟨1, off1, cap1, c1, t1, rfl, .inl rfl, hw1, hcap1⟩) g b tp nr me step) ?_
  rintro v h' ⟨rfl, rfl⟩
  conv => whnf
  refine ways (fun h1 => ?_) (fun h1 => ?_) <;> conv => whnf
  · refine ac_pure (Mwakes_c tt) rfl ?_
    rintro v h' ⟨rfl, rfl⟩
    refine ⟨rfl, rfl, ?_⟩
    conv => whnf
    refine ⟨rfl, fin_turnedK rfl ?_⟩
    conv => whnf
    exact ⟨rfl, rfl⟩
  have hfit := notT h1
  obtain ⟨hlen, hl4⟩ := fits_len hfit
  have hl : l.length ≤ 1000000000000 := by omega
  have hl2 : bl.length ≤ 1000000000000 := by omega
  have hok : okState step bl = true := by
    unfold fitsF at hfit
    simp only [Bool.and_eq_true] at hfit
    exact hfit.2.2
  refine ac_pure (part38_n (GM tt) kn kd) rfl ?_
  rintro v h' ⟨rfl, rfl⟩
  refine ⟨rfl, rfl, ?_⟩
  conv => whnf
  refine ways (fun h2 => ?_) (fun h2 => ?_) <;> conv => whnf
  · refine ac_pure (Mwakes_c tt) rfl ?_
    rintro v h' ⟨rfl, rfl⟩
    refine ⟨rfl, rfl, ?_⟩
    conv => whnf
    refine ⟨rfl, fin_turnedK rfl ?_⟩
    conv => whnf
    exact ⟨rfl, rfl⟩
  have hpart := notT h2
  refine ac_mono (P_s tt (l := l) (bl := bl) (.inr ⟨0, off, cap, c0, t0, rfl, .inl rfl, hw, hcap⟩) (.inr ⟨1, off1, cap1, c1, t1, rfl, .inl rfl, hw1, hcap1⟩) hl hl2 g b tp nr me step) ?_
  rintro v h' ⟨rfl, rfl⟩
  rw [hfit]
  conv => whnf
  refine ac_mono (Mid_s tt (l := l) (bl := bl) (.inr ⟨0, off, cap, c0, t0, rfl, .inl rfl, hw, hcap⟩) (.inr ⟨1, off1, cap1, c1, t1, rfl, .inl rfl, hw1, hcap1⟩) hl hl2 g b tp nr me step) ?_
  rintro v h' ⟨rfl, rfl⟩
  rw [hfit]
  conv => whnf
  refine ac_mono (Drift_s (GM tt) (bl := bl) (m0 := 6) rfl (.inr ⟨1, off1, cap1, c1, t1, rfl, .inl rfl, hw1, hcap1⟩) step kn kd hok hpart) ?_
  rintro v h' ⟨bd, c, cp, e, rfl, rfl, q1, q2, q3, q4, q5⟩
  conv => whnf
  refine ways (fun h3 => ?_) (fun h3 => ?_) <;> conv => whnf
  · obtain ⟨w1, w2⟩ := q5 (by simpa using h3)
    have hfd := fits_other hfit q3 w1
    refine ac_mono (P_s tt (l := l) (bl := bd) (.inr ⟨0, off, cap, c0, t0, rfl, .inl rfl, hw, hcap⟩) (.inr ⟨6, 0, cp, c, 61, by rw [q3], .inr ⟨q1, _, rfl⟩, q2, by rw [q3]; exact q4⟩) hl (by omega) g b tp nr me step) ?_
    rintro v h' ⟨rfl, rfl⟩
    rw [hfd, P_drift q3 w2]
    conv => whnf
    refine way0 (by simp) ?_
    conv => whnf
    refine ac_mono (Kick_s tt (l := l) (bl := bl) (m0 := 9) rfl (.inr ⟨0, off, cap, c0, t0, rfl, .inl rfl, hw, hcap⟩) (.inr ⟨1, off1, cap1, c1, t1, rfl, .inl rfl, hw1, hcap1⟩) g b tp nr me step kn kd hfit hpart) ?_
    rintro v h' ⟨bk, c2, cp2, e2, rfl, rfl, u1, u2, u3, u4, u5⟩
    conv => whnf
    refine ways (fun h4 => ?_) (fun h4 => ?_) <;> conv => whnf
    · refine ac_pure (Mwakes_c tt) rfl ?_
      rintro v h' ⟨rfl, rfl⟩
      refine ⟨rfl, rfl, ?_⟩
      conv => whnf
      refine ⟨rfl, fin_turnedK rfl ?_⟩
      conv => whnf
      exact ⟨rfl, rfl⟩
    obtain ⟨v1, v2⟩ := u5 (by simpa using h4)
    have hfk := fits_other hfit u3 v1
    refine ac_mono (P_s tt (l := l) (bl := bk) (.inr ⟨0, off, cap, c0, t0, rfl, .inl rfl, hw, hcap⟩) (.inr ⟨9, 0, cp2, c2, 61, by rw [u3], .inr ⟨u1, _, rfl⟩, u2, by rw [u3]; exact u4⟩) hl (by omega) g b tp nr me step) ?_
    rintro v h' ⟨rfl, rfl⟩
    rw [hfk]
    conv => whnf
    refine ac_mono (Mid_s tt (l := l) (bl := bk) (.inr ⟨0, off, cap, c0, t0, rfl, .inl rfl, hw, hcap⟩) (.inr ⟨9, 0, cp2, c2, 61, by rw [u3], .inr ⟨u1, _, rfl⟩, u2, by rw [u3]; exact u4⟩) hl (by omega) g b tp nr me step) ?_
    rintro v h' ⟨rfl, rfl⟩
    rw [hfk, X_kick u3 v2]
    conv => whnf
    have he2 : (e2 == 0) = true := by simpa using h4
    refine way1 (by simp) ?_
    conv => whnf
    refine ac_mono (Alike_s tt (l := l) (.inr ⟨0, off, cap, c0, t0, rfl, .inl rfl, hw, hcap⟩) hl g b tp nr me) ?_
    rintro v h' ⟨rfl, rfl⟩
    conv => whnf
    refine ways (fun h5 => ?_) (fun h5 => ?_) <;> conv => whnf
    · refine ac_pure (Mwakes_c tt) rfl ?_
      rintro v h' ⟨rfl, rfl⟩
      refine ⟨rfl, rfl, ?_⟩
      conv => whnf
      refine ⟨rfl, fin_turnedK rfl ?_⟩
      conv => whnf
      exact ⟨rfl, rfl⟩
    have hal : alikeF l = true := by
      have := notT h5
      simp only [Bool.and_eq_true] at this
      exact this.2
    rw [P_kick hal hlen hl4 u3 v2]
    refine way1 (by simp) ?_
    conv => whnf
    refine ac_pure (Mwakes_c tt) rfl ?_
    rintro v h' ⟨rfl, rfl⟩
    refine ⟨rfl, rfl, ?_⟩
    conv => whnf
    refine ⟨rfl, fin_turnedK rfl ?_⟩
    conv => whnf
    exact ⟨rfl, rfl⟩
  refine ac_mono (Kick_s tt (l := l) (bl := bl) (m0 := 8) rfl (.inr ⟨0, off, cap, c0, t0, rfl, .inl rfl, hw, hcap⟩) (.inr ⟨1, off1, cap1, c1, t1, rfl, .inl rfl, hw1, hcap1⟩) g b tp nr me step kn kd hfit hpart) ?_
  rintro v h' ⟨bk, c2, cp2, e2, rfl, rfl, u1, u2, u3, u4, u5⟩
  conv => whnf
  refine ways (fun h4 => ?_) (fun h4 => ?_) <;> conv => whnf
  · refine ac_pure (Mwakes_c tt) rfl ?_
    rintro v h' ⟨rfl, rfl⟩
    refine ⟨rfl, rfl, ?_⟩
    conv => whnf
    refine ⟨rfl, fin_turnedK rfl ?_⟩
    conv => whnf
    exact ⟨rfl, rfl⟩
  obtain ⟨v1, v2⟩ := u5 (by simpa using h4)
  have hfk := fits_other hfit u3 v1
  refine ac_mono (P_s tt (l := l) (bl := bk) (.inr ⟨0, off, cap, c0, t0, rfl, .inl rfl, hw, hcap⟩) (.inr ⟨8, 0, cp2, c2, 61, by rw [u3], .inr ⟨u1, _, rfl⟩, u2, by rw [u3]; exact u4⟩) hl (by omega) g b tp nr me step) ?_
  rintro v h' ⟨rfl, rfl⟩
  rw [hfk]
  conv => whnf
  refine ac_mono (Mid_s tt (l := l) (bl := bk) (.inr ⟨0, off, cap, c0, t0, rfl, .inl rfl, hw, hcap⟩) (.inr ⟨8, 0, cp2, c2, 61, by rw [u3], .inr ⟨u1, _, rfl⟩, u2, by rw [u3]; exact u4⟩) hl (by omega) g b tp nr me step) ?_
  rintro v h' ⟨rfl, rfl⟩
  rw [hfk, X_kick u3 v2]
  conv => whnf
  have he2 : (e2 == 0) = true := by simpa using h4
  refine way1 (by simp) ?_
  conv => whnf
  refine ac_mono (Alike_s tt (l := l) (.inr ⟨0, off, cap, c0, t0, rfl, .inl rfl, hw, hcap⟩) hl g b tp nr me) ?_
  rintro v h' ⟨rfl, rfl⟩
  conv => whnf
  refine ways (fun h5 => ?_) (fun h5 => ?_) <;> conv => whnf
  · refine ac_pure (Mwakes_c tt) rfl ?_
    rintro v h' ⟨rfl, rfl⟩
    refine ⟨rfl, rfl, ?_⟩
    conv => whnf
    refine ⟨rfl, fin_turnedK rfl ?_⟩
    conv => whnf
    exact ⟨rfl, rfl⟩
  have hal : alikeF l = true := by
    have := notT h5
    simp only [Bool.and_eq_true] at this
    exact this.2
  rw [P_kick hal hlen hl4 u3 v2]
  refine way1 (by simp) ?_
  conv => whnf
  refine ac_pure (Mwakes_c tt) rfl ?_
  rintro v h' ⟨rfl, rfl⟩
  refine ⟨rfl, rfl, ?_⟩
  conv => whnf
  refine ⟨rfl, fin_turnedK rfl ?_⟩
  conv => whnf
  exact ⟨rfl, rfl⟩
theorem Stays8_nr (tt : TypeId) (c1 : Array Value) (t1 : TypeId) (off1 cap1 : Nat) (bl : List Bd) (hw1 : WinB c1 off1 bl) (hcap1 : bl.length ≤ cap1) (g b tp nr me step kn kd : Int) :
    AC Tryd.prog (GM tt) 8 [.agg (confC (.slice none 0 0) g b tp nr me), .agg #[I64 step, (slc 0 off1 bl.length cap1)], I64 kn, I64 kd] [.pending c1 t1] (fun v h => v = .bool true ∧ h = [.pending c1 t1]) := by
  refine ac_of_body tabOk has8 ?_
  unfold BodyOk
  conv => whnf
  refine ac_mono (RFitsU_s tt (l := ([] : List Int)) (bl := bl) (h := [.pending c1 t1, .cells (confC (.slice none 0 0) g b tp nr me) 39, .cells #[I64 step, (slc 0 off1 bl.length cap1)] 42]) (.inl ⟨rfl, rfl⟩) (.inr ⟨0, off1, cap1, c1, t1, rfl, .inl rfl, hw1, hcap1⟩) g b tp nr me step) ?_
  rintro v h' ⟨rfl, rfl⟩
  conv => whnf
  rw [fits_nil1 g b tp nr me step bl]
  conv => whnf
  refine ac_pure (Mwakes_c tt) rfl ?_
  rintro v h' ⟨rfl, rfl⟩
  refine ⟨rfl, rfl, ?_⟩
  conv => whnf
  refine ⟨rfl, fin_turnedK rfl ?_⟩
  conv => whnf
  exact ⟨rfl, rfl⟩

theorem Stays8_rn (tt : TypeId) (c0 : Array Value) (t0 : TypeId) (off cap : Nat) (l : List Int) (hw : WinI c0 off l) (hcap : l.length ≤ cap) (g b tp nr me step kn kd : Int) :
    AC Tryd.prog (GM tt) 8 [.agg (confC (slc 0 off l.length cap) g b tp nr me), .agg #[I64 step, (.slice none 0 0)], I64 kn, I64 kd] [.pending c0 t0] (fun v h => v = .bool true ∧ h = [.pending c0 t0]) := by
  refine ac_of_body tabOk has8 ?_
  unfold BodyOk
  conv => whnf
  refine ac_mono (RFitsU_s tt (l := l) (bl := ([] : List Bd)) (h := [.pending c0 t0, .cells (confC (slc 0 off l.length cap) g b tp nr me) 39, .cells #[I64 step, (.slice none 0 0)] 42]) (.inr ⟨0, off, cap, c0, t0, rfl, .inl rfl, hw, hcap⟩) (.inl ⟨rfl, rfl⟩) g b tp nr me step) ?_
  rintro v h' ⟨rfl, rfl⟩
  conv => whnf
  rw [fits_nil2 l g b tp nr me step]
  conv => whnf
  refine ac_pure (Mwakes_c tt) rfl ?_
  rintro v h' ⟨rfl, rfl⟩
  refine ⟨rfl, rfl, ?_⟩
  conv => whnf
  refine ⟨rfl, fin_turnedK rfl ?_⟩
  conv => whnf
  exact ⟨rfl, rfl⟩

theorem Stays8_nn (tt : TypeId) (g b tp nr me step kn kd : Int) :
    AC Tryd.prog (GM tt) 8 [.agg (confC (.slice none 0 0) g b tp nr me), .agg #[I64 step, (.slice none 0 0)], I64 kn, I64 kd] [] (fun v h => v = .bool true ∧ h = []) := by
  refine ac_of_body tabOk has8 ?_
  unfold BodyOk
  conv => whnf
  refine ac_mono (RFitsU_s tt (l := ([] : List Int)) (bl := ([] : List Bd)) (h := [.cells (confC (.slice none 0 0) g b tp nr me) 39, .cells #[I64 step, (.slice none 0 0)] 42]) (.inl ⟨rfl, rfl⟩) (.inl ⟨rfl, rfl⟩) g b tp nr me step) ?_
  rintro v h' ⟨rfl, rfl⟩
  conv => whnf
  rw [fits_nil1 g b tp nr me step ([] : List Bd)]
  conv => whnf
  refine ac_pure (Mwakes_c tt) rfl ?_
  rintro v h' ⟨rfl, rfl⟩
  refine ⟨rfl, rfl, ?_⟩
  conv => whnf
  refine ⟨rfl, fin_turnedK rfl ?_⟩
  conv => whnf
  exact ⟨rfl, rfl⟩

end Go.Proofs.YtjpjnjidchdlbaaDoor

/-
  MomentStays: of whatever configuration and state came in.
-/
namespace Go.Proofs.YtjpjnjidchdlbaaDoor
set_option linter.unusedSimpArgs false
set_option linter.unusedVariables false
open Go Go.RowKit Go.ChangeShapes Go.WideShapes Go.ChangeAt
set_option maxRecDepth 100000
set_option maxHeartbeats 4000000
theorem Stays8_calls {W : World} {tt : TypeId} {f : Nat × Nat} (h : W.heap[1]? = some (.cells namesA tt f)) {ms bs : Value} {l : List Int} {bl : List Bd} (hm : RowII W ms l) (hb : RowBI W bs bl) (g b tp nr me step : Int) (kn kd : Int) :
    Calls Tryd.prog 8 #[.agg (confC ms g b tp nr me), .agg #[I64 step, bs], I64 kn, I64 kd] W fun e w' => e = .returned (.bool true) ∧ Below W.heap.size W w' := by
  rcases hm with ⟨rfl, rfl⟩ | ⟨bk, off, cap, c, t, f1, rfl, g1, g2, g3, g4⟩
  · rcases hb with ⟨rfl, rfl⟩ | ⟨bk1, off1, cap1, q, t1, f2, rfl, k1, k2, k3, k4⟩
    · have key := calls_of (u := .bool true) (k := fun h => h = []) rfl (fun i o hi => by simp at hi) (Stays8_nn tt g b tp nr me step kn kd) (repH_pendM h id [] (fun i o hi => by simp at hi)) (by intro v hv; exact (scop3_ok (List.all_eq_true.1 (by rfl : ([.agg (confC (.slice none 0 0) g b tp nr me), .agg #[I64 step, (.slice none 0 0)], I64 kn, I64 kd] : List Value).all (scop3 0) = true) v hv)).1)
      rw [map_closed rfl] at key
      exact key
    · have key := calls_of (u := .bool true) (k := fun h => h = [.pending q t1]) rfl coldM1 (Stays8_nr tt q t1 off1 cap1 bl k4 k1 g b tp nr me step kn kd) (pendM1 h k3) (by intro v hv; exact (scop3_ok (List.all_eq_true.1 (by rfl : ([.agg (confC (.slice none 0 0) g b tp nr me), .agg #[I64 step, (slc 0 off1 bl.length cap1)], I64 kn, I64 kd] : List Value).all (scop3 1) = true) v hv)).1)
      have e : (([.agg (confC (.slice none 0 0) g b tp nr me), .agg #[I64 step, (slc 0 off1 bl.length cap1)], I64 kn, I64 kd] : List Value).map (c3 (fun _ => bk1))).toArray = #[.agg (confC (.slice none 0 0) g b tp nr me), .agg #[I64 step, (.slice (some ⟨bk1, off1, none⟩) bl.length cap1)], I64 kn, I64 kd] := by simp [c3, c2, c1, c0, cA, twoB]
      rw [e] at key
      exact key
  · rcases hb with ⟨rfl, rfl⟩ | ⟨bk1, off1, cap1, q, t1, f2, rfl, k1, k2, k3, k4⟩
    · have key := calls_of (u := .bool true) (k := fun h => h = [.pending c t]) rfl coldM1 (Stays8_rn tt c t off cap l g4 g1 g b tp nr me step kn kd) (pendM1 h g3) (by intro v hv; exact (scop3_ok (List.all_eq_true.1 (by rfl : ([.agg (confC (slc 0 off l.length cap) g b tp nr me), .agg #[I64 step, (.slice none 0 0)], I64 kn, I64 kd] : List Value).all (scop3 1) = true) v hv)).1)
      have e : (([.agg (confC (slc 0 off l.length cap) g b tp nr me), .agg #[I64 step, (.slice none 0 0)], I64 kn, I64 kd] : List Value).map (c3 (fun _ => bk))).toArray = #[.agg (confC (.slice (some ⟨bk, off, none⟩) l.length cap) g b tp nr me), .agg #[I64 step, (.slice none 0 0)], I64 kn, I64 kd] := by simp [c3, c2, c1, c0, cA, twoB]
      rw [e] at key
      exact key
    · have key := calls_of (u := .bool true) (k := fun h => h = [.pending c t, .pending q t1]) rfl coldM2 (Stays8_rr tt c t off cap l g4 g1 q t1 off1 cap1 bl k4 k1 g b tp nr me step kn kd) (pendM2 h g3 k3) (by intro v hv; exact (scop3_ok (List.all_eq_true.1 (by rfl : ([.agg (confC (slc 0 off l.length cap) g b tp nr me), .agg #[I64 step, (slc 1 off1 bl.length cap1)], I64 kn, I64 kd] : List Value).all (scop3 2) = true) v hv)).1)
      have e : (([.agg (confC (slc 0 off l.length cap) g b tp nr me), .agg #[I64 step, (slc 1 off1 bl.length cap1)], I64 kn, I64 kd] : List Value).map (c3 ((twoB bk bk1)))).toArray = #[.agg (confC (.slice (some ⟨bk, off, none⟩) l.length cap) g b tp nr me), .agg #[I64 step, (.slice (some ⟨bk1, off1, none⟩) bl.length cap1)], I64 kn, I64 kd] := by simp [c3, c2, c1, c0, cA, twoB]
      rw [e] at key
      exact key
end Go.Proofs.YtjpjnjidchdlbaaDoor
