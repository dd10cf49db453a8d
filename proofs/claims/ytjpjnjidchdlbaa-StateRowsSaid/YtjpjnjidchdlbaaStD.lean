/-
  state.Least (no condition).
-/
import Derived.Test.YtjpjnjidchdlbaaStC
namespace Go.Proofs.Ytjpjnjidchdlbaa
set_option linter.unusedSimpArgs false
set_option linter.unusedVariables false
open Go
set_option maxRecDepth 100000
set_option maxHeartbeats 4000000
theorem aw_stateM {P : Program} {G : List (Nat × Obj)} {ro : Option Nat} {c : Code} {s : St} {K : Exit → St → Prop} (h : ∀ s0, s0 = s → AW P G ro c s0 K) : AW P G ro c s K := h s rfl
theorem toNat0 (i : Nat) : ((i : Int).toNat - 0) = i := by simp
theorem sliceAddrZ (b off : Nat) (m sz : Nat) : sliceAddr ⟨b, off, some 0⟩ 0 m sz = ⟨b, off, some 0⟩ := by
  unfold sliceAddr
  split <;> simp
def fst2 : Value → Int
  | .tuple ⟨[.int _ n, _]⟩ => n
  | _ => 0
def snd2 : Value → Int
  | .tuple ⟨[_, .int _ n]⟩ => n
  | _ => 0
def farW (x y : Bd) : Value := far2R (ok6 x.a x.b x.c y.a y.b y.c && fine3 (wrapS .i64 (x.a - y.a)) (wrapS .i64 (x.b - y.b)) (wrapS .i64 (x.c - y.c))) (wrapS .i64 (x.a - y.a)) (wrapS .i64 (x.b - y.b)) (wrapS .i64 (x.c - y.c))
def farV (x y : Bd) : Int := fst2 (farW x y)
theorem farW_eq (x y : Bd) : farW x y = .tuple #[I64 (farV x y), I64 (snd2 (farW x y))] := rfl
theorem Far_c (G) (x y : Bd) : AC Try.prog G 20 [V3 x.a x.b x.c, V3 y.a y.b y.c] [] (fun v h => (∃ e, v = .tuple #[I64 (farV x y), I64 e]) ∧ h = []) := by
  refine ac_mono (Far2_c G x.a x.b x.c y.a y.b y.c) ?_
  rintro v h ⟨rfl, rfl⟩
  exact ⟨⟨_, farW_eq x y⟩, rfl⟩
def stepL (s : Int × Bool) (d : Int) : Int × Bool := match !s.2 || decide (d < s.1) with
  | true => (d, true)
  | false => s
def inL (x : Bd) (ys : List Bd) (s : Int × Bool) : Int × Bool := ys.foldl (fun s y => stepL s (farV x y)) s
theorem inL_succ {x y : Bd} {l : List Bd} {k : Nat} {s : Int × Bool} (hy : l[k]? = some y) : inL x (l.take (k + 1)) s = stepL (inL x (l.take k) s) (farV x y) := by
  have h1 : k < l.length := (List.getElem?_eq_some_iff.1 hy).1
  unfold inL
  rw [List.take_succ_eq_append_getElem h1, List.foldl_append, (List.getElem?_eq_some_iff.1 hy).2]
  rfl
def leastP (l : List Bd) : Nat → Int × Bool
  | 0 => (0, false)
  | i + 1 => match l[i]? with
    | some x => inL x (l.take i) (leastP l i)
    | none => leastP l i
theorem leastP_succ {l : List Bd} {i : Nat} {x : Bd} (hx : l[i]? = some x) : leastP l (i + 1) = inL x (l.take i) (leastP l i) := by
  rw [leastP, hx]
def leastF (step : Int) (l : List Bd) : Int × Bool := match okState step l with
  | true => leastP l l.length
  | false => (0, false)
inductive J30 (n : Int) (b : Bool) (A0 A1 A5 A6 A7 A8 A9 : Value) (o0 o1 : Obj) (rest : List Obj) (d : List Nat) (S : Nat → Bool) : St → Prop where
  | mk (x19 x20 : Value) (f0 : S 0 = true → x19 = I64 n) (f1 : S 1 = true → x20 = .bool b) : J30 n b A0 A1 A5 A6 A7 A8 A9 o0 o1 rest d S
      ⟨[[A0, A1, ptr 2 0, ptr 3 0, undef, A5, A6, A7, A8, A9, undef, undef, undef, undef, undef, undef], [undef, undef, undef, x19, x20]],
        o0 :: o1 :: .cells #[I64 n] 3 :: .cells #[.bool b] 4 :: rest, d⟩
theorem Least_r (G) (step : Int) (c0 : Array Value) (t0 : TypeId) (off cap : Nat) (l : List Bd) (hw : WinB c0 off l) (hcap : l.length ≤ cap) (hl : l.length ≤ 1000000000000) :
    AC Try.prog G 30 [.agg #[I64 step, slc 0 off l.length cap]] [.pending c0 t0] (fun v h => v = .tuple #[I64 (leastF step l).1, .bool (leastF step l).2] ∧ h = [.pending c0 t0]) := by
  refine ac_of_body tabOk has30 ?_
  unfold BodyOk
  conv => whnf
  refine ac_mono (Right_s G step (l := l) (h := [.pending c0 t0, .cells #[I64 step, slc 0 off l.length cap] 42, .cells #[I64 0] 3, .cells #[.bool false] 4]) (.inr ⟨0, off, cap, c0, t0, rfl, .inl rfl, hw, hcap⟩) hl) ?_
  rintro v h' ⟨rfl, rfl⟩
  conv => whnf
  unfold leastF
  refine ways (fun h1 => ?_) (fun h1 => ?_) <;> conv => whnf
  · refine ⟨rfl, fin_turnedK rfl ?_⟩
    conv => whnf
    rw [notF h1]
    exact ⟨rfl, rfl⟩
  rw [notT h1]
  refine ac_of_body tabOk has46 ?_
  unfold BodyOk
  conv => whnf
  refine ⟨rfl, fin_all [_, _, _, _] [_] rfl rfl rfl rfl rfl ?_⟩
  conv => whnf
  refine aw_rangeK tabOk ?_
  conv => whnf
  intro ln fn
  refine ac_of_body tabOk has56 ?_
  unfold BodyOk
  conv => whnf
  refine aw_stateM fun s0 hs0 => ?_
  refine aw_invT tabOk [[true, true, false, false, false, false, false, false, false, false, true, true, true, false, false, false], [false, false, false, false, false, false, false, false, false, false, false, false, false, false, false, false], [false, false, false, false, false, false, false, false]] (fun m s' => ∃ (i : Nat) (s : Int × Bool), m = l.length - i ∧ i ≤ l.length ∧ leastP l i = s ∧
    s' = ⟨[[.func (.yield ln) #[] #[], ptr 4 0, .chan none, .chan none, .chan none, .chan none, .chan none, .chan none, .chan none, .chan none, slc 0 off l.length cap, I64 (l.length : Int), I64 (i : Int), .chan none, .chan none, .chan none],
      [.chan none, .chan none, .chan none, .chan none, .chan none, .chan none, .chan none, .chan none, .chan none, .chan none, .chan none, .chan none, .chan none, .chan none, .chan none, .chan none],
      [.chan none, .chan none, .chan none, .chan none, .chan none, .chan none, .chan none, .chan none]],
      (s0.h.set 2 (.cells #[I64 s.1] 3)).set 3 (.cells #[.bool s.2] 4), s0.d⟩) l.length ?_ ⟨0, (0, false), rfl, Nat.zero_le _, rfl, ?_⟩
  rotate_left
  · subst hs0
    rfl
  rintro m s' ⟨i, s, rfl, hi, hs, rfl⟩
  subst hs0
  conv => whnf
  refine ways (fun h2 => ?_) (fun h2 => ?_) <;> conv => whnf
  · have hlt : i < l.length := by have := of_decide_eq_true h2; omega
    obtain ⟨x, hx⟩ : ∃ x, l[i]? = some x := ⟨_, List.getElem?_eq_getElem hlt⟩
    refine way1 (by rw [decide_eq_true_iff]; omega) ?_
    conv => whnf
    refine hw.body hx ?_
    conv => whnf
    refine way1 (by rw [decide_eq_true_iff]; omega) ?_
    conv => whnf
    rw [toNat0, sliceAddrZ]
    refine aw_stateM fun s1 hs1 => ?_
    refine aw_mono (K := fun e s' => e = .exit 2 ∧ s' = ⟨[[.func (.yield ln) #[] #[], ptr 4 0, .chan none, I64 (i : Int), ptr 7 0, .chan none, .chan none, .chan none, .chan none, .chan none, slc 0 off l.length cap, I64 (l.length : Int), I64 (i : Int), .chan none, .chan none, .chan none],
      [.chan none, .chan none, .chan none, .chan none, slc 0 off i cap, I64 (i : Int), I64 (i : Int), .bool (decide ((i : Int) < (i : Int))), .chan none, .chan none, .chan none, .chan none, .chan none, .chan none, .chan none, .chan none],
      [.chan none, .chan none, .chan none, .chan none, .chan none, .chan none, .chan none, .chan none]],
        (s1.h.set 2 (.cells #[I64 (inL x (l.take i) s).1] 3)).set 3 (.cells #[.bool (inL x (l.take i) s).2] 4), s1.d⟩) ?_ ?_
    rotate_left
    · rintro e s' ⟨rfl, rfl⟩
      subst hs1
      conv => whnf
      rw [show wrapS .i64 ((i : Int) + 1) = ((i + 1 : Nat) : Int) by rw [wrapI (by omega) (by omega)]; omega]
      exact ⟨rfl, rfl, rfl, rfl, l.length - (i + 1), by omega, i + 1, inL x (l.take i) s, rfl, by omega, by rw [leastP_succ hx, hs], rfl⟩
    refine aw_invT tabOk [[true, true, false, true, true, false, false, false, false, false, true, true, true, false, false, false], [false, false, false, false, true, true, true, false, false, false, false, false, false, false, false, false], [false, false, false, false, false, false, false, false]] (fun m s' => ∃ (k : Nat) (s2 : Int × Bool), m = i - k ∧ k ≤ i ∧ inL x (l.take k) s = s2 ∧
      s' = ⟨[[.func (.yield ln) #[] #[], ptr 4 0, .chan none, I64 (i : Int), ptr 7 0, .chan none, .chan none, .chan none, .chan none, .chan none, slc 0 off l.length cap, I64 (l.length : Int), I64 (i : Int), .chan none, .chan none, .chan none],
      [.chan none, .chan none, .chan none, .chan none, slc 0 off i cap, I64 (i : Int), I64 (k : Int), .chan none, .chan none, .chan none, .chan none, .chan none, .chan none, .chan none, .chan none, .chan none],
      [.chan none, .chan none, .chan none, .chan none, .chan none, .chan none, .chan none, .chan none]],
        (s1.h.set 2 (.cells #[I64 s2.1] 3)).set 3 (.cells #[.bool s2.2] 4), s1.d⟩) i ?_ ⟨0, s, rfl, Nat.zero_le _, rfl, ?_⟩
    rotate_left
    · subst hs1
      rfl
    rintro m s' ⟨k, s2, rfl, hk, hs2, rfl⟩
    subst hs1
    conv => whnf
    refine ways (fun h3 => ?_) (fun h3 => ?_) <;> conv => whnf
    · have hlt2 : k < i := by have := of_decide_eq_true h3; omega
      obtain ⟨y, hy⟩ : ∃ y, l[k]? = some y := ⟨_, List.getElem?_eq_getElem (by omega)⟩
      refine way1 (by rw [decide_eq_true_iff]; omega) ?_
      conv => whnf
      refine hw.body hy ?_
      conv => whnf
      refine ac_pure (Far_c G x y) rfl ?_
      rintro v h' ⟨⟨e, rfl⟩, rfl⟩
      refine ⟨rfl, rfl, ?_⟩
      conv => whnf
      have hnx : wrapS .i64 ((k : Int) + 1) = ((k + 1 : Nat) : Int) := by rw [wrapI (by omega) (by omega)]; omega
      obtain ⟨n2, b2⟩ := s2
      refine ao_yieldK 6 2 rfl rfl (by conv => whnf) ?_
      conv => whnf
      cases b2
      · repeat' first
          | (refine run_ok tabOk _ _ _ ?_; conv => whnf)
          | (refine And.intro rfl (And.intro rfl ?_); conv => whnf)
          | (refine And.intro rfl ?_; conv => whnf)
        rw [hnx]
        exact ⟨i - (k + 1), by omega, k + 1, (farV x y, true), rfl, by omega, by rw [inL_succ hy, hs2]; rfl, rfl⟩
      · repeat' first
          | (refine run_ok tabOk _ _ _ ?_; conv => whnf)
          | (refine And.intro rfl (And.intro rfl ?_); conv => whnf)
          | (refine And.intro rfl ?_; conv => whnf)
        refine ways (fun h4 => ?_) (fun h4 => ?_) <;> conv => whnf
        · repeat' first
            | (refine run_ok tabOk _ _ _ ?_; conv => whnf)
            | (refine And.intro rfl (And.intro rfl ?_); conv => whnf)
            | (refine And.intro rfl ?_; conv => whnf)
          rw [hnx]
          exact ⟨i - (k + 1), by omega, k + 1, (farV x y, true), rfl, by omega, by rw [inL_succ hy, hs2]; unfold stepL; rw [show decide (farV x y < (n2, true).1) = true from h4]; rfl, rfl⟩
        · repeat' first
            | (refine run_ok tabOk _ _ _ ?_; conv => whnf)
            | (refine And.intro rfl (And.intro rfl ?_); conv => whnf)
            | (refine And.intro rfl ?_; conv => whnf)
          rw [hnx]
          exact ⟨i - (k + 1), by omega, k + 1, (n2, true), rfl, by omega, by rw [inL_succ hy, hs2]; unfold stepL; rw [show decide (farV x y < (n2, true).1) = false from h4]; rfl, rfl⟩
    · have hin : k = i := by have := of_decide_eq_false h3; omega
      subst hin
      subst hs2
      exact ⟨rfl, rfl⟩
  · have hin : i = l.length := by have := of_decide_eq_false h2; omega
    subst hin
    subst hs
    refine And.intro rfl (fin_turnedK rfl ?_)
    conv => whnf
    repeat' first
      | (refine And.intro (Eq.refl true) ?_)
      | (refine And.intro rfl (And.intro (fun h => by cases h) ?_); conv => whnf)
      | (refine And.intro rfl (And.intro rfl ?_); conv => whnf)
      | (refine And.intro rfl ?_; conv => whnf)
    refine ad_inv tabOk (by kernel_rfl) (by kernel_rfl) (fun S s => J30 (leastP l l.length).1 (leastP l l.length).2 ?A0 ?A1 ?A5 ?A6 ?A7 ?A8 ?A9 ?o0 ?o1 ?rest ?d S s) ?h0 ?h1 ?h2
    case h0 => exact J30.mk (S := fun _ => false) undef undef (fun h => absurd h Bool.false_ne_true) (fun h => absurd h Bool.false_ne_true)
    case h1 =>
      conv => whnf
      refine ⟨?_, ?_⟩
      · rintro S s ⟨x19, x20, f0, f1⟩ hS hp
        conv => whnf
        exact J30.mk (S := fun j => S j || Nat.beq j 0) (I64 (leastP l l.length).1) x20 (fun _ => rfl) (fun h => f1 (orF rfl h))
      conv => whnf
      refine ⟨?_, ?_⟩
      · rintro S s ⟨x19, x20, f0, f1⟩ hS hp
        conv => whnf
        exact J30.mk (S := fun j => S j || Nat.beq j 1) x19 (.bool (leastP l l.length).2) (fun h => f0 (orF rfl h)) (fun _ => rfl)
      conv => whnf
      refine ⟨?_, ?_⟩
      · rintro S s ⟨x19, x20, f0, f1⟩ hS hp
        have z := f0 (hp 0 (by decide))
        subst z
        conv => whnf
        exact J30.mk (S := fun j => S j || Nat.beq j 2) (I64 (leastP l l.length).1) x20 (fun _ => rfl) (fun h => f1 (orF rfl h))
      conv => whnf
      refine ⟨?_, ?_⟩
      · rintro S s ⟨x19, x20, f0, f1⟩ hS hp
        have z := f1 (hp 1 (by decide))
        subst z
        conv => whnf
        exact J30.mk (S := fun j => S j || Nat.beq j 3) x19 (.bool (leastP l l.length).2) (fun h => f0 (orF rfl h)) (fun _ => rfl)
      conv => whnf
      trivial
    rintro S s hall ⟨x19, x20, f0, f1⟩ _
    conv => whnf
    refine ⟨rfl, fin_turnedK rfl ?_⟩
    conv => whnf
    exact ⟨rfl, rfl⟩
theorem leastF_nil (step : Int) : leastF step [] = (0, false) := by
  unfold leastF
  rw [okState_nil]
theorem Least_n (G) (step : Int) :
    AC Try.prog G 30 [.agg #[I64 step, .slice none 0 0]] [] (fun v h => v = .tuple #[I64 0, .bool false] ∧ h = []) := by
  refine ac_of_body tabOk has30 ?_
  unfold BodyOk
  conv => whnf
  refine ac_mono (Right_s G step (l := []) (.inl ⟨rfl, rfl⟩) (by simp)) ?_
  rintro v h' ⟨rfl, rfl⟩
  conv => whnf
  rw [okState_nil]
  conv => whnf
  refine ⟨rfl, fin_turnedK rfl ?_⟩
  conv => whnf
  exact ⟨rfl, rfl⟩
theorem Least_s (G) (step : Int) {h : List Obj} {bs : Value} {l : List Bd} (hs : SlB h bs l) (hl : l.length ≤ 1000000000000) :
    AC Try.prog G 30 [.agg #[I64 step, bs]] h (fun v h' => v = .tuple #[I64 (leastF step l).1, .bool (leastF step l).2] ∧ h' = h) := by
  rcases hs with ⟨rfl, rfl⟩ | ⟨m, off, cap, c, t, rfl, h2, h4, h5⟩
  · rw [leastF_nil]
    refine ac_readF [] (Least_n G step) (by simp [r3, r2, r1, r0]) rfl cold_0 ?_
    rintro v h' ⟨rfl, rfl⟩
    exact ⟨rfl, rfl, rfl, rfl⟩
  · refine ac_readF [m] (Least_r G step c t off cap l h4 h5 hl) (by simp [r3, r2, r1, r0, rA, nu]) rfl (cold_p h2) ?_
    rintro v h' ⟨rfl, rfl⟩
    exact ⟨rfl, rfl, rfl, rfl⟩
end Go.Proofs.Ytjpjnjidchdlbaa
