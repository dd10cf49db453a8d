/-
  MomentLost: the walk (no condition).
-/
import Derived.Test.YtjpjnjidchdlbaaDoorMomJ
namespace Go.Proofs.YtjpjnjidchdlbaaDoor
set_option linter.unusedSimpArgs false
set_option linter.unusedVariables false
open Go
set_option maxRecDepth 100000
set_option maxHeartbeats 4000000
theorem new11 {b : Bool} {l : List Obj} {x y : Array Value} {t : TypeId} (hb : b = false) : (l ++ [Obj.cells y t])[l.length]? = some (.cells (bif b then x else y) t) := by rw [hb]; simp
theorem keep11 {b : Bool} {l : List Obj} {q : Nat} {x y : Array Value} {t : TypeId} (h : l[q]? = some (.cells (bif b then x else y) t)) : l[q]? = some (.cells (bif (b || false) then x else y) t) := by rw [Bool.or_false]; exact h
theorem lost_add (a b c : Int) : (wrapS .i64 (wrapS .i64 (b - a) + wrapS .i64 (c - b)) != wrapS .i64 (c - a)) = false := by
  have e : wrapS .i64 (wrapS .i64 (b - a) + wrapS .i64 (c - b)) = wrapS .i64 (c - a) := by
    rw [wrapS_eq, wrapS_eq, wrapS_eq, wrapS_eq]; simp [IntKind.wrap, IntKind.signed, IntKind.bits]; omega
  rw [e]
  simp
theorem lost_back (a : Int) {b : Int} (h : -9223372036854775808 ≤ b ∧ b ≤ 9223372036854775807) : (wrapS .i64 (a + wrapS .i64 (b - a)) != b) = false := by
  have e : wrapS .i64 (a + wrapS .i64 (b - a)) = b := by
    rw [wrapS_eq, wrapS_eq]; simp [IntKind.wrap, IntKind.signed, IntKind.bits]; omega
  rw [e]
  simp
theorem first_at {l : List Int} {y : Int} {i : Nat} (hy : y = l.headD 0) (hi : i < l.length) : (List.replicate i y ++ l.drop i)[0]? = some y := by
  cases i with
  | zero =>
    cases l with
    | nil => simp at hi
    | cons a t => simp at hy; simp [hy]
  | succ i => simp [List.replicate_succ]
theorem write_cell {c : Array Value} {i : Nat} {v : Value} {k : List Value → Prop} (hn : i < c.size) (hv : cleanV v = true)
    (h : ∀ c' : Array Value, c'.size = c.size → (∀ j : Nat, c'[j]? = if j = i then some v else c[j]?) → ((∀ x ∈ c.toList, cleanV x = true) → ∀ x ∈ c'.toList, cleanV x = true) → k c'.toList) : writeK c.toList (0 + Int.toNat (i : Int) * 1) [v] k := by
  have e : 0 + Int.toNat (i : Int) * 1 = i := by simp
  rw [e]
  refine writeK_of (by show i + 1 ≤ c.toList.length; rw [Array.length_toList]; omega) ?_
  have h2 := h (c.setIfInBounds i v) (by simp) (fun j => ?_) (fun hc x hx => ?_)
  · have e2 : (c.setIfInBounds i v).toList = c.toList.take i ++ [v] ++ c.toList.drop (i + 1) := by
      rw [Array.toList_setIfInBounds, List.set_eq_take_append_cons_drop, if_pos (by simpa using hn)]
      simp
    rw [e2] at h2
    exact h2
  · rw [Array.getElem?_setIfInBounds]
    by_cases hj : i = j
    · rw [if_pos hj, if_pos (by omega), if_pos hj.symm]
    · rw [if_neg hj, if_neg (fun h => hj h.symm)]
  · rw [Array.toList_setIfInBounds] at hx
    rcases List.mem_or_eq_of_mem_set hx with hx | rfl
    · exact hc x hx
    · exact hv
theorem win_next {l : List Int} {y : Int} {i : Nat} {c c' : Array Value} (hi : i < l.length) (hw : WinI c 0 (List.replicate i y ++ l.drop i)) (h : ∀ j : Nat, c'[j]? = if j = i then some (I64 y) else c[j]?) :
    WinI c' 0 (List.replicate (i + 1) y ++ l.drop (i + 1)) := by
  intro j x hj
  rw [Nat.zero_add, h j]
  by_cases h1 : j < i
  · rw [if_neg (by omega)]
    have := hw j x (by
      rw [List.getElem?_append_left (by simp; omega)] at hj ⊢
      rw [List.getElem?_replicate] at hj ⊢
      rw [if_pos (by omega)] at hj ⊢
      exact hj)
    rwa [Nat.zero_add] at this
  · by_cases h2 : j = i
    · rw [if_pos h2]
      rw [List.getElem?_append_left (by simp; omega), List.getElem?_replicate, if_pos (by omega)] at hj
      cases hj; rfl
    · rw [if_neg h2]
      have := hw j x (by
        rw [List.getElem?_append_right (by simp; omega)] at hj ⊢
        rw [List.length_replicate, List.getElem?_drop] at hj ⊢
        rw [← hj]; congr 1; omega)
      rwa [Nat.zero_add] at this
theorem alike_iff {l : List Int} {y : Int} (hy : y = l.headD 0) : alikeF l = decide (List.replicate l.length y = l) := by
  unfold alikeF
  rw [← hy, Bool.eq_iff_iff, List.all_eq_true, decide_eq_true_eq]
  constructor
  · intro h
    refine (List.eq_replicate_iff.2 ⟨rfl, fun b hb => ?_⟩).symm
    simpa using h b hb
  · intro h x hx
    have := (List.eq_replicate_iff.1 h.symm).2 x hx
    simp [this]
theorem has11 : Has Tryd.prog 11 Tryd.f11 := ⟨Tryd.func11, by kernel_rfl, by kernel_rfl⟩
inductive J11r (cc : Array Value) (tc : TypeId) (off l cap : Nat) (a0 a1 a2 b0 b1 b2 c0 c1 c2 g b tp nr me : Int) (S : Nat → Bool) : St → Prop where
  | mk (x18 x19 x20 x21 x22 x23 x24 x25 x26 x9 x10 x11 : Value) (q9 q10 q11 : Nat) (news : List Obj)
    (ff0 : S 0 = true → x18 = (A3 a0 a1 a2))
    (ff1 : S 1 = true → x19 = (A3 b0 b1 b2))
    (ff2 : S 2 = true → x20 = (A3 (wrapS .i64 (b0 - a0)) (wrapS .i64 (b1 - a1)) (wrapS .i64 (b2 - a2))))
    (ff3 : S 3 = true → x21 = (A3 b0 b1 b2))
    (ff4 : S 4 = true → x22 = (A3 c0 c1 c2))
    (ff5 : S 5 = true → x23 = (A3 (wrapS .i64 (c0 - b0)) (wrapS .i64 (c1 - b1)) (wrapS .i64 (c2 - b2))))
    (ff6 : S 6 = true → x24 = (A3 a0 a1 a2))
    (ff7 : S 7 = true → x25 = (A3 c0 c1 c2))
    (ff8 : S 8 = true → x26 = (A3 (wrapS .i64 (c0 - a0)) (wrapS .i64 (c1 - a1)) (wrapS .i64 (c2 - a2))))
    (ff9 : S 9 = true → x9 = ptr (q9 + 5) 0 ∧ news[q9]? = some (.cells (bif S 12 then #[I64 (wrapS .i64 (b0 - a0)), I64 (wrapS .i64 (b1 - a1)), I64 (wrapS .i64 (b2 - a2))] else #[I64 0, I64 0, I64 0]) 43))
    (ff10 : S 10 = true → x10 = ptr (q10 + 5) 0 ∧ news[q10]? = some (.cells (bif S 13 then #[I64 (wrapS .i64 (c0 - b0)), I64 (wrapS .i64 (c1 - b1)), I64 (wrapS .i64 (c2 - b2))] else #[I64 0, I64 0, I64 0]) 43))
    (ff11 : S 11 = true → x11 = ptr (q11 + 5) 0 ∧ news[q11]? = some (.cells (bif S 14 then #[I64 (wrapS .i64 (c0 - a0)), I64 (wrapS .i64 (c1 - a1)), I64 (wrapS .i64 (c2 - a2))] else #[I64 0, I64 0, I64 0]) 43))
    (ff12 : S 12 = true → S 9 = true)
    (ff13 : S 13 = true → S 10 = true)
    (ff14 : S 14 = true → S 11 = true)
    (ff15 : S 9 = true → S 10 = true → q9 ≠ q10)
    (ff16 : S 9 = true → S 11 = true → q9 ≠ q11)
    (ff17 : S 10 = true → S 11 = true → q10 ≠ q11)
    (ff18 : news.length = (S 9).toNat + (S 10).toNat + (S 11).toNat) : J11r cc tc off l cap a0 a1 a2 b0 b1 b2 c0 c1 c2 g b tp nr me S ⟨[[(A3 a0 a1 a2), (A3 b0 b1 b2), (A3 c0 c1 c2), .agg (confC (slc 0 off l cap) g b tp nr me), ptr 1 0, ptr 2 0, ptr 3 0, ptr 4 0, .bool false, x9, x10, x11, undef, undef, undef, .agg (confC (slc 0 off l cap) g b tp nr me)],
      [.bool (decide ((l : Int) > 60)), undef, x18, x19, x20, x21, x22, x23, x24, x25, x26, undef, undef, undef, undef, undef],
      [undef, undef, undef, undef, undef, undef, undef, undef, undef, undef, undef, undef, undef, undef, undef, undef],
      [undef, undef, undef, undef, undef, undef, undef, undef, undef, undef, undef, undef, undef, undef, undef, undef],
      [undef, undef, undef, undef, undef, undef, undef, undef, undef, undef, undef, undef, undef, undef, undef, undef],
      [undef, undef, undef, undef, undef, undef]],
      ((.pending cc tc) :: (.cells #[I64 a0, I64 a1, I64 a2] 43) :: (.cells #[I64 b0, I64 b1, I64 b2] 43) :: (.cells #[I64 c0, I64 c1, I64 c2] 43) :: (.cells (confC (slc 0 off l cap) g b tp nr me) 39) :: news), []⟩
theorem Lost11_r (tt : TypeId) (cc : Array Value) (tc : TypeId) (off cap : Nat) (ll : List Int) (hw : WinI cc off ll) (hcap : ll.length ≤ cap) (a0 a1 a2 b0 b1 b2 c0 c1 c2 g b tp nr me : Int) (hb0 : -9223372036854775808 ≤ b0 ∧ b0 ≤ 9223372036854775807) (hb1 : -9223372036854775808 ≤ b1 ∧ b1 ≤ 9223372036854775807) (hb2 : -9223372036854775808 ≤ b2 ∧ b2 ≤ 9223372036854775807) :
    AC Tryd.prog (GM tt) 11 [(A3 a0 a1 a2), (A3 b0 b1 b2), (A3 c0 c1 c2), .agg (confC (slc 0 off ll.length cap) g b tp nr me)] [.pending cc tc] (fun v h => v = .bool true ∧ h = [.pending cc tc]) := by
  have si : SlI [.pending cc tc, .cells #[I64 a0, I64 a1, I64 a2] 43, .cells #[I64 b0, I64 b1, I64 b2] 43, .cells #[I64 c0, I64 c1, I64 c2] 43, .cells (confC (slc 0 off ll.length cap) g b tp nr me) 39] (slc 0 off ll.length cap) ll := (.inr ⟨0, off, cap, cc, tc, rfl, .inl rfl, hw, hcap⟩)
  refine ac_of_body tabOk has11 ?_
  unfold BodyOk
  conv => whnf
  refine ac_readF [0] (GreatU_r tt cc tc off cap ll.length g b tp nr me) (by simp [r3, r2, r1, r0, rA, nu]) rfl (cold_p (.inl rfl)) ?_
  rintro v h' ⟨rfl, rfl⟩
  refine ⟨rfl, rfl, ?_⟩
  conv => whnf
  refine ways (fun h1 => ?_) (fun h1 => ?_) <;> conv => whnf
  · refine ac_pure (Mwakes_c tt) rfl ?_
    rintro v h' ⟨rfl, rfl⟩
    refine ⟨rfl, rfl, ?_⟩
    conv => whnf
    refine ⟨rfl, fin_turnedK rfl ?_⟩
    conv => whnf
    exact ⟨rfl, rfl⟩
  have hl : ll.length ≤ 1000000000000 := by have := of_decide_eq_false h1; omega
  refine ad_ren (ad_inv tabOk (by kernel_rfl) (by kernel_rfl) (fun S s => J11r cc tc off ll.length cap a0 a1 a2 b0 b1 b2 c0 c1 c2 g b tp nr me S s) ?_ ?_ ?_)
  · exact J11r.mk undef undef undef undef undef undef undef undef undef undef undef undef 0 0 0 [] (fun h => absurd h Bool.false_ne_true) (fun h => absurd h Bool.false_ne_true) (fun h => absurd h Bool.false_ne_true) (fun h => absurd h Bool.false_ne_true) (fun h => absurd h Bool.false_ne_true) (fun h => absurd h Bool.false_ne_true) (fun h => absurd h Bool.false_ne_true) (fun h => absurd h Bool.false_ne_true) (fun h => absurd h Bool.false_ne_true) (fun h => absurd h Bool.false_ne_true) (fun h => absurd h Bool.false_ne_true) (fun h => absurd h Bool.false_ne_true) (fun h => absurd h Bool.false_ne_true) (fun h => absurd h Bool.false_ne_true) (fun h => absurd h Bool.false_ne_true) (fun h => absurd h Bool.false_ne_true) (fun h => absurd h Bool.false_ne_true) (fun h => absurd h Bool.false_ne_true) rfl
  · conv => whnf
    refine ⟨?_, ?_⟩
    · rintro S s ⟨x18, x19, x20, x21, x22, x23, x24, x25, x26, x9, x10, x11, q9, q10, q11, news, f_e0, f_e1, f_e2, f_e3, f_e4, f_e5, f_e6, f_e7, f_e8, f_a9, f_a10, f_a11, f_g12, f_g13, f_g14, f_n9_10, f_n9_11, f_n10_11, f_c⟩ hS hp
      conv => whnf
      exact J11r.mk (S := fun j => S j || Nat.beq j 0) ((A3 a0 a1 a2)) x19 x20 x21 x22 x23 x24 x25 x26 x9 x10 x11 q9 q10 q11 news (fun _ => rfl)
        (fun h => f_e1 (orF rfl h))
        (fun h => f_e2 (orF rfl h))
        (fun h => f_e3 (orF rfl h))
        (fun h => f_e4 (orF rfl h))
        (fun h => f_e5 (orF rfl h))
        (fun h => f_e6 (orF rfl h))
        (fun h => f_e7 (orF rfl h))
        (fun h => f_e8 (orF rfl h))
        (fun h => let q := f_a9 (orF rfl h); ⟨q.1, keep11 q.2⟩)
        (fun h => let q := f_a10 (orF rfl h); ⟨q.1, keep11 q.2⟩)
        (fun h => let q := f_a11 (orF rfl h); ⟨q.1, keep11 q.2⟩)
        (fun h => orL (f_g12 (orF rfl h)))
        (fun h => orL (f_g13 (orF rfl h)))
        (fun h => orL (f_g14 (orF rfl h)))
        (fun h h2 => f_n9_10 (orF rfl h) (orF rfl h2))
        (fun h h2 => f_n9_11 (orF rfl h) (orF rfl h2))
        (fun h h2 => f_n10_11 (orF rfl h) (orF rfl h2))
        (by rw [f_c]; simp only [Nat.beq, Bool.or_false])
    conv => whnf
    refine ⟨?_, ?_⟩
    · rintro S s ⟨x18, x19, x20, x21, x22, x23, x24, x25, x26, x9, x10, x11, q9, q10, q11, news, f_e0, f_e1, f_e2, f_e3, f_e4, f_e5, f_e6, f_e7, f_e8, f_a9, f_a10, f_a11, f_g12, f_g13, f_g14, f_n9_10, f_n9_11, f_n10_11, f_c⟩ hS hp
      conv => whnf
      exact J11r.mk (S := fun j => S j || Nat.beq j 1) x18 ((A3 b0 b1 b2)) x20 x21 x22 x23 x24 x25 x26 x9 x10 x11 q9 q10 q11 news (fun h => f_e0 (orF rfl h))
        (fun _ => rfl)
        (fun h => f_e2 (orF rfl h))
        (fun h => f_e3 (orF rfl h))
        (fun h => f_e4 (orF rfl h))
        (fun h => f_e5 (orF rfl h))
        (fun h => f_e6 (orF rfl h))
        (fun h => f_e7 (orF rfl h))
        (fun h => f_e8 (orF rfl h))
        (fun h => let q := f_a9 (orF rfl h); ⟨q.1, keep11 q.2⟩)
        (fun h => let q := f_a10 (orF rfl h); ⟨q.1, keep11 q.2⟩)
        (fun h => let q := f_a11 (orF rfl h); ⟨q.1, keep11 q.2⟩)
        (fun h => orL (f_g12 (orF rfl h)))
        (fun h => orL (f_g13 (orF rfl h)))
        (fun h => orL (f_g14 (orF rfl h)))
        (fun h h2 => f_n9_10 (orF rfl h) (orF rfl h2))
        (fun h h2 => f_n9_11 (orF rfl h) (orF rfl h2))
        (fun h h2 => f_n10_11 (orF rfl h) (orF rfl h2))
        (by rw [f_c]; simp only [Nat.beq, Bool.or_false])
    conv => whnf
    refine ⟨?_, ?_⟩
    · rintro S s ⟨x18, x19, x20, x21, x22, x23, x24, x25, x26, x9, x10, x11, q9, q10, q11, news, f_e0, f_e1, f_e2, f_e3, f_e4, f_e5, f_e6, f_e7, f_e8, f_a9, f_a10, f_a11, f_g12, f_g13, f_g14, f_n9_10, f_n9_11, f_n10_11, f_c⟩ hS hp
      have z0 := f_e0 (hp 0 (by decide))
      subst z0
      have z1 := f_e1 (hp 1 (by decide))
      subst z1
      conv => whnf
      refine ac_pure (Lost_c (GM tt) a0 a1 a2 b0 b1 b2) rfl ?_
      rintro v h' ⟨rfl, rfl⟩
      refine ⟨rfl, rfl, ?_⟩
      conv => whnf
      exact J11r.mk (S := fun j => S j || Nat.beq j 2) ((A3 a0 a1 a2)) ((A3 b0 b1 b2)) ((A3 (wrapS .i64 (b0 - a0)) (wrapS .i64 (b1 - a1)) (wrapS .i64 (b2 - a2)))) x21 x22 x23 x24 x25 x26 x9 x10 x11 q9 q10 q11 news (fun h => f_e0 (orF rfl h))
        (fun h => f_e1 (orF rfl h))
        (fun _ => rfl)
        (fun h => f_e3 (orF rfl h))
        (fun h => f_e4 (orF rfl h))
        (fun h => f_e5 (orF rfl h))
        (fun h => f_e6 (orF rfl h))
        (fun h => f_e7 (orF rfl h))
        (fun h => f_e8 (orF rfl h))
        (fun h => let q := f_a9 (orF rfl h); ⟨q.1, keep11 q.2⟩)
        (fun h => let q := f_a10 (orF rfl h); ⟨q.1, keep11 q.2⟩)
        (fun h => let q := f_a11 (orF rfl h); ⟨q.1, keep11 q.2⟩)
        (fun h => orL (f_g12 (orF rfl h)))
        (fun h => orL (f_g13 (orF rfl h)))
        (fun h => orL (f_g14 (orF rfl h)))
        (fun h h2 => f_n9_10 (orF rfl h) (orF rfl h2))
        (fun h h2 => f_n9_11 (orF rfl h) (orF rfl h2))
        (fun h h2 => f_n10_11 (orF rfl h) (orF rfl h2))
        (by rw [f_c]; simp only [Nat.beq, Bool.or_false])
    conv => whnf
    refine ⟨?_, ?_⟩
    · rintro S s ⟨x18, x19, x20, x21, x22, x23, x24, x25, x26, x9, x10, x11, q9, q10, q11, news, f_e0, f_e1, f_e2, f_e3, f_e4, f_e5, f_e6, f_e7, f_e8, f_a9, f_a10, f_a11, f_g12, f_g13, f_g14, f_n9_10, f_n9_11, f_n10_11, f_c⟩ hS hp
      conv => whnf
      exact J11r.mk (S := fun j => S j || Nat.beq j 3) x18 x19 x20 ((A3 b0 b1 b2)) x22 x23 x24 x25 x26 x9 x10 x11 q9 q10 q11 news (fun h => f_e0 (orF rfl h))
        (fun h => f_e1 (orF rfl h))
        (fun h => f_e2 (orF rfl h))
        (fun _ => rfl)
        (fun h => f_e4 (orF rfl h))
        (fun h => f_e5 (orF rfl h))
        (fun h => f_e6 (orF rfl h))
        (fun h => f_e7 (orF rfl h))
        (fun h => f_e8 (orF rfl h))
        (fun h => let q := f_a9 (orF rfl h); ⟨q.1, keep11 q.2⟩)
        (fun h => let q := f_a10 (orF rfl h); ⟨q.1, keep11 q.2⟩)
        (fun h => let q := f_a11 (orF rfl h); ⟨q.1, keep11 q.2⟩)
        (fun h => orL (f_g12 (orF rfl h)))
        (fun h => orL (f_g13 (orF rfl h)))
        (fun h => orL (f_g14 (orF rfl h)))
        (fun h h2 => f_n9_10 (orF rfl h) (orF rfl h2))
        (fun h h2 => f_n9_11 (orF rfl h) (orF rfl h2))
        (fun h h2 => f_n10_11 (orF rfl h) (orF rfl h2))
        (by rw [f_c]; simp only [Nat.beq, Bool.or_false])
    conv => whnf
    refine ⟨?_, ?_⟩
    · rintro S s ⟨x18, x19, x20, x21, x22, x23, x24, x25, x26, x9, x10, x11, q9, q10, q11, news, f_e0, f_e1, f_e2, f_e3, f_e4, f_e5, f_e6, f_e7, f_e8, f_a9, f_a10, f_a11, f_g12, f_g13, f_g14, f_n9_10, f_n9_11, f_n10_11, f_c⟩ hS hp
      conv => whnf
      exact J11r.mk (S := fun j => S j || Nat.beq j 4) x18 x19 x20 x21 ((A3 c0 c1 c2)) x23 x24 x25 x26 x9 x10 x11 q9 q10 q11 news (fun h => f_e0 (orF rfl h))
        (fun h => f_e1 (orF rfl h))
        (fun h => f_e2 (orF rfl h))
        (fun h => f_e3 (orF rfl h))
        (fun _ => rfl)
        (fun h => f_e5 (orF rfl h))
        (fun h => f_e6 (orF rfl h))
        (fun h => f_e7 (orF rfl h))
        (fun h => f_e8 (orF rfl h))
        (fun h => let q := f_a9 (orF rfl h); ⟨q.1, keep11 q.2⟩)
        (fun h => let q := f_a10 (orF rfl h); ⟨q.1, keep11 q.2⟩)
        (fun h => let q := f_a11 (orF rfl h); ⟨q.1, keep11 q.2⟩)
        (fun h => orL (f_g12 (orF rfl h)))
        (fun h => orL (f_g13 (orF rfl h)))
        (fun h => orL (f_g14 (orF rfl h)))
        (fun h h2 => f_n9_10 (orF rfl h) (orF rfl h2))
        (fun h h2 => f_n9_11 (orF rfl h) (orF rfl h2))
        (fun h h2 => f_n10_11 (orF rfl h) (orF rfl h2))
        (by rw [f_c]; simp only [Nat.beq, Bool.or_false])
    conv => whnf
    refine ⟨?_, ?_⟩
    · rintro S s ⟨x18, x19, x20, x21, x22, x23, x24, x25, x26, x9, x10, x11, q9, q10, q11, news, f_e0, f_e1, f_e2, f_e3, f_e4, f_e5, f_e6, f_e7, f_e8, f_a9, f_a10, f_a11, f_g12, f_g13, f_g14, f_n9_10, f_n9_11, f_n10_11, f_c⟩ hS hp
      have z3 := f_e3 (hp 3 (by decide))
      subst z3
      have z4 := f_e4 (hp 4 (by decide))
      subst z4
      conv => whnf
      refine ac_pure (Lost_c (GM tt) b0 b1 b2 c0 c1 c2) rfl ?_
      rintro v h' ⟨rfl, rfl⟩
      refine ⟨rfl, rfl, ?_⟩
      conv => whnf
      exact J11r.mk (S := fun j => S j || Nat.beq j 5) x18 x19 x20 ((A3 b0 b1 b2)) ((A3 c0 c1 c2)) ((A3 (wrapS .i64 (c0 - b0)) (wrapS .i64 (c1 - b1)) (wrapS .i64 (c2 - b2)))) x24 x25 x26 x9 x10 x11 q9 q10 q11 news (fun h => f_e0 (orF rfl h))
        (fun h => f_e1 (orF rfl h))
        (fun h => f_e2 (orF rfl h))
        (fun h => f_e3 (orF rfl h))
        (fun h => f_e4 (orF rfl h))
        (fun _ => rfl)
        (fun h => f_e6 (orF rfl h))
        (fun h => f_e7 (orF rfl h))
        (fun h => f_e8 (orF rfl h))
        (fun h => let q := f_a9 (orF rfl h); ⟨q.1, keep11 q.2⟩)
        (fun h => let q := f_a10 (orF rfl h); ⟨q.1, keep11 q.2⟩)
        (fun h => let q := f_a11 (orF rfl h); ⟨q.1, keep11 q.2⟩)
        (fun h => orL (f_g12 (orF rfl h)))
        (fun h => orL (f_g13 (orF rfl h)))
        (fun h => orL (f_g14 (orF rfl h)))
        (fun h h2 => f_n9_10 (orF rfl h) (orF rfl h2))
        (fun h h2 => f_n9_11 (orF rfl h) (orF rfl h2))
        (fun h h2 => f_n10_11 (orF rfl h) (orF rfl h2))
        (by rw [f_c]; simp only [Nat.beq, Bool.or_false])
    conv => whnf
    refine ⟨?_, ?_⟩
    · rintro S s ⟨x18, x19, x20, x21, x22, x23, x24, x25, x26, x9, x10, x11, q9, q10, q11, news, f_e0, f_e1, f_e2, f_e3, f_e4, f_e5, f_e6, f_e7, f_e8, f_a9, f_a10, f_a11, f_g12, f_g13, f_g14, f_n9_10, f_n9_11, f_n10_11, f_c⟩ hS hp
      conv => whnf
      exact J11r.mk (S := fun j => S j || Nat.beq j 6) x18 x19 x20 x21 x22 x23 ((A3 a0 a1 a2)) x25 x26 x9 x10 x11 q9 q10 q11 news (fun h => f_e0 (orF rfl h))
        (fun h => f_e1 (orF rfl h))
        (fun h => f_e2 (orF rfl h))
        (fun h => f_e3 (orF rfl h))
        (fun h => f_e4 (orF rfl h))
        (fun h => f_e5 (orF rfl h))
        (fun _ => rfl)
        (fun h => f_e7 (orF rfl h))
        (fun h => f_e8 (orF rfl h))
        (fun h => let q := f_a9 (orF rfl h); ⟨q.1, keep11 q.2⟩)
        (fun h => let q := f_a10 (orF rfl h); ⟨q.1, keep11 q.2⟩)
        (fun h => let q := f_a11 (orF rfl h); ⟨q.1, keep11 q.2⟩)
        (fun h => orL (f_g12 (orF rfl h)))
        (fun h => orL (f_g13 (orF rfl h)))
        (fun h => orL (f_g14 (orF rfl h)))
        (fun h h2 => f_n9_10 (orF rfl h) (orF rfl h2))
        (fun h h2 => f_n9_11 (orF rfl h) (orF rfl h2))
        (fun h h2 => f_n10_11 (orF rfl h) (orF rfl h2))
        (by rw [f_c]; simp only [Nat.beq, Bool.or_false])
    conv => whnf
    refine ⟨?_, ?_⟩
    · rintro S s ⟨x18, x19, x20, x21, x22, x23, x24, x25, x26, x9, x10, x11, q9, q10, q11, news, f_e0, f_e1, f_e2, f_e3, f_e4, f_e5, f_e6, f_e7, f_e8, f_a9, f_a10, f_a11, f_g12, f_g13, f_g14, f_n9_10, f_n9_11, f_n10_11, f_c⟩ hS hp
      conv => whnf
      exact J11r.mk (S := fun j => S j || Nat.beq j 7) x18 x19 x20 x21 x22 x23 x24 ((A3 c0 c1 c2)) x26 x9 x10 x11 q9 q10 q11 news (fun h => f_e0 (orF rfl h))
        (fun h => f_e1 (orF rfl h))
        (fun h => f_e2 (orF rfl h))
        (fun h => f_e3 (orF rfl h))
        (fun h => f_e4 (orF rfl h))
        (fun h => f_e5 (orF rfl h))
        (fun h => f_e6 (orF rfl h))
        (fun _ => rfl)
        (fun h => f_e8 (orF rfl h))
        (fun h => let q := f_a9 (orF rfl h); ⟨q.1, keep11 q.2⟩)
        (fun h => let q := f_a10 (orF rfl h); ⟨q.1, keep11 q.2⟩)
        (fun h => let q := f_a11 (orF rfl h); ⟨q.1, keep11 q.2⟩)
        (fun h => orL (f_g12 (orF rfl h)))
        (fun h => orL (f_g13 (orF rfl h)))
        (fun h => orL (f_g14 (orF rfl h)))
        (fun h h2 => f_n9_10 (orF rfl h) (orF rfl h2))
        (fun h h2 => f_n9_11 (orF rfl h) (orF rfl h2))
        (fun h h2 => f_n10_11 (orF rfl h) (orF rfl h2))
        (by rw [f_c]; simp only [Nat.beq, Bool.or_false])
    conv => whnf
    refine ⟨?_, ?_⟩
    · rintro S s ⟨x18, x19, x20, x21, x22, x23, x24, x25, x26, x9, x10, x11, q9, q10, q11, news, f_e0, f_e1, f_e2, f_e3, f_e4, f_e5, f_e6, f_e7, f_e8, f_a9, f_a10, f_a11, f_g12, f_g13, f_g14, f_n9_10, f_n9_11, f_n10_11, f_c⟩ hS hp
      have z6 := f_e6 (hp 6 (by decide))
      subst z6
      have z7 := f_e7 (hp 7 (by decide))
      subst z7
      conv => whnf
      refine ac_pure (Lost_c (GM tt) a0 a1 a2 c0 c1 c2) rfl ?_
      rintro v h' ⟨rfl, rfl⟩
      refine ⟨rfl, rfl, ?_⟩
      conv => whnf
      exact J11r.mk (S := fun j => S j || Nat.beq j 8) x18 x19 x20 x21 x22 x23 ((A3 a0 a1 a2)) ((A3 c0 c1 c2)) ((A3 (wrapS .i64 (c0 - a0)) (wrapS .i64 (c1 - a1)) (wrapS .i64 (c2 - a2)))) x9 x10 x11 q9 q10 q11 news (fun h => f_e0 (orF rfl h))
        (fun h => f_e1 (orF rfl h))
        (fun h => f_e2 (orF rfl h))
        (fun h => f_e3 (orF rfl h))
        (fun h => f_e4 (orF rfl h))
        (fun h => f_e5 (orF rfl h))
        (fun h => f_e6 (orF rfl h))
        (fun h => f_e7 (orF rfl h))
        (fun _ => rfl)
        (fun h => let q := f_a9 (orF rfl h); ⟨q.1, keep11 q.2⟩)
        (fun h => let q := f_a10 (orF rfl h); ⟨q.1, keep11 q.2⟩)
        (fun h => let q := f_a11 (orF rfl h); ⟨q.1, keep11 q.2⟩)
        (fun h => orL (f_g12 (orF rfl h)))
        (fun h => orL (f_g13 (orF rfl h)))
        (fun h => orL (f_g14 (orF rfl h)))
        (fun h h2 => f_n9_10 (orF rfl h) (orF rfl h2))
        (fun h h2 => f_n9_11 (orF rfl h) (orF rfl h2))
        (fun h h2 => f_n10_11 (orF rfl h) (orF rfl h2))
        (by rw [f_c]; simp only [Nat.beq, Bool.or_false])
    conv => whnf
    refine ⟨?_, ?_⟩
    · rintro S s ⟨x18, x19, x20, x21, x22, x23, x24, x25, x26, x9, x10, x11, q9, q10, q11, news, f_e0, f_e1, f_e2, f_e3, f_e4, f_e5, f_e6, f_e7, f_e8, f_a9, f_a10, f_a11, f_g12, f_g13, f_g14, f_n9_10, f_n9_11, f_n10_11, f_c⟩ hS hp
      conv => whnf
      refine cnt_of ?_
      conv => whnf
      refine app_of ?_
      conv => whnf
      exact J11r.mk (S := fun j => S j || Nat.beq j 9) x18 x19 x20 x21 x22 x23 x24 x25 x26 (ptr (news.length + 5) 0) x10 x11 news.length q10 q11 (news ++ [.cells #[I64 0, I64 0, I64 0] 43]) (fun h => f_e0 (orF rfl h))
        (fun h => f_e1 (orF rfl h))
        (fun h => f_e2 (orF rfl h))
        (fun h => f_e3 (orF rfl h))
        (fun h => f_e4 (orF rfl h))
        (fun h => f_e5 (orF rfl h))
        (fun h => f_e6 (orF rfl h))
        (fun h => f_e7 (orF rfl h))
        (fun h => f_e8 (orF rfl h))
        (fun _ => ⟨rfl, new11 (noS f_g12 hS rfl)⟩)
        (fun h => let q := f_a10 (orF rfl h); ⟨q.1, getL (keep11 q.2)⟩)
        (fun h => let q := f_a11 (orF rfl h); ⟨q.1, getL (keep11 q.2)⟩)
        (fun h => orL (f_g12 (orF rfl h)))
        (fun h => orL (f_g13 (orF rfl h)))
        (fun h => orL (f_g14 (orF rfl h)))
        (fun _ h2 he => by have q := (f_a10 (orF rfl h2)).2; rw [← he] at q; have := (List.getElem?_eq_some_iff.1 q).1; omega)
        (fun _ h2 he => by have q := (f_a11 (orF rfl h2)).2; rw [← he] at q; have := (List.getElem?_eq_some_iff.1 q).1; omega)
        (fun h h2 => f_n10_11 (orF rfl h) (orF rfl h2))
        (by rw [List.length_append, f_c]; have e : S 9 = false := hS; simp only [Nat.beq, Bool.or_false, Bool.or_true, e, Bool.toNat_true, Bool.toNat_false, List.length_singleton] <;> omega)
    conv => whnf
    refine ⟨?_, ?_⟩
    · rintro S s ⟨x18, x19, x20, x21, x22, x23, x24, x25, x26, x9, x10, x11, q9, q10, q11, news, f_e0, f_e1, f_e2, f_e3, f_e4, f_e5, f_e6, f_e7, f_e8, f_a9, f_a10, f_a11, f_g12, f_g13, f_g14, f_n9_10, f_n9_11, f_n10_11, f_c⟩ hS hp
      conv => whnf
      refine cnt_of ?_
      conv => whnf
      refine app_of ?_
      conv => whnf
      exact J11r.mk (S := fun j => S j || Nat.beq j 10) x18 x19 x20 x21 x22 x23 x24 x25 x26 x9 (ptr (news.length + 5) 0) x11 q9 news.length q11 (news ++ [.cells #[I64 0, I64 0, I64 0] 43]) (fun h => f_e0 (orF rfl h))
        (fun h => f_e1 (orF rfl h))
        (fun h => f_e2 (orF rfl h))
        (fun h => f_e3 (orF rfl h))
        (fun h => f_e4 (orF rfl h))
        (fun h => f_e5 (orF rfl h))
        (fun h => f_e6 (orF rfl h))
        (fun h => f_e7 (orF rfl h))
        (fun h => f_e8 (orF rfl h))
        (fun h => let q := f_a9 (orF rfl h); ⟨q.1, getL (keep11 q.2)⟩)
        (fun _ => ⟨rfl, new11 (noS f_g13 hS rfl)⟩)
        (fun h => let q := f_a11 (orF rfl h); ⟨q.1, getL (keep11 q.2)⟩)
        (fun h => orL (f_g12 (orF rfl h)))
        (fun h => orL (f_g13 (orF rfl h)))
        (fun h => orL (f_g14 (orF rfl h)))
        (fun h _ he => by have q := (f_a9 (orF rfl h)).2; rw [he] at q; have := (List.getElem?_eq_some_iff.1 q).1; omega)
        (fun h h2 => f_n9_11 (orF rfl h) (orF rfl h2))
        (fun _ h2 he => by have q := (f_a11 (orF rfl h2)).2; rw [← he] at q; have := (List.getElem?_eq_some_iff.1 q).1; omega)
        (by rw [List.length_append, f_c]; have e : S 10 = false := hS; simp only [Nat.beq, Bool.or_false, Bool.or_true, e, Bool.toNat_true, Bool.toNat_false, List.length_singleton] <;> omega)
    conv => whnf
    refine ⟨?_, ?_⟩
    · rintro S s ⟨x18, x19, x20, x21, x22, x23, x24, x25, x26, x9, x10, x11, q9, q10, q11, news, f_e0, f_e1, f_e2, f_e3, f_e4, f_e5, f_e6, f_e7, f_e8, f_a9, f_a10, f_a11, f_g12, f_g13, f_g14, f_n9_10, f_n9_11, f_n10_11, f_c⟩ hS hp
      conv => whnf
      refine cnt_of ?_
      conv => whnf
      refine app_of ?_
      conv => whnf
      exact J11r.mk (S := fun j => S j || Nat.beq j 11) x18 x19 x20 x21 x22 x23 x24 x25 x26 x9 x10 (ptr (news.length + 5) 0) q9 q10 news.length (news ++ [.cells #[I64 0, I64 0, I64 0] 43]) (fun h => f_e0 (orF rfl h))
        (fun h => f_e1 (orF rfl h))
        (fun h => f_e2 (orF rfl h))
        (fun h => f_e3 (orF rfl h))
        (fun h => f_e4 (orF rfl h))
        (fun h => f_e5 (orF rfl h))
        (fun h => f_e6 (orF rfl h))
        (fun h => f_e7 (orF rfl h))
        (fun h => f_e8 (orF rfl h))
        (fun h => let q := f_a9 (orF rfl h); ⟨q.1, getL (keep11 q.2)⟩)
        (fun h => let q := f_a10 (orF rfl h); ⟨q.1, getL (keep11 q.2)⟩)
        (fun _ => ⟨rfl, new11 (noS f_g14 hS rfl)⟩)
        (fun h => orL (f_g12 (orF rfl h)))
        (fun h => orL (f_g13 (orF rfl h)))
        (fun h => orL (f_g14 (orF rfl h)))
        (fun h h2 => f_n9_10 (orF rfl h) (orF rfl h2))
        (fun h _ he => by have q := (f_a9 (orF rfl h)).2; rw [he] at q; have := (List.getElem?_eq_some_iff.1 q).1; omega)
        (fun h _ he => by have q := (f_a10 (orF rfl h)).2; rw [he] at q; have := (List.getElem?_eq_some_iff.1 q).1; omega)
        (by rw [List.length_append, f_c]; have e : S 11 = false := hS; simp only [Nat.beq, Bool.or_false, Bool.or_true, e, Bool.toNat_true, Bool.toNat_false, List.length_singleton] <;> omega)
    conv => whnf
    refine ⟨?_, ?_⟩
    · rintro S s ⟨x18, x19, x20, x21, x22, x23, x24, x25, x26, x9, x10, x11, q9, q10, q11, news, f_e0, f_e1, f_e2, f_e3, f_e4, f_e5, f_e6, f_e7, f_e8, f_a9, f_a10, f_a11, f_g12, f_g13, f_g14, f_n9_10, f_n9_11, f_n10_11, f_c⟩ hS hp
      have z2 := f_e2 (hp 2 (by decide))
      subst z2
      obtain ⟨zx, hm⟩ := f_a9 (hp 9 (by decide))
      subst zx
      rw [show S 12 = false from hS] at hm
      have hlt : q9 < news.length := (List.getElem?_eq_some_iff.1 hm).1
      conv => whnf
      refine nthK_of hm ?_
      conv => whnf
      refine set_of hlt ?_
      conv => whnf
      exact J11r.mk (S := fun j => S j || Nat.beq j 12) x18 x19 ((A3 (wrapS .i64 (b0 - a0)) (wrapS .i64 (b1 - a1)) (wrapS .i64 (b2 - a2)))) x21 x22 x23 x24 x25 x26 (ptr (q9 + 5) 0) x10 x11 q9 q10 q11 (news.set q9 (.cells #[I64 (wrapS .i64 (b0 - a0)), I64 (wrapS .i64 (b1 - a1)), I64 (wrapS .i64 (b2 - a2))] 43)) (fun h => f_e0 (orF rfl h))
        (fun h => f_e1 (orF rfl h))
        (fun h => f_e2 (orF rfl h))
        (fun h => f_e3 (orF rfl h))
        (fun h => f_e4 (orF rfl h))
        (fun h => f_e5 (orF rfl h))
        (fun h => f_e6 (orF rfl h))
        (fun h => f_e7 (orF rfl h))
        (fun h => f_e8 (orF rfl h))
        (fun _ => ⟨rfl, by rw [List.getElem?_set_self hlt]; simp only [Nat.beq, Bool.or_true, cond_true]⟩)
        (fun h => let q := f_a10 (orF rfl h); ⟨q.1, by rw [List.getElem?_set_ne (f_n9_10 (hp 9 (by decide)) (orF rfl h))]; exact keep11 q.2⟩)
        (fun h => let q := f_a11 (orF rfl h); ⟨q.1, by rw [List.getElem?_set_ne (f_n9_11 (hp 9 (by decide)) (orF rfl h))]; exact keep11 q.2⟩)
        (fun _ => orL (hp 9 (by decide)))
        (fun h => orL (f_g13 (orF rfl h)))
        (fun h => orL (f_g14 (orF rfl h)))
        (fun h h2 => f_n9_10 (orF rfl h) (orF rfl h2))
        (fun h h2 => f_n9_11 (orF rfl h) (orF rfl h2))
        (fun h h2 => f_n10_11 (orF rfl h) (orF rfl h2))
        (by rw [List.length_set, f_c]; simp only [Nat.beq, Bool.or_false])
    conv => whnf
    refine ⟨?_, ?_⟩
    · rintro S s ⟨x18, x19, x20, x21, x22, x23, x24, x25, x26, x9, x10, x11, q9, q10, q11, news, f_e0, f_e1, f_e2, f_e3, f_e4, f_e5, f_e6, f_e7, f_e8, f_a9, f_a10, f_a11, f_g12, f_g13, f_g14, f_n9_10, f_n9_11, f_n10_11, f_c⟩ hS hp
      have z5 := f_e5 (hp 5 (by decide))
      subst z5
      obtain ⟨zx, hm⟩ := f_a10 (hp 10 (by decide))
      subst zx
      rw [show S 13 = false from hS] at hm
      have hlt : q10 < news.length := (List.getElem?_eq_some_iff.1 hm).1
      conv => whnf
      refine nthK_of hm ?_
      conv => whnf
      refine set_of hlt ?_
      conv => whnf
      exact J11r.mk (S := fun j => S j || Nat.beq j 13) x18 x19 x20 x21 x22 ((A3 (wrapS .i64 (c0 - b0)) (wrapS .i64 (c1 - b1)) (wrapS .i64 (c2 - b2)))) x24 x25 x26 x9 (ptr (q10 + 5) 0) x11 q9 q10 q11 (news.set q10 (.cells #[I64 (wrapS .i64 (c0 - b0)), I64 (wrapS .i64 (c1 - b1)), I64 (wrapS .i64 (c2 - b2))] 43)) (fun h => f_e0 (orF rfl h))
        (fun h => f_e1 (orF rfl h))
        (fun h => f_e2 (orF rfl h))
        (fun h => f_e3 (orF rfl h))
        (fun h => f_e4 (orF rfl h))
        (fun h => f_e5 (orF rfl h))
        (fun h => f_e6 (orF rfl h))
        (fun h => f_e7 (orF rfl h))
        (fun h => f_e8 (orF rfl h))
        (fun h => let q := f_a9 (orF rfl h); ⟨q.1, by rw [List.getElem?_set_ne (fun e => f_n9_10 (orF rfl h) (hp 10 (by decide)) e.symm)]; exact keep11 q.2⟩)
        (fun _ => ⟨rfl, by rw [List.getElem?_set_self hlt]; simp only [Nat.beq, Bool.or_true, cond_true]⟩)
        (fun h => let q := f_a11 (orF rfl h); ⟨q.1, by rw [List.getElem?_set_ne (f_n10_11 (hp 10 (by decide)) (orF rfl h))]; exact keep11 q.2⟩)
        (fun h => orL (f_g12 (orF rfl h)))
        (fun _ => orL (hp 10 (by decide)))
        (fun h => orL (f_g14 (orF rfl h)))
        (fun h h2 => f_n9_10 (orF rfl h) (orF rfl h2))
        (fun h h2 => f_n9_11 (orF rfl h) (orF rfl h2))
        (fun h h2 => f_n10_11 (orF rfl h) (orF rfl h2))
        (by rw [List.length_set, f_c]; simp only [Nat.beq, Bool.or_false])
    conv => whnf
    refine ⟨?_, ?_⟩
    · rintro S s ⟨x18, x19, x20, x21, x22, x23, x24, x25, x26, x9, x10, x11, q9, q10, q11, news, f_e0, f_e1, f_e2, f_e3, f_e4, f_e5, f_e6, f_e7, f_e8, f_a9, f_a10, f_a11, f_g12, f_g13, f_g14, f_n9_10, f_n9_11, f_n10_11, f_c⟩ hS hp
      have z8 := f_e8 (hp 8 (by decide))
      subst z8
      obtain ⟨zx, hm⟩ := f_a11 (hp 11 (by decide))
      subst zx
      rw [show S 14 = false from hS] at hm
      have hlt : q11 < news.length := (List.getElem?_eq_some_iff.1 hm).1
      conv => whnf
      refine nthK_of hm ?_
      conv => whnf
      refine set_of hlt ?_
      conv => whnf
      exact J11r.mk (S := fun j => S j || Nat.beq j 14) x18 x19 x20 x21 x22 x23 x24 x25 ((A3 (wrapS .i64 (c0 - a0)) (wrapS .i64 (c1 - a1)) (wrapS .i64 (c2 - a2)))) x9 x10 (ptr (q11 + 5) 0) q9 q10 q11 (news.set q11 (.cells #[I64 (wrapS .i64 (c0 - a0)), I64 (wrapS .i64 (c1 - a1)), I64 (wrapS .i64 (c2 - a2))] 43)) (fun h => f_e0 (orF rfl h))
        (fun h => f_e1 (orF rfl h))
        (fun h => f_e2 (orF rfl h))
        (fun h => f_e3 (orF rfl h))
        (fun h => f_e4 (orF rfl h))
        (fun h => f_e5 (orF rfl h))
        (fun h => f_e6 (orF rfl h))
        (fun h => f_e7 (orF rfl h))
        (fun h => f_e8 (orF rfl h))
        (fun h => let q := f_a9 (orF rfl h); ⟨q.1, by rw [List.getElem?_set_ne (fun e => f_n9_11 (orF rfl h) (hp 11 (by decide)) e.symm)]; exact keep11 q.2⟩)
        (fun h => let q := f_a10 (orF rfl h); ⟨q.1, by rw [List.getElem?_set_ne (fun e => f_n10_11 (orF rfl h) (hp 11 (by decide)) e.symm)]; exact keep11 q.2⟩)
        (fun _ => ⟨rfl, by rw [List.getElem?_set_self hlt]; simp only [Nat.beq, Bool.or_true, cond_true]⟩)
        (fun h => orL (f_g12 (orF rfl h)))
        (fun h => orL (f_g13 (orF rfl h)))
        (fun _ => orL (hp 11 (by decide)))
        (fun h h2 => f_n9_10 (orF rfl h) (orF rfl h2))
        (fun h h2 => f_n9_11 (orF rfl h) (orF rfl h2))
        (fun h h2 => f_n10_11 (orF rfl h) (orF rfl h2))
        (by rw [List.length_set, f_c]; simp only [Nat.beq, Bool.or_false])
    conv => whnf
    trivial
  rintro S s hall ⟨x18, x19, x20, x21, x22, x23, x24, x25, x26, x9, x10, x11, q9, q10, q11, news, f_e0, f_e1, f_e2, f_e3, f_e4, f_e5, f_e6, f_e7, f_e8, f_a9, f_a10, f_a11, f_g12, f_g13, f_g14, f_n9_10, f_n9_11, f_n10_11, f_c⟩ _
  have hS : ∀ i, i < 15 → S i = true := hall
  have z0 := f_e0 (hS 0 (by decide))
  subst z0
  have z1 := f_e1 (hS 1 (by decide))
  subst z1
  have z2 := f_e2 (hS 2 (by decide))
  subst z2
  have z3 := f_e3 (hS 3 (by decide))
  subst z3
  have z4 := f_e4 (hS 4 (by decide))
  subst z4
  have z5 := f_e5 (hS 5 (by decide))
  subst z5
  have z6 := f_e6 (hS 6 (by decide))
  subst z6
  have z7 := f_e7 (hS 7 (by decide))
  subst z7
  have z8 := f_e8 (hS 8 (by decide))
  subst z8
  obtain ⟨y9, m9⟩ := f_a9 (hS 9 (by decide))
  subst y9
  rw [hS 12 (by decide)] at m9
  obtain ⟨y10, m10⟩ := f_a10 (hS 10 (by decide))
  subst y10
  rw [hS 13 (by decide)] at m10
  obtain ⟨y11, m11⟩ := f_a11 (hS 11 (by decide))
  subst y11
  rw [hS 14 (by decide)] at m11
  refine ⟨tq 5 [q9, q10, q11], ⟨[[(A3 a0 a1 a2), (A3 b0 b1 b2), (A3 c0 c1 c2), .agg (confC (slc 0 off ll.length cap) g b tp nr me), ptr 1 0, ptr 2 0, ptr 3 0, ptr 4 0, .bool false, ptr 5 0, ptr 6 0, ptr 7 0, undef, undef, undef, .agg (confC (slc 0 off ll.length cap) g b tp nr me)],
      [.bool (decide ((ll.length : Int) > 60)), undef, (A3 a0 a1 a2), (A3 b0 b1 b2), (A3 (wrapS .i64 (b0 - a0)) (wrapS .i64 (b1 - a1)) (wrapS .i64 (b2 - a2))), (A3 b0 b1 b2), (A3 c0 c1 c2), (A3 (wrapS .i64 (c0 - b0)) (wrapS .i64 (c1 - b1)) (wrapS .i64 (c2 - b2))), (A3 a0 a1 a2), (A3 c0 c1 c2), (A3 (wrapS .i64 (c0 - a0)) (wrapS .i64 (c1 - a1)) (wrapS .i64 (c2 - a2))), undef, undef, undef, undef, undef],
      [undef, undef, undef, undef, undef, undef, undef, undef, undef, undef, undef, undef, undef, undef, undef, undef],
      [undef, undef, undef, undef, undef, undef, undef, undef, undef, undef, undef, undef, undef, undef, undef, undef],
      [undef, undef, undef, undef, undef, undef, undef, undef, undef, undef, undef, undef, undef, undef, undef, undef],
      [undef, undef, undef, undef, undef, undef]],
    [.pending cc tc, .cells #[I64 a0, I64 a1, I64 a2] 43, .cells #[I64 b0, I64 b1, I64 b2] 43, .cells #[I64 c0, I64 c1, I64 c2] 43, .cells (confC (slc 0 off ll.length cap) g b tp nr me) 39, .cells #[I64 (wrapS .i64 (b0 - a0)), I64 (wrapS .i64 (b1 - a1)), I64 (wrapS .i64 (b2 - a2))] 43, .cells #[I64 (wrapS .i64 (c0 - b0)), I64 (wrapS .i64 (c1 - b1)), I64 (wrapS .i64 (c2 - b2))] 43, .cells #[I64 (wrapS .i64 (c0 - a0)), I64 (wrapS .i64 (c1 - a1)), I64 (wrapS .i64 (c2 - a2))] 43], []⟩, ?_, ?_⟩
  · refine ren_list (base := [.pending cc tc, .cells #[I64 a0, I64 a1, I64 a2] 43, .cells #[I64 b0, I64 b1, I64 b2] 43, .cells #[I64 c0, I64 c1, I64 c2] 43, .cells (confC (slc 0 off ll.length cap) g b tp nr me) 39]) (us := [.cells #[I64 (wrapS .i64 (b0 - a0)), I64 (wrapS .i64 (b1 - a1)), I64 (wrapS .i64 (b2 - a2))] 43, .cells #[I64 (wrapS .i64 (c0 - b0)), I64 (wrapS .i64 (c1 - b1)), I64 (wrapS .i64 (c2 - b2))] 43, .cells #[I64 (wrapS .i64 (c0 - a0)), I64 (wrapS .i64 (c1 - a1)), I64 (wrapS .i64 (c2 - a2))] 43]) (Nat.le_refl _) rfl ?_ ?_ rfl rfl (by simp [r3, r2, r1, r0, rA, tq, Nat.blt, undef]) rfl
    · have n1 := f_n9_10 (hS 9 (by decide)) (hS 10 (by decide))
      have n2 := f_n9_11 (hS 9 (by decide)) (hS 11 (by decide))
      have n3 := f_n10_11 (hS 10 (by decide)) (hS 11 (by decide))
      simp [n1, n2, n3]
    · intro j o hj
      match j, hj with
      | 0, hj => cases hj; exact m9
      | 1, hj => cases hj; exact m10
      | 2, hj => cases hj; exact m11
      | j + 3, hj => simp at hj
  conv => whnf
  refine aw_rounds tabOk 4 ?_
  conv => whnf
  refine ad_of tabOk (by kernel_rfl) [(0, false), (1, false), (2, false), (3, false), (4, false), (5, false), (6, false), (7, false), (8, false), (9, false), (10, false), (11, false), (12, false), (13, false), (14, false), (15, false), (16, false), (17, false), (18, false), (19, false), (20, false), (21, false), (22, false), (23, false)] (by kernel_rfl) ?_
  conv => whnf
  refine way0 (lost_add a0 b0 c0) ?_
  conv => whnf
  refine way0 (lost_back a0 hb0) ?_
  conv => whnf
  refine ad_of tabOk (by kernel_rfl) [(0, false), (1, false), (2, false), (3, false), (4, false), (5, false), (6, false), (7, false), (8, false), (9, false), (10, false), (11, false), (12, false), (13, false), (14, false), (15, false), (16, false), (17, false), (18, false), (19, false), (20, false), (21, false), (22, false), (23, false)] (by kernel_rfl) ?_
  conv => whnf
  refine way0 (lost_add a1 b1 c1) ?_
  conv => whnf
  refine way0 (lost_back a1 hb1) ?_
  conv => whnf
  refine ad_of tabOk (by kernel_rfl) [(0, false), (1, false), (2, false), (3, false), (4, false), (5, false), (6, false), (7, false), (8, false), (9, false), (10, false), (11, false), (12, false), (13, false), (14, false), (15, false), (16, false), (17, false), (18, false), (19, false), (20, false), (21, false), (22, false), (23, false)] (by kernel_rfl) ?_
  conv => whnf
  refine way0 (lost_add a2 b2 c2) ?_
  conv => whnf
  refine way0 (lost_back a2 hb2) ?_
  conv => whnf
  refine ac_mono (Own_s (GM tt) (h := [.pending cc tc, .cells #[I64 a0, I64 a1, I64 a2] 43, .cells #[I64 b0, I64 b1, I64 b2] 43, .cells #[I64 c0, I64 c1, I64 c2] 43, .cells (confC (slc 0 off ll.length cap) g b tp nr me) 39, .cells #[I64 (wrapS .i64 (b0 - a0)), I64 (wrapS .i64 (b1 - a1)), I64 (wrapS .i64 (b2 - a2))] 43, .cells #[I64 (wrapS .i64 (c0 - b0)), I64 (wrapS .i64 (c1 - b1)), I64 (wrapS .i64 (c2 - b2))] 43, .cells #[I64 (wrapS .i64 (c0 - a0)), I64 (wrapS .i64 (c1 - a1)), I64 (wrapS .i64 (c2 - a2))] 43]) (m := 8) rfl (.inr ⟨0, off, cap, cc, tc, rfl, .inl rfl, hw, hcap⟩) hl g b tp nr me) ?_
  rintro v h' ⟨cp, rest, rfl, rfl, hr⟩
  conv => whnf
  obtain ⟨y, hy⟩ : ∃ y, y = ll.headD 0 := ⟨_, rfl⟩
  refine aw_inv tabOk [[false, false, false, false, false, false, false, true, true, false, false, false, false, true, true, false], [false, false, false, false, false, false, false, false, false, false, false, false, false, false, false, false], [false, false, false, false, false, false, false, false, false, false, false, false, false, false, false, false], [false, false, false, false, false, false, false, false, false, false, false, false, false, false, false, false], [false, false, false, false, false, false, false, false, false, false, false, false, false, false, false, false], [false, false, false, false, false, false]] (fun m s' => ∃ (i : Nat) (c3 : Array Value), m = ll.length - i ∧ i ≤ ll.length ∧ ll.length ≤ c3.size ∧ (∀ x ∈ c3.toList, cleanV x = true) ∧ WinI c3 0 (List.replicate i y ++ ll.drop i) ∧
    s' = ⟨[[.chan none, .chan none, .chan none, .chan none, .chan none, .chan none, .chan none, ptr 4 0, .bool false, .chan none, .chan none, .chan none, .chan none, ptr 9 0, I64 (i : Int), .chan none],
      [.chan none, .chan none, .chan none, .chan none, .chan none, .chan none, .chan none, .chan none, .chan none, .chan none, .chan none, .chan none, .chan none, .chan none, .chan none, .chan none],
      [.chan none, .chan none, .chan none, .chan none, .chan none, .chan none, .chan none, .chan none, .chan none, .chan none, .chan none, .chan none, .chan none, .chan none, .chan none, .chan none],
      [.chan none, .chan none, .chan none, .chan none, .chan none, .chan none, .chan none, .chan none, .chan none, .chan none, .chan none, .chan none, .chan none, .chan none, .chan none, .chan none],
      [.chan none, .chan none, .chan none, .chan none, .chan none, .chan none, .chan none, .chan none, .chan none, .chan none, .chan none, .chan none, .chan none, .chan none, .chan none, .chan none],
      [.chan none, .chan none, .chan none, .chan none, .chan none, .chan none]],
      [.pending cc tc, .cells #[I64 a0, I64 a1, I64 a2] 43, .cells #[I64 b0, I64 b1, I64 b2] 43, .cells #[I64 c0, I64 c1, I64 c2] 43, .cells (confC (slc 0 off ll.length cap) g b tp nr me) 39, .cells #[I64 (wrapS .i64 (b0 - a0)), I64 (wrapS .i64 (b1 - a1)), I64 (wrapS .i64 (b2 - a2))] 43, .cells #[I64 (wrapS .i64 (c0 - b0)), I64 (wrapS .i64 (c1 - b1)), I64 (wrapS .i64 (c2 - b2))] 43, .cells #[I64 (wrapS .i64 (c0 - a0)), I64 (wrapS .i64 (c1 - a1)), I64 (wrapS .i64 (c2 - a2))] 43, .cells c3 3, .cells (confC (slc 8 0 ll.length cp) g b tp nr me) 39], []⟩) ll.length ?_ ⟨0, ⟨ll.map I64 ++ rest⟩, rfl, Nat.zero_le _, ?_, rowI_clean hr, winI_own, rfl⟩
  rotate_left
  · show _ ≤ (ll.map I64 ++ rest).length
    rw [List.length_append, List.length_map]; omega
  rintro m s' ⟨i, c3, rfl, hi, hsz, hcl, hw3, rfl⟩
  conv => whnf
  refine ways (fun h2 => ?_) (fun h2 => ?_) <;> conv => whnf
  · have hlt : i < ll.length := by have := of_decide_eq_true h2; omega
    have h0 : (List.replicate i y ++ ll.drop i)[0]? = some y := first_at hy hlt
    refine ad_of tabOk (by kernel_rfl) [(0, false), (1, false), (2, false), (3, false), (4, false), (5, false), (6, false), (7, false), (8, true)] (by kernel_rfl) ?_
    conv => whnf
    refine way1 (by rw [decide_eq_true_iff]; omega) ?_
    conv => whnf
    refine nthK_of (l := c3.toList) (hw3.at h0) ?_
    conv => whnf
    refine way1 (by rw [decide_eq_true_iff]; omega) ?_
    conv => whnf
    refine write_cell (c := c3) (i := i) (v := I64 y) (by omega) rfl ?_
    intro c' hs' hat hcl'
    conv => whnf
    rw [show wrapS .i64 ((i : Int) + 1) = ((i + 1 : Nat) : Int) by rw [wrapI (by omega) (by omega)]; omega]
    exact ⟨ll.length - (i + 1), by omega, i + 1, c', rfl, by omega, by omega, hcl' hcl, win_next hlt hw3 hat, rfl⟩
  have hin : i = ll.length := by have := of_decide_eq_false h2; omega
  subst hin
  rw [List.drop_length, List.append_nil] at hw3
  have si2 : SlI [.pending cc tc, .cells #[I64 a0, I64 a1, I64 a2] 43, .cells #[I64 b0, I64 b1, I64 b2] 43, .cells #[I64 c0, I64 c1, I64 c2] 43, .cells (confC (slc 0 off ll.length cap) g b tp nr me) 39, .cells #[I64 (wrapS .i64 (b0 - a0)), I64 (wrapS .i64 (b1 - a1)), I64 (wrapS .i64 (b2 - a2))] 43, .cells #[I64 (wrapS .i64 (c0 - b0)), I64 (wrapS .i64 (c1 - b1)), I64 (wrapS .i64 (c2 - b2))] 43, .cells #[I64 (wrapS .i64 (c0 - a0)), I64 (wrapS .i64 (c1 - a1)), I64 (wrapS .i64 (c2 - a2))] 43, .cells c3 3, .cells (confC (slc 8 0 ll.length cp) g b tp nr me) 39] (slc 0 off ll.length cap) ll := (.inr ⟨0, off, cap, cc, tc, rfl, .inl rfl, hw, hcap⟩)
  have hrl : (List.replicate ll.length y).length = ll.length := List.length_replicate
  refine ad_of tabOk (by kernel_rfl) [(0, false), (2, false), (1, false), (3, false), (4, false), (5, false), (6, false), (7, false), (8, false), (9, false), (10, false), (11, false), (12, false), (13, false), (14, false)] (by kernel_rfl) ?_
  conv => whnf
  refine Alike_q tt si2 hl g b tp nr me ?_
  conv => whnf
  refine RCheck_q tt si2 hl g b tp nr me ?_
  conv => whnf
  rw [chk_eq]
  refine ways (fun h3 => ?_) (fun h3 => ?_) <;> conv => whnf
  · refine Same_q (GM tt) (h0 := [.pending cc tc, .cells #[I64 a0, I64 a1, I64 a2] 43, .cells #[I64 b0, I64 b1, I64 b2] 43, .cells #[I64 c0, I64 c1, I64 c2] 43, .cells (confC (slc 0 off ll.length cap) g b tp nr me) 39, .cells #[I64 (wrapS .i64 (b0 - a0)), I64 (wrapS .i64 (b1 - a1)), I64 (wrapS .i64 (b2 - a2))] 43, .cells #[I64 (wrapS .i64 (c0 - b0)), I64 (wrapS .i64 (c1 - b1)), I64 (wrapS .i64 (c2 - b2))] 43, .cells #[I64 (wrapS .i64 (c0 - a0)), I64 (wrapS .i64 (c1 - a1)), I64 (wrapS .i64 (c2 - a2))] 43, .cells c3 3, .cells (confC (slc 8 0 ll.length cp) g b tp nr me) 39]) (m := 8) (cap := cp) (l := List.replicate ll.length y) hrl hcl rfl hw3 si2 (by rw [hrl]; exact hl) g b tp nr me ?_
    conv => whnf
    refine way1 (by rw [h3, alike_iff hy]; simp) ?_
    conv => whnf
    refine Mwakes_q tt ?_
    conv => whnf
    refine ⟨rfl, fin_turnedK rfl ?_⟩
    conv => whnf
    exact ⟨rfl, rfl⟩
  · refine way1 (by rw [h3]; rfl) ?_
    conv => whnf
    refine Mwakes_q tt ?_
    conv => whnf
    refine ⟨rfl, fin_turnedK rfl ?_⟩
    conv => whnf
    exact ⟨rfl, rfl⟩
inductive J11n (a0 a1 a2 b0 b1 b2 c0 c1 c2 g b tp nr me : Int) (S : Nat → Bool) : St → Prop where
  | mk (x18 x19 x20 x21 x22 x23 x24 x25 x26 x9 x10 x11 : Value) (q9 q10 q11 : Nat) (news : List Obj)
    (ff0 : S 0 = true → x18 = (A3 a0 a1 a2))
    (ff1 : S 1 = true → x19 = (A3 b0 b1 b2))
    (ff2 : S 2 = true → x20 = (A3 (wrapS .i64 (b0 - a0)) (wrapS .i64 (b1 - a1)) (wrapS .i64 (b2 - a2))))
    (ff3 : S 3 = true → x21 = (A3 b0 b1 b2))
    (ff4 : S 4 = true → x22 = (A3 c0 c1 c2))
    (ff5 : S 5 = true → x23 = (A3 (wrapS .i64 (c0 - b0)) (wrapS .i64 (c1 - b1)) (wrapS .i64 (c2 - b2))))
    (ff6 : S 6 = true → x24 = (A3 a0 a1 a2))
    (ff7 : S 7 = true → x25 = (A3 c0 c1 c2))
    (ff8 : S 8 = true → x26 = (A3 (wrapS .i64 (c0 - a0)) (wrapS .i64 (c1 - a1)) (wrapS .i64 (c2 - a2))))
    (ff9 : S 9 = true → x9 = ptr (q9 + 4) 0 ∧ news[q9]? = some (.cells (bif S 12 then #[I64 (wrapS .i64 (b0 - a0)), I64 (wrapS .i64 (b1 - a1)), I64 (wrapS .i64 (b2 - a2))] else #[I64 0, I64 0, I64 0]) 43))
    (ff10 : S 10 = true → x10 = ptr (q10 + 4) 0 ∧ news[q10]? = some (.cells (bif S 13 then #[I64 (wrapS .i64 (c0 - b0)), I64 (wrapS .i64 (c1 - b1)), I64 (wrapS .i64 (c2 - b2))] else #[I64 0, I64 0, I64 0]) 43))
    (ff11 : S 11 = true → x11 = ptr (q11 + 4) 0 ∧ news[q11]? = some (.cells (bif S 14 then #[I64 (wrapS .i64 (c0 - a0)), I64 (wrapS .i64 (c1 - a1)), I64 (wrapS .i64 (c2 - a2))] else #[I64 0, I64 0, I64 0]) 43))
    (ff12 : S 12 = true → S 9 = true)
    (ff13 : S 13 = true → S 10 = true)
    (ff14 : S 14 = true → S 11 = true)
    (ff15 : S 9 = true → S 10 = true → q9 ≠ q10)
    (ff16 : S 9 = true → S 11 = true → q9 ≠ q11)
    (ff17 : S 10 = true → S 11 = true → q10 ≠ q11)
    (ff18 : news.length = (S 9).toNat + (S 10).toNat + (S 11).toNat) : J11n a0 a1 a2 b0 b1 b2 c0 c1 c2 g b tp nr me S ⟨[[(A3 a0 a1 a2), (A3 b0 b1 b2), (A3 c0 c1 c2), .agg (confC (.slice none 0 0) g b tp nr me), ptr 0 0, ptr 1 0, ptr 2 0, ptr 3 0, .bool false, x9, x10, x11, undef, undef, undef, .agg (confC (.slice none 0 0) g b tp nr me)],
      [.bool (decide (0 > 60)), undef, x18, x19, x20, x21, x22, x23, x24, x25, x26, undef, undef, undef, undef, undef],
      [undef, undef, undef, undef, undef, undef, undef, undef, undef, undef, undef, undef, undef, undef, undef, undef],
      [undef, undef, undef, undef, undef, undef, undef, undef, undef, undef, undef, undef, undef, undef, undef, undef],
      [undef, undef, undef, undef, undef, undef, undef, undef, undef, undef, undef, undef, undef, undef, undef, undef],
      [undef, undef, undef, undef, undef, undef]],
      ((.cells #[I64 a0, I64 a1, I64 a2] 43) :: (.cells #[I64 b0, I64 b1, I64 b2] 43) :: (.cells #[I64 c0, I64 c1, I64 c2] 43) :: (.cells (confC (.slice none 0 0) g b tp nr me) 39) :: news), []⟩
theorem Lost11_n (tt : TypeId) (a0 a1 a2 b0 b1 b2 c0 c1 c2 g b tp nr me : Int) (hb0 : -9223372036854775808 ≤ b0 ∧ b0 ≤ 9223372036854775807) (hb1 : -9223372036854775808 ≤ b1 ∧ b1 ≤ 9223372036854775807) (hb2 : -9223372036854775808 ≤ b2 ∧ b2 ≤ 9223372036854775807) :
    AC Tryd.prog (GM tt) 11 [(A3 a0 a1 a2), (A3 b0 b1 b2), (A3 c0 c1 c2), .agg (confC (.slice none 0 0) g b tp nr me)] [] (fun v h => v = .bool true ∧ h = []) := by
  have si : SlI [.cells #[I64 a0, I64 a1, I64 a2] 43, .cells #[I64 b0, I64 b1, I64 b2] 43, .cells #[I64 c0, I64 c1, I64 c2] 43, .cells (confC (.slice none 0 0) g b tp nr me) 39] (.slice none 0 0) ([] : List Int) := (.inl ⟨rfl, rfl⟩)
  refine ac_of_body tabOk has11 ?_
  unfold BodyOk
  conv => whnf
  refine ac_mono (Great_s tt si (by simp) g b tp nr me) ?_
  rintro v h' ⟨rfl, rfl⟩
  conv => whnf
  refine ad_ren (ad_inv tabOk (by kernel_rfl) (by kernel_rfl) (fun S s => J11n a0 a1 a2 b0 b1 b2 c0 c1 c2 g b tp nr me S s) ?_ ?_ ?_)
  · exact J11n.mk undef undef undef undef undef undef undef undef undef undef undef undef 0 0 0 [] (fun h => absurd h Bool.false_ne_true) (fun h => absurd h Bool.false_ne_true) (fun h => absurd h Bool.false_ne_true) (fun h => absurd h Bool.false_ne_true) (fun h => absurd h Bool.false_ne_true) (fun h => absurd h Bool.false_ne_true) (fun h => absurd h Bool.false_ne_true) (fun h => absurd h Bool.false_ne_true) (fun h => absurd h Bool.false_ne_true) (fun h => absurd h Bool.false_ne_true) (fun h => absurd h Bool.false_ne_true) (fun h => absurd h Bool.false_ne_true) (fun h => absurd h Bool.false_ne_true) (fun h => absurd h Bool.false_ne_true) (fun h => absurd h Bool.false_ne_true) (fun h => absurd h Bool.false_ne_true) (fun h => absurd h Bool.false_ne_true) (fun h => absurd h Bool.false_ne_true) rfl
  · conv => whnf
    refine ⟨?_, ?_⟩
    · rintro S s ⟨x18, x19, x20, x21, x22, x23, x24, x25, x26, x9, x10, x11, q9, q10, q11, news, f_e0, f_e1, f_e2, f_e3, f_e4, f_e5, f_e6, f_e7, f_e8, f_a9, f_a10, f_a11, f_g12, f_g13, f_g14, f_n9_10, f_n9_11, f_n10_11, f_c⟩ hS hp
      conv => whnf
      exact J11n.mk (S := fun j => S j || Nat.beq j 0) ((A3 a0 a1 a2)) x19 x20 x21 x22 x23 x24 x25 x26 x9 x10 x11 q9 q10 q11 news (fun _ => rfl)
        (fun h => f_e1 (orF rfl h))
        (fun h => f_e2 (orF rfl h))
        (fun h => f_e3 (orF rfl h))
        (fun h => f_e4 (orF rfl h))
        (fun h => f_e5 (orF rfl h))
        (fun h => f_e6 (orF rfl h))
        (fun h => f_e7 (orF rfl h))
        (fun h => f_e8 (orF rfl h))
        (fun h => let q := f_a9 (orF rfl h); ⟨q.1, keep11 q.2⟩)
        (fun h => let q := f_a10 (orF rfl h); ⟨q.1, keep11 q.2⟩)
        (fun h => let q := f_a11 (orF rfl h); ⟨q.1, keep11 q.2⟩)
        (fun h => orL (f_g12 (orF rfl h)))
        (fun h => orL (f_g13 (orF rfl h)))
        (fun h => orL (f_g14 (orF rfl h)))
        (fun h h2 => f_n9_10 (orF rfl h) (orF rfl h2))
        (fun h h2 => f_n9_11 (orF rfl h) (orF rfl h2))
        (fun h h2 => f_n10_11 (orF rfl h) (orF rfl h2))
        (by rw [f_c]; simp only [Nat.beq, Bool.or_false])
    conv => whnf
    refine ⟨?_, ?_⟩
    · rintro S s ⟨x18, x19, x20, x21, x22, x23, x24, x25, x26, x9, x10, x11, q9, q10, q11, news, f_e0, f_e1, f_e2, f_e3, f_e4, f_e5, f_e6, f_e7, f_e8, f_a9, f_a10, f_a11, f_g12, f_g13, f_g14, f_n9_10, f_n9_11, f_n10_11, f_c⟩ hS hp
      conv => whnf
      exact J11n.mk (S := fun j => S j || Nat.beq j 1) x18 ((A3 b0 b1 b2)) x20 x21 x22 x23 x24 x25 x26 x9 x10 x11 q9 q10 q11 news (fun h => f_e0 (orF rfl h))
        (fun _ => rfl)
        (fun h => f_e2 (orF rfl h))
        (fun h => f_e3 (orF rfl h))
        (fun h => f_e4 (orF rfl h))
        (fun h => f_e5 (orF rfl h))
        (fun h => f_e6 (orF rfl h))
        (fun h => f_e7 (orF rfl h))
        (fun h => f_e8 (orF rfl h))
        (fun h => let q := f_a9 (orF rfl h); ⟨q.1, keep11 q.2⟩)
        (fun h => let q := f_a10 (orF rfl h); ⟨q.1, keep11 q.2⟩)
        (fun h => let q := f_a11 (orF rfl h); ⟨q.1, keep11 q.2⟩)
        (fun h => orL (f_g12 (orF rfl h)))
        (fun h => orL (f_g13 (orF rfl h)))
        (fun h => orL (f_g14 (orF rfl h)))
        (fun h h2 => f_n9_10 (orF rfl h) (orF rfl h2))
        (fun h h2 => f_n9_11 (orF rfl h) (orF rfl h2))
        (fun h h2 => f_n10_11 (orF rfl h) (orF rfl h2))
        (by rw [f_c]; simp only [Nat.beq, Bool.or_false])
    conv => whnf
    refine ⟨?_, ?_⟩
    · rintro S s ⟨x18, x19, x20, x21, x22, x23, x24, x25, x26, x9, x10, x11, q9, q10, q11, news, f_e0, f_e1, f_e2, f_e3, f_e4, f_e5, f_e6, f_e7, f_e8, f_a9, f_a10, f_a11, f_g12, f_g13, f_g14, f_n9_10, f_n9_11, f_n10_11, f_c⟩ hS hp
      have z0 := f_e0 (hp 0 (by decide))
      subst z0
      have z1 := f_e1 (hp 1 (by decide))
      subst z1
      conv => whnf
      refine ac_pure (Lost_c (GM tt) a0 a1 a2 b0 b1 b2) rfl ?_
      rintro v h' ⟨rfl, rfl⟩
      refine ⟨rfl, rfl, ?_⟩
      conv => whnf
      exact J11n.mk (S := fun j => S j || Nat.beq j 2) ((A3 a0 a1 a2)) ((A3 b0 b1 b2)) ((A3 (wrapS .i64 (b0 - a0)) (wrapS .i64 (b1 - a1)) (wrapS .i64 (b2 - a2)))) x21 x22 x23 x24 x25 x26 x9 x10 x11 q9 q10 q11 news (fun h => f_e0 (orF rfl h))
        (fun h => f_e1 (orF rfl h))
        (fun _ => rfl)
        (fun h => f_e3 (orF rfl h))
        (fun h => f_e4 (orF rfl h))
        (fun h => f_e5 (orF rfl h))
        (fun h => f_e6 (orF rfl h))
        (fun h => f_e7 (orF rfl h))
        (fun h => f_e8 (orF rfl h))
        (fun h => let q := f_a9 (orF rfl h); ⟨q.1, keep11 q.2⟩)
        (fun h => let q := f_a10 (orF rfl h); ⟨q.1, keep11 q.2⟩)
        (fun h => let q := f_a11 (orF rfl h); ⟨q.1, keep11 q.2⟩)
        (fun h => orL (f_g12 (orF rfl h)))
        (fun h => orL (f_g13 (orF rfl h)))
        (fun h => orL (f_g14 (orF rfl h)))
        (fun h h2 => f_n9_10 (orF rfl h) (orF rfl h2))
        (fun h h2 => f_n9_11 (orF rfl h) (orF rfl h2))
        (fun h h2 => f_n10_11 (orF rfl h) (orF rfl h2))
        (by rw [f_c]; simp only [Nat.beq, Bool.or_false])
    conv => whnf
    refine ⟨?_, ?_⟩
    · rintro S s ⟨x18, x19, x20, x21, x22, x23, x24, x25, x26, x9, x10, x11, q9, q10, q11, news, f_e0, f_e1, f_e2, f_e3, f_e4, f_e5, f_e6, f_e7, f_e8, f_a9, f_a10, f_a11, f_g12, f_g13, f_g14, f_n9_10, f_n9_11, f_n10_11, f_c⟩ hS hp
      conv => whnf
      exact J11n.mk (S := fun j => S j || Nat.beq j 3) x18 x19 x20 ((A3 b0 b1 b2)) x22 x23 x24 x25 x26 x9 x10 x11 q9 q10 q11 news (fun h => f_e0 (orF rfl h))
        (fun h => f_e1 (orF rfl h))
        (fun h => f_e2 (orF rfl h))
        (fun _ => rfl)
        (fun h => f_e4 (orF rfl h))
        (fun h => f_e5 (orF rfl h))
        (fun h => f_e6 (orF rfl h))
        (fun h => f_e7 (orF rfl h))
        (fun h => f_e8 (orF rfl h))
        (fun h => let q := f_a9 (orF rfl h); ⟨q.1, keep11 q.2⟩)
        (fun h => let q := f_a10 (orF rfl h); ⟨q.1, keep11 q.2⟩)
        (fun h => let q := f_a11 (orF rfl h); ⟨q.1, keep11 q.2⟩)
        (fun h => orL (f_g12 (orF rfl h)))
        (fun h => orL (f_g13 (orF rfl h)))
        (fun h => orL (f_g14 (orF rfl h)))
        (fun h h2 => f_n9_10 (orF rfl h) (orF rfl h2))
        (fun h h2 => f_n9_11 (orF rfl h) (orF rfl h2))
        (fun h h2 => f_n10_11 (orF rfl h) (orF rfl h2))
        (by rw [f_c]; simp only [Nat.beq, Bool.or_false])
    conv => whnf
    refine ⟨?_, ?_⟩
    · rintro S s ⟨x18, x19, x20, x21, x22, x23, x24, x25, x26, x9, x10, x11, q9, q10, q11, news, f_e0, f_e1, f_e2, f_e3, f_e4, f_e5, f_e6, f_e7, f_e8, f_a9, f_a10, f_a11, f_g12, f_g13, f_g14, f_n9_10, f_n9_11, f_n10_11, f_c⟩ hS hp
      conv => whnf
      exact J11n.mk (S := fun j => S j || Nat.beq j 4) x18 x19 x20 x21 ((A3 c0 c1 c2)) x23 x24 x25 x26 x9 x10 x11 q9 q10 q11 news (fun h => f_e0 (orF rfl h))
        (fun h => f_e1 (orF rfl h))
        (fun h => f_e2 (orF rfl h))
        (fun h => f_e3 (orF rfl h))
        (fun _ => rfl)
        (fun h => f_e5 (orF rfl h))
        (fun h => f_e6 (orF rfl h))
        (fun h => f_e7 (orF rfl h))
        (fun h => f_e8 (orF rfl h))
        (fun h => let q := f_a9 (orF rfl h); ⟨q.1, keep11 q.2⟩)
        (fun h => let q := f_a10 (orF rfl h); ⟨q.1, keep11 q.2⟩)
        (fun h => let q := f_a11 (orF rfl h); ⟨q.1, keep11 q.2⟩)
        (fun h => orL (f_g12 (orF rfl h)))
        (fun h => orL (f_g13 (orF rfl h)))
        (fun h => orL (f_g14 (orF rfl h)))
        (fun h h2 => f_n9_10 (orF rfl h) (orF rfl h2))
        (fun h h2 => f_n9_11 (orF rfl h) (orF rfl h2))
        (fun h h2 => f_n10_11 (orF rfl h) (orF rfl h2))
        (by rw [f_c]; simp only [Nat.beq, Bool.or_false])
    conv => whnf
    refine ⟨?_, ?_⟩
    · rintro S s ⟨x18, x19, x20, x21, x22, x23, x24, x25, x26, x9, x10, x11, q9, q10, q11, news, f_e0, f_e1, f_e2, f_e3, f_e4, f_e5, f_e6, f_e7, f_e8, f_a9, f_a10, f_a11, f_g12, f_g13, f_g14, f_n9_10, f_n9_11, f_n10_11, f_c⟩ hS hp
      have z3 := f_e3 (hp 3 (by decide))
      subst z3
      have z4 := f_e4 (hp 4 (by decide))
      subst z4
      conv => whnf
      refine ac_pure (Lost_c (GM tt) b0 b1 b2 c0 c1 c2) rfl ?_
      rintro v h' ⟨rfl, rfl⟩
      refine ⟨rfl, rfl, ?_⟩
      conv => whnf
      exact J11n.mk (S := fun j => S j || Nat.beq j 5) x18 x19 x20 ((A3 b0 b1 b2)) ((A3 c0 c1 c2)) ((A3 (wrapS .i64 (c0 - b0)) (wrapS .i64 (c1 - b1)) (wrapS .i64 (c2 - b2)))) x24 x25 x26 x9 x10 x11 q9 q10 q11 news (fun h => f_e0 (orF rfl h))
        (fun h => f_e1 (orF rfl h))
        (fun h => f_e2 (orF rfl h))
        (fun h => f_e3 (orF rfl h))
        (fun h => f_e4 (orF rfl h))
        (fun _ => rfl)
        (fun h => f_e6 (orF rfl h))
        (fun h => f_e7 (orF rfl h))
        (fun h => f_e8 (orF rfl h))
        (fun h => let q := f_a9 (orF rfl h); ⟨q.1, keep11 q.2⟩)
        (fun h => let q := f_a10 (orF rfl h); ⟨q.1, keep11 q.2⟩)
        (fun h => let q := f_a11 (orF rfl h); ⟨q.1, keep11 q.2⟩)
        (fun h => orL (f_g12 (orF rfl h)))
        (fun h => orL (f_g13 (orF rfl h)))
        (fun h => orL (f_g14 (orF rfl h)))
        (fun h h2 => f_n9_10 (orF rfl h) (orF rfl h2))
        (fun h h2 => f_n9_11 (orF rfl h) (orF rfl h2))
        (fun h h2 => f_n10_11 (orF rfl h) (orF rfl h2))
        (by rw [f_c]; simp only [Nat.beq, Bool.or_false])
    conv => whnf
    refine ⟨?_, ?_⟩
    · rintro S s ⟨x18, x19, x20, x21, x22, x23, x24, x25, x26, x9, x10, x11, q9, q10, q11, news, f_e0, f_e1, f_e2, f_e3, f_e4, f_e5, f_e6, f_e7, f_e8, f_a9, f_a10, f_a11, f_g12, f_g13, f_g14, f_n9_10, f_n9_11, f_n10_11, f_c⟩ hS hp
      conv => whnf
      exact J11n.mk (S := fun j => S j || Nat.beq j 6) x18 x19 x20 x21 x22 x23 ((A3 a0 a1 a2)) x25 x26 x9 x10 x11 q9 q10 q11 news (fun h => f_e0 (orF rfl h))
        (fun h => f_e1 (orF rfl h))
        (fun h => f_e2 (orF rfl h))
        (fun h => f_e3 (orF rfl h))
        (fun h => f_e4 (orF rfl h))
        (fun h => f_e5 (orF rfl h))
        (fun _ => rfl)
        (fun h => f_e7 (orF rfl h))
        (fun h => f_e8 (orF rfl h))
        (fun h => let q := f_a9 (orF rfl h); ⟨q.1, keep11 q.2⟩)
        (fun h => let q := f_a10 (orF rfl h); ⟨q.1, keep11 q.2⟩)
        (fun h => let q := f_a11 (orF rfl h); ⟨q.1, keep11 q.2⟩)
        (fun h => orL (f_g12 (orF rfl h)))
        (fun h => orL (f_g13 (orF rfl h)))
        (fun h => orL (f_g14 (orF rfl h)))
        (fun h h2 => f_n9_10 (orF rfl h) (orF rfl h2))
        (fun h h2 => f_n9_11 (orF rfl h) (orF rfl h2))
        (fun h h2 => f_n10_11 (orF rfl h) (orF rfl h2))
        (by rw [f_c]; simp only [Nat.beq, Bool.or_false])
    conv => whnf
    refine ⟨?_, ?_⟩
    · rintro S s ⟨x18, x19, x20, x21, x22, x23, x24, x25, x26, x9, x10, x11, q9, q10, q11, news, f_e0, f_e1, f_e2, f_e3, f_e4, f_e5, f_e6, f_e7, f_e8, f_a9, f_a10, f_a11, f_g12, f_g13, f_g14, f_n9_10, f_n9_11, f_n10_11, f_c⟩ hS hp
      conv => whnf
      exact J11n.mk (S := fun j => S j || Nat.beq j 7) x18 x19 x20 x21 x22 x23 x24 ((A3 c0 c1 c2)) x26 x9 x10 x11 q9 q10 q11 news (fun h => f_e0 (orF rfl h))
        (fun h => f_e1 (orF rfl h))
        (fun h => f_e2 (orF rfl h))
        (fun h => f_e3 (orF rfl h))
        (fun h => f_e4 (orF rfl h))
        (fun h => f_e5 (orF rfl h))
        (fun h => f_e6 (orF rfl h))
        (fun _ => rfl)
        (fun h => f_e8 (orF rfl h))
        (fun h => let q := f_a9 (orF rfl h); ⟨q.1, keep11 q.2⟩)
        (fun h => let q := f_a10 (orF rfl h); ⟨q.1, keep11 q.2⟩)
        (fun h => let q := f_a11 (orF rfl h); ⟨q.1, keep11 q.2⟩)
        (fun h => orL (f_g12 (orF rfl h)))
        (fun h => orL (f_g13 (orF rfl h)))
        (fun h => orL (f_g14 (orF rfl h)))
        (fun h h2 => f_n9_10 (orF rfl h) (orF rfl h2))
        (fun h h2 => f_n9_11 (orF rfl h) (orF rfl h2))
        (fun h h2 => f_n10_11 (orF rfl h) (orF rfl h2))
        (by rw [f_c]; simp only [Nat.beq, Bool.or_false])
    conv => whnf
    refine ⟨?_, ?_⟩
    · rintro S s ⟨x18, x19, x20, x21, x22, x23, x24, x25, x26, x9, x10, x11, q9, q10, q11, news, f_e0, f_e1, f_e2, f_e3, f_e4, f_e5, f_e6, f_e7, f_e8, f_a9, f_a10, f_a11, f_g12, f_g13, f_g14, f_n9_10, f_n9_11, f_n10_11, f_c⟩ hS hp
      have z6 := f_e6 (hp 6 (by decide))
      subst z6
      have z7 := f_e7 (hp 7 (by decide))
      subst z7
      conv => whnf
      refine ac_pure (Lost_c (GM tt) a0 a1 a2 c0 c1 c2) rfl ?_
      rintro v h' ⟨rfl, rfl⟩
      refine ⟨rfl, rfl, ?_⟩
      conv => whnf
      exact J11n.mk (S := fun j => S j || Nat.beq j 8) x18 x19 x20 x21 x22 x23 ((A3 a0 a1 a2)) ((A3 c0 c1 c2)) ((A3 (wrapS .i64 (c0 - a0)) (wrapS .i64 (c1 - a1)) (wrapS .i64 (c2 - a2)))) x9 x10 x11 q9 q10 q11 news (fun h => f_e0 (orF rfl h))
        (fun h => f_e1 (orF rfl h))
        (fun h => f_e2 (orF rfl h))
        (fun h => f_e3 (orF rfl h))
        (fun h => f_e4 (orF rfl h))
        (fun h => f_e5 (orF rfl h))
        (fun h => f_e6 (orF rfl h))
        (fun h => f_e7 (orF rfl h))
        (fun _ => rfl)
        (fun h => let q := f_a9 (orF rfl h); ⟨q.1, keep11 q.2⟩)
        (fun h => let q := f_a10 (orF rfl h); ⟨q.1, keep11 q.2⟩)
        (fun h => let q := f_a11 (orF rfl h); ⟨q.1, keep11 q.2⟩)
        (fun h => orL (f_g12 (orF rfl h)))
        (fun h => orL (f_g13 (orF rfl h)))
        (fun h => orL (f_g14 (orF rfl h)))
        (fun h h2 => f_n9_10 (orF rfl h) (orF rfl h2))
        (fun h h2 => f_n9_11 (orF rfl h) (orF rfl h2))
        (fun h h2 => f_n10_11 (orF rfl h) (orF rfl h2))
        (by rw [f_c]; simp only [Nat.beq, Bool.or_false])
    conv => whnf
    refine ⟨?_, ?_⟩
    · rintro S s ⟨x18, x19, x20, x21, x22, x23, x24, x25, x26, x9, x10, x11, q9, q10, q11, news, f_e0, f_e1, f_e2, f_e3, f_e4, f_e5, f_e6, f_e7, f_e8, f_a9, f_a10, f_a11, f_g12, f_g13, f_g14, f_n9_10, f_n9_11, f_n10_11, f_c⟩ hS hp
      conv => whnf
      refine cnt_of ?_
      conv => whnf
      refine app_of ?_
      conv => whnf
      exact J11n.mk (S := fun j => S j || Nat.beq j 9) x18 x19 x20 x21 x22 x23 x24 x25 x26 (ptr (news.length + 4) 0) x10 x11 news.length q10 q11 (news ++ [.cells #[I64 0, I64 0, I64 0] 43]) (fun h => f_e0 (orF rfl h))
        (fun h => f_e1 (orF rfl h))
        (fun h => f_e2 (orF rfl h))
        (fun h => f_e3 (orF rfl h))
        (fun h => f_e4 (orF rfl h))
        (fun h => f_e5 (orF rfl h))
        (fun h => f_e6 (orF rfl h))
        (fun h => f_e7 (orF rfl h))
        (fun h => f_e8 (orF rfl h))
        (fun _ => ⟨rfl, new11 (noS f_g12 hS rfl)⟩)
        (fun h => let q := f_a10 (orF rfl h); ⟨q.1, getL (keep11 q.2)⟩)
        (fun h => let q := f_a11 (orF rfl h); ⟨q.1, getL (keep11 q.2)⟩)
        (fun h => orL (f_g12 (orF rfl h)))
        (fun h => orL (f_g13 (orF rfl h)))
        (fun h => orL (f_g14 (orF rfl h)))
        (fun _ h2 he => by have q := (f_a10 (orF rfl h2)).2; rw [← he] at q; have := (List.getElem?_eq_some_iff.1 q).1; omega)
        (fun _ h2 he => by have q := (f_a11 (orF rfl h2)).2; rw [← he] at q; have := (List.getElem?_eq_some_iff.1 q).1; omega)
        (fun h h2 => f_n10_11 (orF rfl h) (orF rfl h2))
        (by rw [List.length_append, f_c]; have e : S 9 = false := hS; simp only [Nat.beq, Bool.or_false, Bool.or_true, e, Bool.toNat_true, Bool.toNat_false, List.length_singleton] <;> omega)
    conv => whnf
    refine ⟨?_, ?_⟩
    · rintro S s ⟨x18, x19, x20, x21, x22, x23, x24, x25, x26, x9, x10, x11, q9, q10, q11, news, f_e0, f_e1, f_e2, f_e3, f_e4, f_e5, f_e6, f_e7, f_e8, f_a9, f_a10, f_a11, f_g12, f_g13, f_g14, f_n9_10, f_n9_11, f_n10_11, f_c⟩ hS hp
      conv => whnf
      refine cnt_of ?_
      conv => whnf
      refine app_of ?_
      conv => whnf
      exact J11n.mk (S := fun j => S j || Nat.beq j 10) x18 x19 x20 x21 x22 x23 x24 x25 x26 x9 (ptr (news.length + 4) 0) x11 q9 news.length q11 (news ++ [.cells #[I64 0, I64 0, I64 0] 43]) (fun h => f_e0 (orF rfl h))
        (fun h => f_e1 (orF rfl h))
        (fun h => f_e2 (orF rfl h))
        (fun h => f_e3 (orF rfl h))
        (fun h => f_e4 (orF rfl h))
        (fun h => f_e5 (orF rfl h))
        (fun h => f_e6 (orF rfl h))
        (fun h => f_e7 (orF rfl h))
        (fun h => f_e8 (orF rfl h))
        (fun h => let q := f_a9 (orF rfl h); ⟨q.1, getL (keep11 q.2)⟩)
        (fun _ => ⟨rfl, new11 (noS f_g13 hS rfl)⟩)
        (fun h => let q := f_a11 (orF rfl h); ⟨q.1, getL (keep11 q.2)⟩)
        (fun h => orL (f_g12 (orF rfl h)))
        (fun h => orL (f_g13 (orF rfl h)))
        (fun h => orL (f_g14 (orF rfl h)))
        (fun h _ he => by have q := (f_a9 (orF rfl h)).2; rw [he] at q; have := (List.getElem?_eq_some_iff.1 q).1; omega)
        (fun h h2 => f_n9_11 (orF rfl h) (orF rfl h2))
        (fun _ h2 he => by have q := (f_a11 (orF rfl h2)).2; rw [← he] at q; have := (List.getElem?_eq_some_iff.1 q).1; omega)
        (by rw [List.length_append, f_c]; have e : S 10 = false := hS; simp only [Nat.beq, Bool.or_false, Bool.or_true, e, Bool.toNat_true, Bool.toNat_false, List.length_singleton] <;> omega)
    conv => whnf
    refine ⟨?_, ?_⟩
    · rintro S s ⟨x18, x19, x20, x21, x22, x23, x24, x25, x26, x9, x10, x11, q9, q10, q11, news, f_e0, f_e1, f_e2, f_e3, f_e4, f_e5, f_e6, f_e7, f_e8, f_a9, f_a10, f_a11, f_g12, f_g13, f_g14, f_n9_10, f_n9_11, f_n10_11, f_c⟩ hS hp
      conv => whnf
      refine cnt_of ?_
      conv => whnf
      refine app_of ?_
      conv => whnf
      exact J11n.mk (S := fun j => S j || Nat.beq j 11) x18 x19 x20 x21 x22 x23 x24 x25 x26 x9 x10 (ptr (news.length + 4) 0) q9 q10 news.length (news ++ [.cells #[I64 0, I64 0, I64 0] 43]) (fun h => f_e0 (orF rfl h))
        (fun h => f_e1 (orF rfl h))
        (fun h => f_e2 (orF rfl h))
        (fun h => f_e3 (orF rfl h))
        (fun h => f_e4 (orF rfl h))
        (fun h => f_e5 (orF rfl h))
        (fun h => f_e6 (orF rfl h))
        (fun h => f_e7 (orF rfl h))
        (fun h => f_e8 (orF rfl h))
        (fun h => let q := f_a9 (orF rfl h); ⟨q.1, getL (keep11 q.2)⟩)
        (fun h => let q := f_a10 (orF rfl h); ⟨q.1, getL (keep11 q.2)⟩)
        (fun _ => ⟨rfl, new11 (noS f_g14 hS rfl)⟩)
        (fun h => orL (f_g12 (orF rfl h)))
        (fun h => orL (f_g13 (orF rfl h)))
        (fun h => orL (f_g14 (orF rfl h)))
        (fun h h2 => f_n9_10 (orF rfl h) (orF rfl h2))
        (fun h _ he => by have q := (f_a9 (orF rfl h)).2; rw [he] at q; have := (List.getElem?_eq_some_iff.1 q).1; omega)
        (fun h _ he => by have q := (f_a10 (orF rfl h)).2; rw [he] at q; have := (List.getElem?_eq_some_iff.1 q).1; omega)
        (by rw [List.length_append, f_c]; have e : S 11 = false := hS; simp only [Nat.beq, Bool.or_false, Bool.or_true, e, Bool.toNat_true, Bool.toNat_false, List.length_singleton] <;> omega)
    conv => whnf
    refine ⟨?_, ?_⟩
    · rintro S s ⟨x18, x19, x20, x21, x22, x23, x24, x25, x26, x9, x10, x11, q9, q10, q11, news, f_e0, f_e1, f_e2, f_e3, f_e4, f_e5, f_e6, f_e7, f_e8, f_a9, f_a10, f_a11, f_g12, f_g13, f_g14, f_n9_10, f_n9_11, f_n10_11, f_c⟩ hS hp
      have z2 := f_e2 (hp 2 (by decide))
      subst z2
      obtain ⟨zx, hm⟩ := f_a9 (hp 9 (by decide))
      subst zx
      rw [show S 12 = false from hS] at hm
      have hlt : q9 < news.length := (List.getElem?_eq_some_iff.1 hm).1
      conv => whnf
      refine nthK_of hm ?_
      conv => whnf
      refine set_of hlt ?_
      conv => whnf
      exact J11n.mk (S := fun j => S j || Nat.beq j 12) x18 x19 ((A3 (wrapS .i64 (b0 - a0)) (wrapS .i64 (b1 - a1)) (wrapS .i64 (b2 - a2)))) x21 x22 x23 x24 x25 x26 (ptr (q9 + 4) 0) x10 x11 q9 q10 q11 (news.set q9 (.cells #[I64 (wrapS .i64 (b0 - a0)), I64 (wrapS .i64 (b1 - a1)), I64 (wrapS .i64 (b2 - a2))] 43)) (fun h => f_e0 (orF rfl h))
        (fun h => f_e1 (orF rfl h))
        (fun h => f_e2 (orF rfl h))
        (fun h => f_e3 (orF rfl h))
        (fun h => f_e4 (orF rfl h))
        (fun h => f_e5 (orF rfl h))
        (fun h => f_e6 (orF rfl h))
        (fun h => f_e7 (orF rfl h))
        (fun h => f_e8 (orF rfl h))
        (fun _ => ⟨rfl, by rw [List.getElem?_set_self hlt]; simp only [Nat.beq, Bool.or_true, cond_true]⟩)
        (fun h => let q := f_a10 (orF rfl h); ⟨q.1, by rw [List.getElem?_set_ne (f_n9_10 (hp 9 (by decide)) (orF rfl h))]; exact keep11 q.2⟩)
        (fun h => let q := f_a11 (orF rfl h); ⟨q.1, by rw [List.getElem?_set_ne (f_n9_11 (hp 9 (by decide)) (orF rfl h))]; exact keep11 q.2⟩)
        (fun _ => orL (hp 9 (by decide)))
        (fun h => orL (f_g13 (orF rfl h)))
        (fun h => orL (f_g14 (orF rfl h)))
        (fun h h2 => f_n9_10 (orF rfl h) (orF rfl h2))
        (fun h h2 => f_n9_11 (orF rfl h) (orF rfl h2))
        (fun h h2 => f_n10_11 (orF rfl h) (orF rfl h2))
        (by rw [List.length_set, f_c]; simp only [Nat.beq, Bool.or_false])
    conv => whnf
    refine ⟨?_, ?_⟩
    · rintro S s ⟨x18, x19, x20, x21, x22, x23, x24, x25, x26, x9, x10, x11, q9, q10, q11, news, f_e0, f_e1, f_e2, f_e3, f_e4, f_e5, f_e6, f_e7, f_e8, f_a9, f_a10, f_a11, f_g12, f_g13, f_g14, f_n9_10, f_n9_11, f_n10_11, f_c⟩ hS hp
      have z5 := f_e5 (hp 5 (by decide))
      subst z5
      obtain ⟨zx, hm⟩ := f_a10 (hp 10 (by decide))
      subst zx
      rw [show S 13 = false from hS] at hm
      have hlt : q10 < news.length := (List.getElem?_eq_some_iff.1 hm).1
      conv => whnf
      refine nthK_of hm ?_
      conv => whnf
      refine set_of hlt ?_
      conv => whnf
      exact J11n.mk (S := fun j => S j || Nat.beq j 13) x18 x19 x20 x21 x22 ((A3 (wrapS .i64 (c0 - b0)) (wrapS .i64 (c1 - b1)) (wrapS .i64 (c2 - b2)))) x24 x25 x26 x9 (ptr (q10 + 4) 0) x11 q9 q10 q11 (news.set q10 (.cells #[I64 (wrapS .i64 (c0 - b0)), I64 (wrapS .i64 (c1 - b1)), I64 (wrapS .i64 (c2 - b2))] 43)) (fun h => f_e0 (orF rfl h))
        (fun h => f_e1 (orF rfl h))
        (fun h => f_e2 (orF rfl h))
        (fun h => f_e3 (orF rfl h))
        (fun h => f_e4 (orF rfl h))
        (fun h => f_e5 (orF rfl h))
        (fun h => f_e6 (orF rfl h))
        (fun h => f_e7 (orF rfl h))
        (fun h => f_e8 (orF rfl h))
        (fun h => let q := f_a9 (orF rfl h); ⟨q.1, by rw [List.getElem?_set_ne (fun e => f_n9_10 (orF rfl h) (hp 10 (by decide)) e.symm)]; exact keep11 q.2⟩)
        (fun _ => ⟨rfl, by rw [List.getElem?_set_self hlt]; simp only [Nat.beq, Bool.or_true, cond_true]⟩)
        (fun h => let q := f_a11 (orF rfl h); ⟨q.1, by rw [List.getElem?_set_ne (f_n10_11 (hp 10 (by decide)) (orF rfl h))]; exact keep11 q.2⟩)
        (fun h => orL (f_g12 (orF rfl h)))
        (fun _ => orL (hp 10 (by decide)))
        (fun h => orL (f_g14 (orF rfl h)))
        (fun h h2 => f_n9_10 (orF rfl h) (orF rfl h2))
        (fun h h2 => f_n9_11 (orF rfl h) (orF rfl h2))
        (fun h h2 => f_n10_11 (orF rfl h) (orF rfl h2))
        (by rw [List.length_set, f_c]; simp only [Nat.beq, Bool.or_false])
    conv => whnf
    refine ⟨?_, ?_⟩
    · rintro S s ⟨x18, x19, x20, x21, x22, x23, x24, x25, x26, x9, x10, x11, q9, q10, q11, news, f_e0, f_e1, f_e2, f_e3, f_e4, f_e5, f_e6, f_e7, f_e8, f_a9, f_a10, f_a11, f_g12, f_g13, f_g14, f_n9_10, f_n9_11, f_n10_11, f_c⟩ hS hp
      have z8 := f_e8 (hp 8 (by decide))
      subst z8
      obtain ⟨zx, hm⟩ := f_a11 (hp 11 (by decide))
      subst zx
      rw [show S 14 = false from hS] at hm
      have hlt : q11 < news.length := (List.getElem?_eq_some_iff.1 hm).1
      conv => whnf
      refine nthK_of hm ?_
      conv => whnf
      refine set_of hlt ?_
      conv => whnf
      exact J11n.mk (S := fun j => S j || Nat.beq j 14) x18 x19 x20 x21 x22 x23 x24 x25 ((A3 (wrapS .i64 (c0 - a0)) (wrapS .i64 (c1 - a1)) (wrapS .i64 (c2 - a2)))) x9 x10 (ptr (q11 + 4) 0) q9 q10 q11 (news.set q11 (.cells #[I64 (wrapS .i64 (c0 - a0)), I64 (wrapS .i64 (c1 - a1)), I64 (wrapS .i64 (c2 - a2))] 43)) (fun h => f_e0 (orF rfl h))
        (fun h => f_e1 (orF rfl h))
        (fun h => f_e2 (orF rfl h))
        (fun h => f_e3 (orF rfl h))
        (fun h => f_e4 (orF rfl h))
        (fun h => f_e5 (orF rfl h))
        (fun h => f_e6 (orF rfl h))
        (fun h => f_e7 (orF rfl h))
        (fun h => f_e8 (orF rfl h))
        (fun h => let q := f_a9 (orF rfl h); ⟨q.1, by rw [List.getElem?_set_ne (fun e => f_n9_11 (orF rfl h) (hp 11 (by decide)) e.symm)]; exact keep11 q.2⟩)
        (fun h => let q := f_a10 (orF rfl h); ⟨q.1, by rw [List.getElem?_set_ne (fun e => f_n10_11 (orF rfl h) (hp 11 (by decide)) e.symm)]; exact keep11 q.2⟩)
        (fun _ => ⟨rfl, by rw [List.getElem?_set_self hlt]; simp only [Nat.beq, Bool.or_true, cond_true]⟩)
        (fun h => orL (f_g12 (orF rfl h)))
        (fun h => orL (f_g13 (orF rfl h)))
        (fun _ => orL (hp 11 (by decide)))
        (fun h h2 => f_n9_10 (orF rfl h) (orF rfl h2))
        (fun h h2 => f_n9_11 (orF rfl h) (orF rfl h2))
        (fun h h2 => f_n10_11 (orF rfl h) (orF rfl h2))
        (by rw [List.length_set, f_c]; simp only [Nat.beq, Bool.or_false])
    conv => whnf
    trivial
  rintro S s hall ⟨x18, x19, x20, x21, x22, x23, x24, x25, x26, x9, x10, x11, q9, q10, q11, news, f_e0, f_e1, f_e2, f_e3, f_e4, f_e5, f_e6, f_e7, f_e8, f_a9, f_a10, f_a11, f_g12, f_g13, f_g14, f_n9_10, f_n9_11, f_n10_11, f_c⟩ _
  have hS : ∀ i, i < 15 → S i = true := hall
  have z0 := f_e0 (hS 0 (by decide))
  subst z0
  have z1 := f_e1 (hS 1 (by decide))
  subst z1
  have z2 := f_e2 (hS 2 (by decide))
  subst z2
  have z3 := f_e3 (hS 3 (by decide))
  subst z3
  have z4 := f_e4 (hS 4 (by decide))
  subst z4
  have z5 := f_e5 (hS 5 (by decide))
  subst z5
  have z6 := f_e6 (hS 6 (by decide))
  subst z6
  have z7 := f_e7 (hS 7 (by decide))
  subst z7
  have z8 := f_e8 (hS 8 (by decide))
  subst z8
  obtain ⟨y9, m9⟩ := f_a9 (hS 9 (by decide))
  subst y9
  rw [hS 12 (by decide)] at m9
  obtain ⟨y10, m10⟩ := f_a10 (hS 10 (by decide))
  subst y10
  rw [hS 13 (by decide)] at m10
  obtain ⟨y11, m11⟩ := f_a11 (hS 11 (by decide))
  subst y11
  rw [hS 14 (by decide)] at m11
  refine ⟨tq 4 [q9, q10, q11], ⟨[[(A3 a0 a1 a2), (A3 b0 b1 b2), (A3 c0 c1 c2), .agg (confC (.slice none 0 0) g b tp nr me), ptr 0 0, ptr 1 0, ptr 2 0, ptr 3 0, .bool false, ptr 4 0, ptr 5 0, ptr 6 0, undef, undef, undef, .agg (confC (.slice none 0 0) g b tp nr me)],
      [.bool (decide (0 > 60)), undef, (A3 a0 a1 a2), (A3 b0 b1 b2), (A3 (wrapS .i64 (b0 - a0)) (wrapS .i64 (b1 - a1)) (wrapS .i64 (b2 - a2))), (A3 b0 b1 b2), (A3 c0 c1 c2), (A3 (wrapS .i64 (c0 - b0)) (wrapS .i64 (c1 - b1)) (wrapS .i64 (c2 - b2))), (A3 a0 a1 a2), (A3 c0 c1 c2), (A3 (wrapS .i64 (c0 - a0)) (wrapS .i64 (c1 - a1)) (wrapS .i64 (c2 - a2))), undef, undef, undef, undef, undef],
      [undef, undef, undef, undef, undef, undef, undef, undef, undef, undef, undef, undef, undef, undef, undef, undef],
      [undef, undef, undef, undef, undef, undef, undef, undef, undef, undef, undef, undef, undef, undef, undef, undef],
      [undef, undef, undef, undef, undef, undef, undef, undef, undef, undef, undef, undef, undef, undef, undef, undef],
      [undef, undef, undef, undef, undef, undef]],
    [.cells #[I64 a0, I64 a1, I64 a2] 43, .cells #[I64 b0, I64 b1, I64 b2] 43, .cells #[I64 c0, I64 c1, I64 c2] 43, .cells (confC (.slice none 0 0) g b tp nr me) 39, .cells #[I64 (wrapS .i64 (b0 - a0)), I64 (wrapS .i64 (b1 - a1)), I64 (wrapS .i64 (b2 - a2))] 43, .cells #[I64 (wrapS .i64 (c0 - b0)), I64 (wrapS .i64 (c1 - b1)), I64 (wrapS .i64 (c2 - b2))] 43, .cells #[I64 (wrapS .i64 (c0 - a0)), I64 (wrapS .i64 (c1 - a1)), I64 (wrapS .i64 (c2 - a2))] 43], []⟩, ?_, ?_⟩
  · refine ren_list (base := [.cells #[I64 a0, I64 a1, I64 a2] 43, .cells #[I64 b0, I64 b1, I64 b2] 43, .cells #[I64 c0, I64 c1, I64 c2] 43, .cells (confC (.slice none 0 0) g b tp nr me) 39]) (us := [.cells #[I64 (wrapS .i64 (b0 - a0)), I64 (wrapS .i64 (b1 - a1)), I64 (wrapS .i64 (b2 - a2))] 43, .cells #[I64 (wrapS .i64 (c0 - b0)), I64 (wrapS .i64 (c1 - b1)), I64 (wrapS .i64 (c2 - b2))] 43, .cells #[I64 (wrapS .i64 (c0 - a0)), I64 (wrapS .i64 (c1 - a1)), I64 (wrapS .i64 (c2 - a2))] 43]) (Nat.le_refl _) rfl ?_ ?_ rfl rfl (by simp [r3, r2, r1, r0, rA, tq, Nat.blt, undef]) rfl
    · have n1 := f_n9_10 (hS 9 (by decide)) (hS 10 (by decide))
      have n2 := f_n9_11 (hS 9 (by decide)) (hS 11 (by decide))
      have n3 := f_n10_11 (hS 10 (by decide)) (hS 11 (by decide))
      simp [n1, n2, n3]
    · intro j o hj
      match j, hj with
      | 0, hj => cases hj; exact m9
      | 1, hj => cases hj; exact m10
      | 2, hj => cases hj; exact m11
      | j + 3, hj => simp at hj
  conv => whnf
  refine aw_rounds tabOk 4 ?_
  conv => whnf
  refine ad_of tabOk (by kernel_rfl) [(0, false), (1, false), (2, false), (3, false), (4, false), (5, false), (6, false), (7, false), (8, false), (9, false), (10, false), (11, false), (12, false), (13, false), (14, false), (15, false), (16, false), (17, false), (18, false), (19, false), (20, false), (21, false), (22, false), (23, false)] (by kernel_rfl) ?_
  conv => whnf
  refine way0 (lost_add a0 b0 c0) ?_
  conv => whnf
  refine way0 (lost_back a0 hb0) ?_
  conv => whnf
  refine ad_of tabOk (by kernel_rfl) [(0, false), (1, false), (2, false), (3, false), (4, false), (5, false), (6, false), (7, false), (8, false), (9, false), (10, false), (11, false), (12, false), (13, false), (14, false), (15, false), (16, false), (17, false), (18, false), (19, false), (20, false), (21, false), (22, false), (23, false)] (by kernel_rfl) ?_
  conv => whnf
  refine way0 (lost_add a1 b1 c1) ?_
  conv => whnf
  refine way0 (lost_back a1 hb1) ?_
  conv => whnf
  refine ad_of tabOk (by kernel_rfl) [(0, false), (1, false), (2, false), (3, false), (4, false), (5, false), (6, false), (7, false), (8, false), (9, false), (10, false), (11, false), (12, false), (13, false), (14, false), (15, false), (16, false), (17, false), (18, false), (19, false), (20, false), (21, false), (22, false), (23, false)] (by kernel_rfl) ?_
  conv => whnf
  refine way0 (lost_add a2 b2 c2) ?_
  conv => whnf
  refine way0 (lost_back a2 hb2) ?_
  conv => whnf
  refine ac_mono (Own_s (GM tt) (h := [.cells #[I64 a0, I64 a1, I64 a2] 43, .cells #[I64 b0, I64 b1, I64 b2] 43, .cells #[I64 c0, I64 c1, I64 c2] 43, .cells (confC (.slice none 0 0) g b tp nr me) 39, .cells #[I64 (wrapS .i64 (b0 - a0)), I64 (wrapS .i64 (b1 - a1)), I64 (wrapS .i64 (b2 - a2))] 43, .cells #[I64 (wrapS .i64 (c0 - b0)), I64 (wrapS .i64 (c1 - b1)), I64 (wrapS .i64 (c2 - b2))] 43, .cells #[I64 (wrapS .i64 (c0 - a0)), I64 (wrapS .i64 (c1 - a1)), I64 (wrapS .i64 (c2 - a2))] 43]) (m := 7) rfl (.inl ⟨rfl, rfl⟩) (by simp) g b tp nr me) ?_
  rintro v h' ⟨cp, rest, rfl, rfl, hr⟩
  conv => whnf
  refine aw_rounds tabOk 1 ?_
  conv => whnf
  have si2 : SlI [.cells #[I64 a0, I64 a1, I64 a2] 43, .cells #[I64 b0, I64 b1, I64 b2] 43, .cells #[I64 c0, I64 c1, I64 c2] 43, .cells (confC (.slice none 0 0) g b tp nr me) 39, .cells #[I64 (wrapS .i64 (b0 - a0)), I64 (wrapS .i64 (b1 - a1)), I64 (wrapS .i64 (b2 - a2))] 43, .cells #[I64 (wrapS .i64 (c0 - b0)), I64 (wrapS .i64 (c1 - b1)), I64 (wrapS .i64 (c2 - b2))] 43, .cells #[I64 (wrapS .i64 (c0 - a0)), I64 (wrapS .i64 (c1 - a1)), I64 (wrapS .i64 (c2 - a2))] 43, .cells ⟨([] : List Int).map I64 ++ rest⟩ 3, .cells (confC (slc 7 0 ([] : List Int).length cp) g b tp nr me) 39] (.slice none 0 0) ([] : List Int) := (.inl ⟨rfl, rfl⟩)

  refine ad_of tabOk (by kernel_rfl) [(0, false), (2, false), (1, false), (3, false), (4, false), (5, false), (6, false), (7, false), (8, false), (9, false), (10, false), (11, false), (12, false), (13, false), (14, false)] (by kernel_rfl) ?_
  conv => whnf
  refine Alike_q tt si2 (by simp) g b tp nr me ?_
  conv => whnf
  refine RCheck_q tt si2 (by simp) g b tp nr me ?_
  conv => whnf
  refine Mwakes_q tt ?_
  conv => whnf
  refine ⟨rfl, fin_turnedK rfl ?_⟩
  conv => whnf
  exact ⟨rfl, rfl⟩
end Go.Proofs.YtjpjnjidchdlbaaDoor
