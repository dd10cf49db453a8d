import Derived.Test.YtjpjnjidchdlbaaDoorZA
import Derived.Test.YtjpjnjidchdlbaaDoorMomBA
import Derived.Test.YtjpjnjidchdlbaaDoorMomD
/-
  Wide numbers: above (no condition).
-/
namespace Go.Proofs.YtjpjnjidchdlbaaDoor
set_option linter.unusedSimpArgs false
set_option linter.unusedVariables false
open Go
set_option maxRecDepth 100000
set_option maxHeartbeats 4000000
theorem ad_fgt {P : Program} {G : List (Nat × Obj)} {ro : Option Nat} {ops : Array Oper} {s s' : St} {K : St → Prop} (m : List (List Bool)) (e : fgS m s = s') (h : AD P G ro ops s' K) : AD P G ro ops s K := by
  subst e
  unfold AD at *
  intro id
  exact aw_fgt m (h id)
theorem has129 : Has Tryd.prog 129 Tryd.f129 := ⟨Tryd.func129, by kernel_rfl, by kernel_rfl⟩
theorem divS_lt (b j : Nat) {s : Nat × Nat} (h : s.1 < MW ∧ s.2 < MW) : (divS b j s).1 < MW ∧ (divS b j s).2 < MW := by
  unfold divS
  split
  · exact ⟨addN_lt _ _, subN_lt _ _⟩
  · exact ⟨addN_lt _ _, h.2⟩
theorem divG_lt (b : Nat) : ∀ (n : Nat) (s : Nat × Nat), (s.1 < MW ∧ s.2 < MW) → (divG b n s).1 < MW ∧ (divG b n s).2 < MW
  | 0, s, h => h
  | n + 1, s, h => divG_lt b n _ (divS_lt b n h)
theorem plainN_lt {a : Nat} (ha : a < MW) (b : Nat) : (plainN a b).1 < MW ∧ (plainN a b).2 < MW := divG_lt b _ _ ⟨(show (0 : Nat) < MW by decide), ha⟩
def aboveN (a b : Nat) : Nat × Nat := match decide (cmpW a 0 ≥ 0) with
  | true => plainN a b
  | false => (subN (negN (plainN (subN (negN a) 1) b).1) 1, subN (subN b 1) (plainN (subN (negN a) 1) b).2)
theorem ltA {b : Bool} {news : List Obj} {q : Nat} {o o' : Obj} (h : (b = false → news[q]? = some o) ∧ (b = true → news[q]? = some o')) : q < news.length := by
  cases b with
  | false => exact (List.getElem?_eq_some_iff.1 (h.1 rfl)).1
  | true => exact (List.getElem?_eq_some_iff.1 (h.2 rfl)).1
inductive JA (a b : Nat) (S : Nat → Bool) : St → Prop where
  | mk (x17 x18 x19 x20 x21 x22 x16 x23 x24 x6 x7 : Value) (q9 q10 : Nat) (news : List Obj)
    (ff0 : S 0 = true → x17 = wv a)
    (ff1 : S 1 = true → x18 = wv (negN a))
    (ff2 : S 2 = true → x19 = wv 1)
    (ff3 : S 3 = true → x20 = wv (subN (negN a) 1))
    (ff4 : S 4 = true → x21 = wv b)
    (ff5 : S 5 = true → x22 = .tuple #[wv (plainN (subN (negN a) 1) b).1, wv (plainN (subN (negN a) 1) b).2])
    (ff6 : S 6 = true → x16 = .tuple #[wv (plainN (subN (negN a) 1) b).1, wv (plainN (subN (negN a) 1) b).2])
    (ff7 : S 7 = true → x23 = wv (plainN (subN (negN a) 1) b).1)
    (ff8 : S 8 = true → x24 = wv (plainN (subN (negN a) 1) b).2)
    (ff9 : S 9 = true → x6 = ptr (q9 + 4) 0 ∧ (S 11 = false → news[q9]? = some (Obj.cells #[U64 0, U64 0, U64 0, U64 0] 115)) ∧ (S 11 = true → news[q9]? = some (Obj.cells #[U64 (wd (plainN (subN (negN a) 1) b).1 0 : Nat), U64 (wd (plainN (subN (negN a) 1) b).1 1 : Nat), U64 (wd (plainN (subN (negN a) 1) b).1 2 : Nat), U64 (wd (plainN (subN (negN a) 1) b).1 3 : Nat)] 115)))
    (ff10 : S 10 = true → x7 = ptr (q10 + 4) 0 ∧ (S 12 = false → news[q10]? = some (Obj.cells #[U64 0, U64 0, U64 0, U64 0] 115)) ∧ (S 12 = true → news[q10]? = some (Obj.cells #[U64 (wd (plainN (subN (negN a) 1) b).2 0 : Nat), U64 (wd (plainN (subN (negN a) 1) b).2 1 : Nat), U64 (wd (plainN (subN (negN a) 1) b).2 2 : Nat), U64 (wd (plainN (subN (negN a) 1) b).2 3 : Nat)] 115)))
    (ff11 : S 11 = true → S 9 = true)
    (ff12 : S 12 = true → S 10 = true)
    (ff13 : S 9 = true → S 10 = true → q9 ≠ q10)
    (ff14 : news.length = (S 9).toNat + (S 10).toNat) : JA a b S ⟨[[.chan none, .chan none, ptr 0 0, ptr 1 0, ptr 2 0, ptr 3 0, x6, x7, .chan none, .chan none, .chan none, .chan none, .chan none, .chan none, .chan none, .chan none],
      [x16, x17, x18, x19, x20, x21, x22, x23, x24, .chan none, .chan none, .chan none, .chan none, .chan none, .chan none, .chan none],
      [.chan none, .chan none]],
      (Obj.cells #[U64 (wd a 0 : Nat), U64 (wd a 1 : Nat), U64 (wd a 2 : Nat), U64 (wd a 3 : Nat)] 115 :: Obj.cells #[U64 (wd b 0 : Nat), U64 (wd b 1 : Nat), U64 (wd b 2 : Nat), U64 (wd b 3 : Nat)] 115 :: Obj.cells #[U64 0, U64 0, U64 0, U64 0] 115 :: Obj.cells #[U64 0, U64 0, U64 0, U64 0] 115 :: news), []⟩
theorem regA {G : List (Nat × Obj)} {ro : Option Nat} {ops : Array Oper} {s : St} {K : St → Prop} (a b : Nat) (hm : Tryd.prog.follows .mixedOrders = true) (hlow : lowB ops.toList 0 = true) (hsz : ops.size = 13)
    (h0 : JA a b (fun _ => false) s) (hl2 : s.h.length = 4) (hstep : stepsK Tryd.prog tab G ro ops.toList (JA a b) ops.toList 0)
    (h : K ⟨[[.chan none, .chan none, ptr 0 0, ptr 1 0, ptr 2 0, ptr 3 0, ptr 4 0, ptr 5 0, .chan none, .chan none, .chan none, .chan none, .chan none, .chan none, .chan none, .chan none],
      [.tuple #[wv (plainN (subN (negN a) 1) b).1, wv (plainN (subN (negN a) 1) b).2], wv a, wv (negN a), wv 1, wv (subN (negN a) 1), wv b, .tuple #[wv (plainN (subN (negN a) 1) b).1, wv (plainN (subN (negN a) 1) b).2], wv (plainN (subN (negN a) 1) b).1, wv (plainN (subN (negN a) 1) b).2, .chan none, .chan none, .chan none, .chan none, .chan none, .chan none, .chan none],
      [.chan none, .chan none]],
        [Obj.cells #[U64 (wd a 0 : Nat), U64 (wd a 1 : Nat), U64 (wd a 2 : Nat), U64 (wd a 3 : Nat)] 115, Obj.cells #[U64 (wd b 0 : Nat), U64 (wd b 1 : Nat), U64 (wd b 2 : Nat), U64 (wd b 3 : Nat)] 115, Obj.cells #[U64 0, U64 0, U64 0, U64 0] 115, Obj.cells #[U64 0, U64 0, U64 0, U64 0] 115, Obj.cells #[U64 (wd (plainN (subN (negN a) 1) b).1 0 : Nat), U64 (wd (plainN (subN (negN a) 1) b).1 1 : Nat), U64 (wd (plainN (subN (negN a) 1) b).1 2 : Nat), U64 (wd (plainN (subN (negN a) 1) b).1 3 : Nat)] 115, Obj.cells #[U64 (wd (plainN (subN (negN a) 1) b).2 0 : Nat), U64 (wd (plainN (subN (negN a) 1) b).2 1 : Nat), U64 (wd (plainN (subN (negN a) 1) b).2 2 : Nat), U64 (wd (plainN (subN (negN a) 1) b).2 3 : Nat)] 115], []⟩) : AD Tryd.prog G ro ops s K := by
  refine ad_ren (ad_inv tabOk hm hlow _ h0 hstep ?_)
  rintro S s' hall ⟨x17, x18, x19, x20, x21, x22, x16, x23, x24, x6, x7, q9, q10, news, f0, f1, f2, f3, f4, f5, f6, f7, f8, f9, f10, g11, g12, ne, cn⟩ _
  rw [hsz] at hall
  obtain rfl := f0 (hall 0 (by decide))
  obtain rfl := f1 (hall 1 (by decide))
  obtain rfl := f2 (hall 2 (by decide))
  obtain rfl := f3 (hall 3 (by decide))
  obtain rfl := f4 (hall 4 (by decide))
  obtain rfl := f5 (hall 5 (by decide))
  obtain rfl := f6 (hall 6 (by decide))
  obtain rfl := f7 (hall 7 (by decide))
  obtain rfl := f8 (hall 8 (by decide))
  obtain ⟨rfl, _, e9⟩ := f9 (hall 9 (by decide))
  have e9 := e9 (hall 11 (by decide))
  obtain ⟨rfl, _, e10⟩ := f10 (hall 10 (by decide))
  have e10 := e10 (hall 12 (by decide))
  have n1 := ne (hall 9 (by decide)) (hall 10 (by decide))
  rw [hl2]
  refine ⟨tq 4 [q9, q10], _, ?_, h⟩
  refine ren_list2 (base := [Obj.cells #[U64 (wd a 0 : Nat), U64 (wd a 1 : Nat), U64 (wd a 2 : Nat), U64 (wd a 3 : Nat)] 115, Obj.cells #[U64 (wd b 0 : Nat), U64 (wd b 1 : Nat), U64 (wd b 2 : Nat), U64 (wd b 3 : Nat)] 115, Obj.cells #[U64 0, U64 0, U64 0, U64 0] 115, Obj.cells #[U64 0, U64 0, U64 0, U64 0] 115]) (us := [Obj.cells #[U64 (wd (plainN (subN (negN a) 1) b).1 0 : Nat), U64 (wd (plainN (subN (negN a) 1) b).1 1 : Nat), U64 (wd (plainN (subN (negN a) 1) b).1 2 : Nat), U64 (wd (plainN (subN (negN a) 1) b).1 3 : Nat)] 115, Obj.cells #[U64 (wd (plainN (subN (negN a) 1) b).2 0 : Nat), U64 (wd (plainN (subN (negN a) 1) b).2 1 : Nat), U64 (wd (plainN (subN (negN a) 1) b).2 2 : Nat), U64 (wd (plainN (subN (negN a) 1) b).2 3 : Nat)] 115]) (Nat.le_refl _) rfl (by simp [n1]) ?_ ?_ ?_ (by simp [wv, r3, r2, r1, r0, rA, tq, Nat.blt]) (by simp [wv, isMark, scop3, scop2, scop1, scop0, scopA])
  · intro j o hj
    match j, hj with
    | 0, hj => cases hj; simpa [rO, r1, r0, rA, tq, Nat.blt] using e9
    | 1, hj => cases hj; simpa [rO, r1, r0, rA, tq, Nat.blt] using e10
    | j + 2, hj => simp at hj
  · intro o ho
    intro v hv
    refine scop1_ok (List.all_eq_true.1 ?_ v hv)
    rcases List.mem_cons.1 ho with rfl | ho
    · rfl
    rcases List.mem_singleton.1 ho with rfl
    rfl
  · intro o ho
    intro v hv
    refine scop1_ok (List.all_eq_true.1 ?_ v hv)
    rcases List.mem_cons.1 ho with rfl | ho
    · rfl
    rcases List.mem_cons.1 ho with rfl | ho
    · rfl
    rcases List.mem_cons.1 ho with rfl | ho
    · rfl
    rcases List.mem_singleton.1 ho with rfl
    rfl
theorem above_n (G) {a b : Nat} (ha : a < MW) (h0 : 0 < b) (h1 : b < 57896044618658097711785492504343953926634992332820282019728792003956564819968) : AC Tryd.prog G 129 [wv a, wv b] [] (fun v h => v = .tuple #[wv (aboveN a b).1, wv (aboveN a b).2] ∧ h = []) := by
  refine ac_of_body tabOk has129 ?_
  unfold BodyOk
  conv => whnf
  refine ac_pure (Sign_n G a) rfl ?_
  rintro v h' ⟨rfl, rfl⟩
  refine ⟨rfl, rfl, ?_⟩
  conv => whnf
  refine ways (fun hc => ?_) (fun hc => ?_) <;> conv => whnf
  · skip
    refine ac_pure (plain_n G ha h0 h1) rfl ?_
    rintro v h' ⟨rfl, rfl⟩
    refine ⟨rfl, rfl, ?_⟩
    conv => whnf
    refine ⟨rfl, fin_turnedK rfl ?_⟩
    conv => whnf
    exact ⟨by unfold aboveN; rw [show decide (cmpW a 0 ≥ 0) = true from hc]; rfl, rfl⟩
  · refine ad_fgt [[false, false, true, true, true, true, false, false, false, false, false, false, false, false, false, false], [false, false, false, false, false, false, false, false, false, false, false, false, false, false, false, false], [false, false]] (s' := ⟨[[.chan none, .chan none, ptr 0 0, ptr 1 0, ptr 2 0, ptr 3 0, .chan none, .chan none, .chan none, .chan none, .chan none, .chan none, .chan none, .chan none, .chan none, .chan none],
      [.chan none, .chan none, .chan none, .chan none, .chan none, .chan none, .chan none, .chan none, .chan none, .chan none, .chan none, .chan none, .chan none, .chan none, .chan none, .chan none],
      [.chan none, .chan none]], [Obj.cells #[U64 (wd a 0 : Nat), U64 (wd a 1 : Nat), U64 (wd a 2 : Nat), U64 (wd a 3 : Nat)] 115, Obj.cells #[U64 (wd b 0 : Nat), U64 (wd b 1 : Nat), U64 (wd b 2 : Nat), U64 (wd b 3 : Nat)] 115, Obj.cells #[U64 0, U64 0, U64 0, U64 0] 115, Obj.cells #[U64 0, U64 0, U64 0, U64 0] 115], []⟩) rfl ?_
    refine regA a b (by kernel_rfl) (by kernel_rfl) rfl ?_ rfl ?_ ?_
    · exact JA.mk (.chan none) (.chan none) (.chan none) (.chan none) (.chan none) (.chan none) (.chan none) (.chan none) (.chan none) (.chan none) (.chan none) 0 0 [] (fun h => absurd h Bool.false_ne_true) (fun h => absurd h Bool.false_ne_true) (fun h => absurd h Bool.false_ne_true) (fun h => absurd h Bool.false_ne_true) (fun h => absurd h Bool.false_ne_true) (fun h => absurd h Bool.false_ne_true) (fun h => absurd h Bool.false_ne_true) (fun h => absurd h Bool.false_ne_true) (fun h => absurd h Bool.false_ne_true) (fun h => absurd h Bool.false_ne_true) (fun h => absurd h Bool.false_ne_true) (fun h => absurd h Bool.false_ne_true) (fun h => absurd h Bool.false_ne_true) (fun h => absurd h Bool.false_ne_true) rfl
    · conv => whnf
      refine ⟨?_, ?_⟩
      · rintro S s ⟨x17, x18, x19, x20, x21, x22, x16, x23, x24, x6, x7, q9, q10, news, f0, f1, f2, f3, f4, f5, f6, f7, f8, f9, f10, g11, g12, ne, cn⟩ hS hp
        conv => whnf
        exact JA.mk (S := fun j => S j || Nat.beq j 0) (wv a) x18 x19 x20 x21 x22 x16 x23 x24 x6 x7 q9 q10 news (fun _ => rfl)
          (fun h => f1 (orF rfl h))
          (fun h => f2 (orF rfl h))
          (fun h => f3 (orF rfl h))
          (fun h => f4 (orF rfl h))
          (fun h => f5 (orF rfl h))
          (fun h => f6 (orF rfl h))
          (fun h => f7 (orF rfl h))
          (fun h => f8 (orF rfl h))
          (fun h => let z := f9 (orF rfl h); ⟨z.1, fun h2 => z.2.1 (orN rfl h2), fun h2 => z.2.2 (orF rfl h2)⟩)
          (fun h => let z := f10 (orF rfl h); ⟨z.1, fun h2 => z.2.1 (orN rfl h2), fun h2 => z.2.2 (orF rfl h2)⟩)
          (fun h => orL (g11 (orF rfl h)))
          (fun h => orL (g12 (orF rfl h)))
          (fun h h2 => ne (orF rfl h) (orF rfl h2))
          (by rw [cn]; simp only [Nat.beq, Bool.or_false])
      conv => whnf
      refine ⟨?_, ?_⟩
      · rintro S s ⟨x17, x18, x19, x20, x21, x22, x16, x23, x24, x6, x7, q9, q10, news, f0, f1, f2, f3, f4, f5, f6, f7, f8, f9, f10, g11, g12, ne, cn⟩ hS hp
        have z0 := f0 (hp 0 (by decide))
        subst z0
        conv => whnf
        refine ac_pure (neg_n G ha) rfl ?_
        rintro v h' ⟨rfl, rfl⟩
        refine ⟨rfl, rfl, ?_⟩
        conv => whnf
        exact JA.mk (S := fun j => S j || Nat.beq j 1) (wv a) (wv (negN a)) x19 x20 x21 x22 x16 x23 x24 x6 x7 q9 q10 news (fun h => f0 (orF rfl h))
          (fun _ => rfl)
          (fun h => f2 (orF rfl h))
          (fun h => f3 (orF rfl h))
          (fun h => f4 (orF rfl h))
          (fun h => f5 (orF rfl h))
          (fun h => f6 (orF rfl h))
          (fun h => f7 (orF rfl h))
          (fun h => f8 (orF rfl h))
          (fun h => let z := f9 (orF rfl h); ⟨z.1, fun h2 => z.2.1 (orN rfl h2), fun h2 => z.2.2 (orF rfl h2)⟩)
          (fun h => let z := f10 (orF rfl h); ⟨z.1, fun h2 => z.2.1 (orN rfl h2), fun h2 => z.2.2 (orF rfl h2)⟩)
          (fun h => orL (g11 (orF rfl h)))
          (fun h => orL (g12 (orF rfl h)))
          (fun h h2 => ne (orF rfl h) (orF rfl h2))
          (by rw [cn]; simp only [Nat.beq, Bool.or_false])
      conv => whnf
      refine ⟨?_, ?_⟩
      · rintro S s ⟨x17, x18, x19, x20, x21, x22, x16, x23, x24, x6, x7, q9, q10, news, f0, f1, f2, f3, f4, f5, f6, f7, f8, f9, f10, g11, g12, ne, cn⟩ hS hp
        conv => whnf
        refine ac_pure (one_n G) rfl ?_
        rintro v h' ⟨rfl, rfl⟩
        refine ⟨rfl, rfl, ?_⟩
        conv => whnf
        exact JA.mk (S := fun j => S j || Nat.beq j 2) x17 x18 (wv 1) x20 x21 x22 x16 x23 x24 x6 x7 q9 q10 news (fun h => f0 (orF rfl h))
          (fun h => f1 (orF rfl h))
          (fun _ => rfl)
          (fun h => f3 (orF rfl h))
          (fun h => f4 (orF rfl h))
          (fun h => f5 (orF rfl h))
          (fun h => f6 (orF rfl h))
          (fun h => f7 (orF rfl h))
          (fun h => f8 (orF rfl h))
          (fun h => let z := f9 (orF rfl h); ⟨z.1, fun h2 => z.2.1 (orN rfl h2), fun h2 => z.2.2 (orF rfl h2)⟩)
          (fun h => let z := f10 (orF rfl h); ⟨z.1, fun h2 => z.2.1 (orN rfl h2), fun h2 => z.2.2 (orF rfl h2)⟩)
          (fun h => orL (g11 (orF rfl h)))
          (fun h => orL (g12 (orF rfl h)))
          (fun h h2 => ne (orF rfl h) (orF rfl h2))
          (by rw [cn]; simp only [Nat.beq, Bool.or_false])
      conv => whnf
      refine ⟨?_, ?_⟩
      · rintro S s ⟨x17, x18, x19, x20, x21, x22, x16, x23, x24, x6, x7, q9, q10, news, f0, f1, f2, f3, f4, f5, f6, f7, f8, f9, f10, g11, g12, ne, cn⟩ hS hp
        have z1 := f1 (hp 1 (by decide))
        subst z1
        have z2 := f2 (hp 2 (by decide))
        subst z2
        conv => whnf
        refine ac_pure (sub_n G (a := negN a) (b := 1) (by decide)) rfl ?_
        rintro v h' ⟨rfl, rfl⟩
        refine ⟨rfl, rfl, ?_⟩
        conv => whnf
        exact JA.mk (S := fun j => S j || Nat.beq j 3) x17 (wv (negN a)) (wv 1) (wv (subN (negN a) 1)) x21 x22 x16 x23 x24 x6 x7 q9 q10 news (fun h => f0 (orF rfl h))
          (fun h => f1 (orF rfl h))
          (fun h => f2 (orF rfl h))
          (fun _ => rfl)
          (fun h => f4 (orF rfl h))
          (fun h => f5 (orF rfl h))
          (fun h => f6 (orF rfl h))
          (fun h => f7 (orF rfl h))
          (fun h => f8 (orF rfl h))
          (fun h => let z := f9 (orF rfl h); ⟨z.1, fun h2 => z.2.1 (orN rfl h2), fun h2 => z.2.2 (orF rfl h2)⟩)
          (fun h => let z := f10 (orF rfl h); ⟨z.1, fun h2 => z.2.1 (orN rfl h2), fun h2 => z.2.2 (orF rfl h2)⟩)
          (fun h => orL (g11 (orF rfl h)))
          (fun h => orL (g12 (orF rfl h)))
          (fun h h2 => ne (orF rfl h) (orF rfl h2))
          (by rw [cn]; simp only [Nat.beq, Bool.or_false])
      conv => whnf
      refine ⟨?_, ?_⟩
      · rintro S s ⟨x17, x18, x19, x20, x21, x22, x16, x23, x24, x6, x7, q9, q10, news, f0, f1, f2, f3, f4, f5, f6, f7, f8, f9, f10, g11, g12, ne, cn⟩ hS hp
        conv => whnf
        exact JA.mk (S := fun j => S j || Nat.beq j 4) x17 x18 x19 x20 (wv b) x22 x16 x23 x24 x6 x7 q9 q10 news (fun h => f0 (orF rfl h))
          (fun h => f1 (orF rfl h))
          (fun h => f2 (orF rfl h))
          (fun h => f3 (orF rfl h))
          (fun _ => rfl)
          (fun h => f5 (orF rfl h))
          (fun h => f6 (orF rfl h))
          (fun h => f7 (orF rfl h))
          (fun h => f8 (orF rfl h))
          (fun h => let z := f9 (orF rfl h); ⟨z.1, fun h2 => z.2.1 (orN rfl h2), fun h2 => z.2.2 (orF rfl h2)⟩)
          (fun h => let z := f10 (orF rfl h); ⟨z.1, fun h2 => z.2.1 (orN rfl h2), fun h2 => z.2.2 (orF rfl h2)⟩)
          (fun h => orL (g11 (orF rfl h)))
          (fun h => orL (g12 (orF rfl h)))
          (fun h h2 => ne (orF rfl h) (orF rfl h2))
          (by rw [cn]; simp only [Nat.beq, Bool.or_false])
      conv => whnf
      refine ⟨?_, ?_⟩
      · rintro S s ⟨x17, x18, x19, x20, x21, x22, x16, x23, x24, x6, x7, q9, q10, news, f0, f1, f2, f3, f4, f5, f6, f7, f8, f9, f10, g11, g12, ne, cn⟩ hS hp
        have z3 := f3 (hp 3 (by decide))
        subst z3
        have z4 := f4 (hp 4 (by decide))
        subst z4
        conv => whnf
        refine ac_pure (plain_n G (a := subN (negN a) 1) (subN_lt _ _) h0 h1) rfl ?_
        rintro v h' ⟨rfl, rfl⟩
        refine ⟨rfl, rfl, ?_⟩
        conv => whnf
        exact JA.mk (S := fun j => S j || Nat.beq j 5) x17 x18 x19 (wv (subN (negN a) 1)) (wv b) (.tuple #[wv (plainN (subN (negN a) 1) b).1, wv (plainN (subN (negN a) 1) b).2]) x16 x23 x24 x6 x7 q9 q10 news (fun h => f0 (orF rfl h))
          (fun h => f1 (orF rfl h))
          (fun h => f2 (orF rfl h))
          (fun h => f3 (orF rfl h))
          (fun h => f4 (orF rfl h))
          (fun _ => rfl)
          (fun h => f6 (orF rfl h))
          (fun h => f7 (orF rfl h))
          (fun h => f8 (orF rfl h))
          (fun h => let z := f9 (orF rfl h); ⟨z.1, fun h2 => z.2.1 (orN rfl h2), fun h2 => z.2.2 (orF rfl h2)⟩)
          (fun h => let z := f10 (orF rfl h); ⟨z.1, fun h2 => z.2.1 (orN rfl h2), fun h2 => z.2.2 (orF rfl h2)⟩)
          (fun h => orL (g11 (orF rfl h)))
          (fun h => orL (g12 (orF rfl h)))
          (fun h h2 => ne (orF rfl h) (orF rfl h2))
          (by rw [cn]; simp only [Nat.beq, Bool.or_false])
      conv => whnf
      refine ⟨?_, ?_⟩
      · rintro S s ⟨x17, x18, x19, x20, x21, x22, x16, x23, x24, x6, x7, q9, q10, news, f0, f1, f2, f3, f4, f5, f6, f7, f8, f9, f10, g11, g12, ne, cn⟩ hS hp
        have z5 := f5 (hp 5 (by decide))
        subst z5
        conv => whnf
        exact JA.mk (S := fun j => S j || Nat.beq j 6) x17 x18 x19 x20 x21 (.tuple #[wv (plainN (subN (negN a) 1) b).1, wv (plainN (subN (negN a) 1) b).2]) (.tuple #[wv (plainN (subN (negN a) 1) b).1, wv (plainN (subN (negN a) 1) b).2]) x23 x24 x6 x7 q9 q10 news (fun h => f0 (orF rfl h))
          (fun h => f1 (orF rfl h))
          (fun h => f2 (orF rfl h))
          (fun h => f3 (orF rfl h))
          (fun h => f4 (orF rfl h))
          (fun h => f5 (orF rfl h))
          (fun _ => rfl)
          (fun h => f7 (orF rfl h))
          (fun h => f8 (orF rfl h))
          (fun h => let z := f9 (orF rfl h); ⟨z.1, fun h2 => z.2.1 (orN rfl h2), fun h2 => z.2.2 (orF rfl h2)⟩)
          (fun h => let z := f10 (orF rfl h); ⟨z.1, fun h2 => z.2.1 (orN rfl h2), fun h2 => z.2.2 (orF rfl h2)⟩)
          (fun h => orL (g11 (orF rfl h)))
          (fun h => orL (g12 (orF rfl h)))
          (fun h h2 => ne (orF rfl h) (orF rfl h2))
          (by rw [cn]; simp only [Nat.beq, Bool.or_false])
      conv => whnf
      refine ⟨?_, ?_⟩
      · rintro S s ⟨x17, x18, x19, x20, x21, x22, x16, x23, x24, x6, x7, q9, q10, news, f0, f1, f2, f3, f4, f5, f6, f7, f8, f9, f10, g11, g12, ne, cn⟩ hS hp
        have z6 := f6 (hp 6 (by decide))
        subst z6
        conv => whnf
        exact JA.mk (S := fun j => S j || Nat.beq j 7) x17 x18 x19 x20 x21 x22 (.tuple #[wv (plainN (subN (negN a) 1) b).1, wv (plainN (subN (negN a) 1) b).2]) (wv (plainN (subN (negN a) 1) b).1) x24 x6 x7 q9 q10 news (fun h => f0 (orF rfl h))
          (fun h => f1 (orF rfl h))
          (fun h => f2 (orF rfl h))
          (fun h => f3 (orF rfl h))
          (fun h => f4 (orF rfl h))
          (fun h => f5 (orF rfl h))
          (fun h => f6 (orF rfl h))
          (fun _ => rfl)
          (fun h => f8 (orF rfl h))
          (fun h => let z := f9 (orF rfl h); ⟨z.1, fun h2 => z.2.1 (orN rfl h2), fun h2 => z.2.2 (orF rfl h2)⟩)
          (fun h => let z := f10 (orF rfl h); ⟨z.1, fun h2 => z.2.1 (orN rfl h2), fun h2 => z.2.2 (orF rfl h2)⟩)
          (fun h => orL (g11 (orF rfl h)))
          (fun h => orL (g12 (orF rfl h)))
          (fun h h2 => ne (orF rfl h) (orF rfl h2))
          (by rw [cn]; simp only [Nat.beq, Bool.or_false])
      conv => whnf
      refine ⟨?_, ?_⟩
      · rintro S s ⟨x17, x18, x19, x20, x21, x22, x16, x23, x24, x6, x7, q9, q10, news, f0, f1, f2, f3, f4, f5, f6, f7, f8, f9, f10, g11, g12, ne, cn⟩ hS hp
        have z6 := f6 (hp 6 (by decide))
        subst z6
        conv => whnf
        exact JA.mk (S := fun j => S j || Nat.beq j 8) x17 x18 x19 x20 x21 x22 (.tuple #[wv (plainN (subN (negN a) 1) b).1, wv (plainN (subN (negN a) 1) b).2]) x23 (wv (plainN (subN (negN a) 1) b).2) x6 x7 q9 q10 news (fun h => f0 (orF rfl h))
          (fun h => f1 (orF rfl h))
          (fun h => f2 (orF rfl h))
          (fun h => f3 (orF rfl h))
          (fun h => f4 (orF rfl h))
          (fun h => f5 (orF rfl h))
          (fun h => f6 (orF rfl h))
          (fun h => f7 (orF rfl h))
          (fun _ => rfl)
          (fun h => let z := f9 (orF rfl h); ⟨z.1, fun h2 => z.2.1 (orN rfl h2), fun h2 => z.2.2 (orF rfl h2)⟩)
          (fun h => let z := f10 (orF rfl h); ⟨z.1, fun h2 => z.2.1 (orN rfl h2), fun h2 => z.2.2 (orF rfl h2)⟩)
          (fun h => orL (g11 (orF rfl h)))
          (fun h => orL (g12 (orF rfl h)))
          (fun h h2 => ne (orF rfl h) (orF rfl h2))
          (by rw [cn]; simp only [Nat.beq, Bool.or_false])
      conv => whnf
      refine ⟨?_, ?_⟩
      · rintro S s ⟨x17, x18, x19, x20, x21, x22, x16, x23, x24, x6, x7, q9, q10, news, f0, f1, f2, f3, f4, f5, f6, f7, f8, f9, f10, g11, g12, ne, cn⟩ hS hp
        conv => whnf
        refine cnt_of ?_
        conv => whnf
        refine app_of ?_
        conv => whnf
        exact JA.mk (S := fun j => S j || Nat.beq j 9) x17 x18 x19 x20 x21 x22 x16 x23 x24 (ptr (news.length + 4) 0) x7 news.length q10 (news ++ [Obj.cells #[U64 0, U64 0, U64 0, U64 0] 115]) (fun h => f0 (orF rfl h))
          (fun h => f1 (orF rfl h))
          (fun h => f2 (orF rfl h))
          (fun h => f3 (orF rfl h))
          (fun h => f4 (orF rfl h))
          (fun h => f5 (orF rfl h))
          (fun h => f6 (orF rfl h))
          (fun h => f7 (orF rfl h))
          (fun h => f8 (orF rfl h))
          (fun _ => ⟨rfl, fun _ => by simp, fun h2 => (noT (g11 (orF rfl h2)) hS).elim⟩)
          (fun h => let z := f10 (orF rfl h); ⟨z.1, fun h2 => getL (z.2.1 (orN rfl h2)), fun h2 => getL (z.2.2 (orF rfl h2))⟩)
          (fun h => orL (g11 (orF rfl h)))
          (fun h => orL (g12 (orF rfl h)))
          (fun _ h2 he => absurd (ltA (f10 (orF rfl h2)).2) (by rw [← he]; exact Nat.lt_irrefl _))
          (by rw [List.length_append, cn]; have e : S 9 = false := hS; simp only [Nat.beq, Bool.or_false, Bool.or_true, e, Bool.toNat_true, Bool.toNat_false, List.length_singleton] <;> omega)
      conv => whnf
      refine ⟨?_, ?_⟩
      · rintro S s ⟨x17, x18, x19, x20, x21, x22, x16, x23, x24, x6, x7, q9, q10, news, f0, f1, f2, f3, f4, f5, f6, f7, f8, f9, f10, g11, g12, ne, cn⟩ hS hp
        conv => whnf
        refine cnt_of ?_
        conv => whnf
        refine app_of ?_
        conv => whnf
        exact JA.mk (S := fun j => S j || Nat.beq j 10) x17 x18 x19 x20 x21 x22 x16 x23 x24 x6 (ptr (news.length + 4) 0) q9 news.length (news ++ [Obj.cells #[U64 0, U64 0, U64 0, U64 0] 115]) (fun h => f0 (orF rfl h))
          (fun h => f1 (orF rfl h))
          (fun h => f2 (orF rfl h))
          (fun h => f3 (orF rfl h))
          (fun h => f4 (orF rfl h))
          (fun h => f5 (orF rfl h))
          (fun h => f6 (orF rfl h))
          (fun h => f7 (orF rfl h))
          (fun h => f8 (orF rfl h))
          (fun h => let z := f9 (orF rfl h); ⟨z.1, fun h2 => getL (z.2.1 (orN rfl h2)), fun h2 => getL (z.2.2 (orF rfl h2))⟩)
          (fun _ => ⟨rfl, fun _ => by simp, fun h2 => (noT (g12 (orF rfl h2)) hS).elim⟩)
          (fun h => orL (g11 (orF rfl h)))
          (fun h => orL (g12 (orF rfl h)))
          (fun h _ he => absurd (ltA (f9 (orF rfl h)).2) (by rw [he]; exact Nat.lt_irrefl _))
          (by rw [List.length_append, cn]; have e : S 10 = false := hS; simp only [Nat.beq, Bool.or_false, Bool.or_true, e, Bool.toNat_true, Bool.toNat_false, List.length_singleton] <;> omega)
      conv => whnf
      refine ⟨?_, ?_⟩
      · rintro S s ⟨x17, x18, x19, x20, x21, x22, x16, x23, x24, x6, x7, q9, q10, news, f0, f1, f2, f3, f4, f5, f6, f7, f8, f9, f10, g11, g12, ne, cn⟩ hS hp
        have z7 := f7 (hp 7 (by decide))
        subst z7
        obtain ⟨zx, hm0, _⟩ := f9 (hp 9 (by decide))
        subst zx
        have hm := hm0 hS
        have hlt : q9 < news.length := (List.getElem?_eq_some_iff.1 hm).1
        conv => whnf
        refine nthK_of hm ?_
        conv => whnf
        refine set_of hlt ?_
        conv => whnf
        exact JA.mk (S := fun j => S j || Nat.beq j 11) x17 x18 x19 x20 x21 x22 x16 (wv (plainN (subN (negN a) 1) b).1) x24 (ptr (q9 + 4) 0) x7 q9 q10 (news.set q9 (Obj.cells #[U64 (wd (plainN (subN (negN a) 1) b).1 0 : Nat), U64 (wd (plainN (subN (negN a) 1) b).1 1 : Nat), U64 (wd (plainN (subN (negN a) 1) b).1 2 : Nat), U64 (wd (plainN (subN (negN a) 1) b).1 3 : Nat)] 115)) (fun h => f0 (orF rfl h))
          (fun h => f1 (orF rfl h))
          (fun h => f2 (orF rfl h))
          (fun h => f3 (orF rfl h))
          (fun h => f4 (orF rfl h))
          (fun h => f5 (orF rfl h))
          (fun h => f6 (orF rfl h))
          (fun h => f7 (orF rfl h))
          (fun h => f8 (orF rfl h))
          (fun _ => ⟨rfl, fun h2 => (noT (Bool.or_true _) h2).elim, fun _ => List.getElem?_set_self hlt⟩)
          (fun h => let z := f10 (orF rfl h); ⟨z.1, fun h2 => by rw [List.getElem?_set_ne (ne (hp 9 (by decide)) (orF rfl h))]; exact z.2.1 (orN rfl h2), fun h2 => by rw [List.getElem?_set_ne (ne (hp 9 (by decide)) (orF rfl h))]; exact z.2.2 (orF rfl h2)⟩)
          (fun _ => orL (hp 9 (by decide)))
          (fun h => orL (g12 (orF rfl h)))
          (fun h h2 => ne (orF rfl h) (orF rfl h2))
          (by rw [List.length_set, cn]; simp only [Nat.beq, Bool.or_false])
      conv => whnf
      refine ⟨?_, ?_⟩
      · rintro S s ⟨x17, x18, x19, x20, x21, x22, x16, x23, x24, x6, x7, q9, q10, news, f0, f1, f2, f3, f4, f5, f6, f7, f8, f9, f10, g11, g12, ne, cn⟩ hS hp
        have z8 := f8 (hp 8 (by decide))
        subst z8
        obtain ⟨zx, hm0, _⟩ := f10 (hp 10 (by decide))
        subst zx
        have hm := hm0 hS
        have hlt : q10 < news.length := (List.getElem?_eq_some_iff.1 hm).1
        conv => whnf
        refine nthK_of hm ?_
        conv => whnf
        refine set_of hlt ?_
        conv => whnf
        exact JA.mk (S := fun j => S j || Nat.beq j 12) x17 x18 x19 x20 x21 x22 x16 x23 (wv (plainN (subN (negN a) 1) b).2) x6 (ptr (q10 + 4) 0) q9 q10 (news.set q10 (Obj.cells #[U64 (wd (plainN (subN (negN a) 1) b).2 0 : Nat), U64 (wd (plainN (subN (negN a) 1) b).2 1 : Nat), U64 (wd (plainN (subN (negN a) 1) b).2 2 : Nat), U64 (wd (plainN (subN (negN a) 1) b).2 3 : Nat)] 115)) (fun h => f0 (orF rfl h))
          (fun h => f1 (orF rfl h))
          (fun h => f2 (orF rfl h))
          (fun h => f3 (orF rfl h))
          (fun h => f4 (orF rfl h))
          (fun h => f5 (orF rfl h))
          (fun h => f6 (orF rfl h))
          (fun h => f7 (orF rfl h))
          (fun h => f8 (orF rfl h))
          (fun h => let z := f9 (orF rfl h); ⟨z.1, fun h2 => by rw [List.getElem?_set_ne (fun e => ne (orF rfl h) (hp 10 (by decide)) e.symm)]; exact z.2.1 (orN rfl h2), fun h2 => by rw [List.getElem?_set_ne (fun e => ne (orF rfl h) (hp 10 (by decide)) e.symm)]; exact z.2.2 (orF rfl h2)⟩)
          (fun _ => ⟨rfl, fun h2 => (noT (Bool.or_true _) h2).elim, fun _ => List.getElem?_set_self hlt⟩)
          (fun h => orL (g11 (orF rfl h)))
          (fun _ => orL (hp 10 (by decide)))
          (fun h h2 => ne (orF rfl h) (orF rfl h2))
          (by rw [List.length_set, cn]; simp only [Nat.beq, Bool.or_false])
      conv => whnf
      trivial
    conv => whnf
    refine ad_of tabOk (by kernel_rfl) [(0, false), (4, false), (7, false), (1, false), (2, false), (3, false), (5, false), (6, false), (8, false), (9, true), (10, true)] (by kernel_rfl) ?_
    conv => whnf
    refine quiet_of (neg_n G (plainN_lt (subN_lt _ _) b).1) rfl ?_
    rintro v h' ⟨rfl, rfl⟩
    refine ⟨rfl, rfl, ?_⟩
    conv => whnf
    refine quiet_of (one_n G) rfl ?_
    rintro v h' ⟨rfl, rfl⟩
    refine ⟨rfl, rfl, ?_⟩
    conv => whnf
    refine quiet_of (sub_n G (b := 1) (by decide)) rfl ?_
    rintro v h' ⟨rfl, rfl⟩
    refine ⟨rfl, rfl, ?_⟩
    conv => whnf
    refine quiet_of (one_n G) rfl ?_
    rintro v h' ⟨rfl, rfl⟩
    refine ⟨rfl, rfl, ?_⟩
    conv => whnf
    refine quiet_of (sub_n G (a := b) (b := 1) (by decide)) rfl ?_
    rintro v h' ⟨rfl, rfl⟩
    refine ⟨rfl, rfl, ?_⟩
    conv => whnf
    refine quiet_of (sub_n G (a := subN b 1) (plainN_lt (subN_lt _ _) b).2) rfl ?_
    rintro v h' ⟨rfl, rfl⟩
    refine ⟨rfl, rfl, ?_⟩
    conv => whnf
    refine ⟨rfl, fin_turnedK rfl ?_⟩
    conv => whnf
    exact ⟨by unfold aboveN; rw [show decide (cmpW a 0 ≥ 0) = false from hc]; rfl, rfl⟩
end Go.Proofs.YtjpjnjidchdlbaaDoor

/-
  Wide numbers: floor, Floor, Near (no condition).
-/
namespace Go.Proofs.YtjpjnjidchdlbaaDoor
set_option linter.unusedSimpArgs false
set_option linter.unusedVariables false
open Go
set_option maxRecDepth 100000
set_option maxHeartbeats 4000000
theorem has115 : Has Tryd.prog 115 Tryd.f115 := ⟨Tryd.func115, by kernel_rfl, by kernel_rfl⟩
theorem has124 : Has Tryd.prog 124 Tryd.f124 := ⟨Tryd.func124, by kernel_rfl, by kernel_rfl⟩
theorem has102 : Has Tryd.prog 102 Tryd.f102 := ⟨Tryd.func102, by kernel_rfl, by kernel_rfl⟩

theorem aboveN_lt {a : Nat} (ha : a < MW) (b : Nat) : (aboveN a b).1 < MW ∧ (aboveN a b).2 < MW := by
  unfold aboveN
  split
  · exact plainN_lt ha b
  · exact ⟨subN_lt _ _, subN_lt _ _⟩
def eqZ (m : Nat) : Bool := (((wd m 0 : Nat) : Int) == 0) && ((((wd m 1 : Nat) : Int) == 0) && ((((wd m 2 : Nat) : Int) == 0) && ((((wd m 3 : Nat) : Int) == 0) && true)))
theorem eqZ_of {m : Nat} (hm : m < MW) (h : eqZ m = true) : m = 0 := by
  unfold eqZ at h
  simp only [Bool.and_eq_true, beq_iff_eq] at h
  have := wd_sum hm
  omega
def floorE (a b : Nat) : Bool := match eqWI a leastN with
  | true => true
  | false => eqWI b leastN
def floorN (a b : Nat) : Nat × Nat × Int := match floorE a b with
  | true => (0, 0, 20)
  | false => ((aboveN a b).1, (aboveN a b).2, 0)
theorem floorN_lt {a : Nat} (ha : a < MW) (b : Nat) : (floorN a b).1 < MW ∧ (floorN a b).2.1 < MW := by
  unfold floorN
  split
  · exact ⟨(show (0 : Nat) < MW by decide), (show (0 : Nat) < MW by decide)⟩
  · exact aboveN_lt ha b
theorem floor_n (G) {a b : Nat} (ha : a < MW) (h0 : 0 < b) (h1 : b < 57896044618658097711785492504343953926634992332820282019728792003956564819968) : AC Tryd.prog G 115 [wv a, wv b] [] (fun v h => v = .tuple #[wv (floorN a b).1, wv (floorN a b).2.1, I64 (floorN a b).2.2] ∧ h = []) := by
  have hb : b < MW := by unfold MW; omega
  refine ac_of_body tabOk has115 ?_
  unfold BodyOk
  conv => whnf
  refine way0 (show eqZ b = false from by
    cases h : eqZ b with
    | false => rfl
    | true => have := eqZ_of hb h; omega) ?_
  conv => whnf
  refine ad_of tabOk (by kernel_rfl) [(0, false), (1, false), (2, false), (3, false), (4, false), (5, false), (6, false), (7, false), (8, false)] (by kernel_rfl) ?_
  conv => whnf
  refine quiet_of (least_n G) rfl ?_
  rintro v h' ⟨rfl, rfl⟩
  refine ⟨rfl, rfl, ?_⟩
  conv => whnf
  refine ways (fun c1 => ?_) (fun c1 => ?_) <;> conv => whnf
  · skip
    refine ad_hole [] [.cells _ 115, .cells _ 115, .deferred none, .deferred none, .cells _ 115] tabOk (by kernel_rfl) [(0, false), (1, false), (2, false), (3, false), (4, false)] (by kernel_rfl) ⟨.inl rfl, .inl rfl, .inr rfl, .inr rfl, .inl rfl, trivial⟩ ?_
    conv => whnf
    refine ⟨⟨.inl rfl, .inl rfl, .inr rfl, .inr rfl, .inl rfl, trivial⟩, ?_⟩
    conv => whnf
    refine ⟨⟨.inl rfl, .inl rfl, .inr rfl, .inr rfl, .inl rfl, trivial⟩, ?_⟩
    conv => whnf
    refine ⟨rfl, fin_turnedK rfl ?_⟩
    conv => whnf
    have e : floorN a b = (0, 0, 20) := by unfold floorN floorE; rw [show eqWI a leastN = true from c1]
    exact ⟨by rw [e]; rfl, rfl⟩
  refine quiet_of (least_n G) rfl ?_
  rintro v h' ⟨rfl, rfl⟩
  refine ⟨rfl, rfl, ?_⟩
  conv => whnf
  refine ways (fun c2 => ?_) (fun c2 => ?_) <;> conv => whnf
  · skip
    refine ad_hole [] [.cells _ 115, .cells _ 115, .deferred none, .deferred none, .cells _ 115] tabOk (by kernel_rfl) [(0, false), (1, false), (2, false), (3, false), (4, false)] (by kernel_rfl) ⟨.inl rfl, .inl rfl, .inr rfl, .inr rfl, .inl rfl, trivial⟩ ?_
    conv => whnf
    refine ⟨⟨.inl rfl, .inl rfl, .inr rfl, .inr rfl, .inl rfl, trivial⟩, ?_⟩
    conv => whnf
    refine ⟨⟨.inl rfl, .inl rfl, .inr rfl, .inr rfl, .inl rfl, trivial⟩, ?_⟩
    conv => whnf
    refine ⟨rfl, fin_turnedK rfl ?_⟩
    conv => whnf
    have e : floorN a b = (0, 0, 20) := by unfold floorN floorE; rw [show eqWI a leastN = false from c1]; rw [show eqWI b leastN = true from c2]
    exact ⟨by rw [e]; rfl, rfl⟩
  refine ac_pure (Sign_n G b) rfl ?_
  rintro v h' ⟨rfl, rfl⟩
  refine ⟨rfl, rfl, ?_⟩
  conv => whnf
  refine way1 (show decide (cmpW b 0 > 0) = true from by rw [pos_to h0 h1]; rfl) ?_
  conv => whnf
  refine ac_pure (above_n G ha h0 h1) rfl ?_
  rintro v h' ⟨rfl, rfl⟩
  refine ⟨rfl, rfl, ?_⟩
  conv => whnf
  refine ad_hole [] [.cells _ 115, .cells _ 115, .deferred none, .deferred none, .cells _ 115, .cells _ 115, .cells _ 115] tabOk (by kernel_rfl) [(0, false), (1, false), (2, false), (3, false), (4, false)] (by kernel_rfl) ⟨.inl rfl, .inl rfl, .inr rfl, .inr rfl, .inl rfl, .inl rfl, .inl rfl, trivial⟩ ?_
  conv => whnf
  refine ⟨⟨.inl rfl, .inl rfl, .inr rfl, .inr rfl, .inl rfl, .inl rfl, .inl rfl, trivial⟩, ?_⟩
  conv => whnf
  refine ⟨⟨.inl rfl, .inl rfl, .inr rfl, .inr rfl, .inl rfl, .inl rfl, .inl rfl, trivial⟩, ?_⟩
  conv => whnf
  refine ⟨rfl, fin_turnedK rfl ?_⟩
  conv => whnf
  exact ⟨by unfold floorN floorE; rw [show eqWI a leastN = false from c1]; rw [show eqWI b leastN = false from c2]; rfl, rfl⟩
theorem Floor_n (G) {a b : Nat} (ha : a < MW) (h0 : 0 < b) (h1 : b < 57896044618658097711785492504343953926634992332820282019728792003956564819968) : AC Tryd.prog G 124 [wv a, wv b] [] (fun v h => v = .tuple #[wv (floorN a b).1, I64 (floorN a b).2.2] ∧ h = []) := by
  refine ac_of_body tabOk has124 ?_
  unfold BodyOk
  conv => whnf
  refine ac_pure (floor_n G ha h0 h1) rfl ?_
  rintro v h' ⟨rfl, rfl⟩
  refine ⟨rfl, rfl, ?_⟩
  conv => whnf
  refine ⟨rfl, fin_turnedK rfl ?_⟩
  conv => whnf
  exact ⟨rfl, rfl⟩
def nearN (a b : Nat) : Nat × Int := match !((floorN a b).2.2 == 0) with
  | true => ((floorN a b).1, (floorN a b).2.2)
  | false => match decide (cmpW (floorN a b).2.1 (subN b (floorN a b).2.1) > 0) with
    | true => (addN (floorN a b).1 1, 0)
    | false => match (cmpW (floorN a b).2.1 (subN b (floorN a b).2.1) == 0) with
      | true => (match decide (cmpW (floorN a b).1 0 ≥ 0) with
        | true => (addN (floorN a b).1 1, 0)
        | false => ((floorN a b).1, 0))
      | false => ((floorN a b).1, 0)
theorem nearN_lt {a : Nat} (ha : a < MW) (b : Nat) : (nearN a b).1 < MW := by
  have h := floorN_lt ha b
  unfold nearN
  split
  · exact h.1
  · split
    · exact addN_lt _ _
    · split
      · split
        · exact addN_lt _ _
        · exact h.1
      · exact h.1
theorem Near_n (G) {a b : Nat} (ha : a < MW) (h0 : 0 < b) (h1 : b < 57896044618658097711785492504343953926634992332820282019728792003956564819968) : AC Tryd.prog G 102 [wv a, wv b] [] (fun v h => v = .tuple #[wv (nearN a b).1, I64 (nearN a b).2] ∧ h = []) := by
  have hlt := floorN_lt ha b
  refine ac_of_body tabOk has102 ?_
  unfold BodyOk
  conv => whnf
  refine ac_pure (floor_n G ha h0 h1) rfl ?_
  rintro v h' ⟨rfl, rfl⟩
  refine ⟨rfl, rfl, ?_⟩
  conv => whnf
  refine ways (fun c1 => ?_) (fun c1 => ?_) <;> conv => whnf
  · skip
    refine ⟨rfl, fin_turnedK rfl ?_⟩
    conv => whnf
    exact ⟨by unfold nearN; rw [show (!((floorN a b).2.2 == 0)) = true from c1]; rfl, rfl⟩
  refine ac_pure (sub_n G (a := b) hlt.2) rfl ?_
  rintro v h' ⟨rfl, rfl⟩
  refine ⟨rfl, rfl, ?_⟩
  conv => whnf
  refine ac_pure (Sign_n G b) rfl ?_
  rintro v h' ⟨rfl, rfl⟩
  refine ⟨rfl, rfl, ?_⟩
  conv => whnf
  refine way0 (show decide (cmpW b 0 < 0) = false from by rw [pos_to h0 h1]; rfl) ?_
  conv => whnf
  refine ac_pure (Cmp_n G (floorN a b).2.1 (subN b (floorN a b).2.1)) rfl ?_
  rintro v h' ⟨rfl, rfl⟩
  refine ⟨rfl, rfl, ?_⟩
  conv => whnf
  refine ways (fun c2 => ?_) (fun c2 => ?_) <;> conv => whnf
  · skip
    refine ad_of tabOk (by kernel_rfl) [(0, false), (1, false), (2, false), (3, true), (4, true)] (by kernel_rfl) ?_
    conv => whnf
    refine quiet_of (one_n G) rfl ?_
    rintro v h' ⟨rfl, rfl⟩
    refine ⟨rfl, rfl, ?_⟩
    conv => whnf
    refine quiet_of (add_n G (a := (floorN a b).1) (b := 1) (by decide)) rfl ?_
    rintro v h' ⟨rfl, rfl⟩
    refine ⟨rfl, rfl, ?_⟩
    conv => whnf
    refine ⟨rfl, fin_turnedK rfl ?_⟩
    conv => whnf
    exact ⟨by unfold nearN; rw [show (!((floorN a b).2.2 == 0)) = false from c1]; rw [show decide (cmpW (floorN a b).2.1 (subN b (floorN a b).2.1) > 0) = true from c2]; rfl, rfl⟩
  refine ways (fun c3 => ?_) (fun c3 => ?_) <;> conv => whnf
  · skip
    refine ac_pure (Sign_n G (floorN a b).1) rfl ?_
    rintro v h' ⟨rfl, rfl⟩
    refine ⟨rfl, rfl, ?_⟩
    conv => whnf
    refine ways (fun c4 => ?_) (fun c4 => ?_) <;> conv => whnf
    · skip
      refine ad_of tabOk (by kernel_rfl) [(0, false), (1, false), (2, false), (3, true), (4, true)] (by kernel_rfl) ?_
      conv => whnf
      refine quiet_of (one_n G) rfl ?_
      rintro v h' ⟨rfl, rfl⟩
      refine ⟨rfl, rfl, ?_⟩
      conv => whnf
      refine quiet_of (add_n G (a := (floorN a b).1) (b := 1) (by decide)) rfl ?_
      rintro v h' ⟨rfl, rfl⟩
      refine ⟨rfl, rfl, ?_⟩
      conv => whnf
      refine ⟨rfl, fin_turnedK rfl ?_⟩
      conv => whnf
      exact ⟨by unfold nearN; rw [show (!((floorN a b).2.2 == 0)) = false from c1]; rw [show decide (cmpW (floorN a b).2.1 (subN b (floorN a b).2.1) > 0) = false from c2]; rw [show (cmpW (floorN a b).2.1 (subN b (floorN a b).2.1) == 0) = true from c3]; rw [show decide (cmpW (floorN a b).1 0 ≥ 0) = true from c4]; rfl, rfl⟩
    · skip
      refine ⟨rfl, fin_turnedK rfl ?_⟩
      conv => whnf
      exact ⟨by unfold nearN; rw [show (!((floorN a b).2.2 == 0)) = false from c1]; rw [show decide (cmpW (floorN a b).2.1 (subN b (floorN a b).2.1) > 0) = false from c2]; rw [show (cmpW (floorN a b).2.1 (subN b (floorN a b).2.1) == 0) = true from c3]; rw [show decide (cmpW (floorN a b).1 0 ≥ 0) = false from c4]; rfl, rfl⟩
  refine ⟨rfl, fin_turnedK rfl ?_⟩
  conv => whnf
  exact ⟨by unfold nearN; rw [show (!((floorN a b).2.2 == 0)) = false from c1]; rw [show decide (cmpW (floorN a b).2.1 (subN b (floorN a b).2.1) > 0) = false from c2]; rw [show (cmpW (floorN a b).2.1 (subN b (floorN a b).2.1) == 0) = false from c3]; rfl, rfl⟩
end Go.Proofs.YtjpjnjidchdlbaaDoor

/-
  Wide numbers: bits (no condition).
-/
namespace Go.Proofs.YtjpjnjidchdlbaaDoor
set_option linter.unusedSimpArgs false
set_option linter.unusedVariables false
open Go
set_option maxRecDepth 100000
set_option maxHeartbeats 4000000
theorem has133 : Has Tryd.prog 133 Tryd.f133 := ⟨Tryd.func133, by kernel_rfl, by kernel_rfl⟩

def blOf : Nat → Nat → Nat → Nat
  | 0, _, j => j
  | f + 1, w, j => match decide (((w : Nat) : Int) > 0) with
    | true => blOf f (w / 2) (j + 1)
    | false => j
def blR (i r : Nat) : Nat → Nat
  | 0 => r
  | j + 1 => 64 * i + (j + 1)
theorem blOf_le : ∀ (f w j : Nat), blOf f w j ≤ j + f
  | 0, _, j => Nat.le_refl _
  | f + 1, w, j => by
    unfold blOf
    split
    · exact Nat.le_trans (blOf_le f _ _) (by omega)
    · omega
def bitsN (a : Nat) : Nat := blR 3 (blR 2 (blR 1 (blR 0 0 (blOf 65 (wd a 0) 0)) (blOf 65 (wd a 1) 0)) (blOf 65 (wd a 2) 0)) (blOf 65 (wd a 3) 0)
theorem blR_le {i r j m : Nat} (h1 : r ≤ m) (h2 : 64 * i + j ≤ m) : blR i r j ≤ m := by
  cases j with
  | zero => exact h1
  | succ j => exact h2
theorem bitsN_le (a : Nat) : bitsN a ≤ 257 := by
  have h : ∀ w, blOf 65 w 0 ≤ 65 := fun w => by have := blOf_le 65 w 0; omega
  unfold bitsN
  exact blR_le (blR_le (blR_le (blR_le (by omega) (by have := h (wd a 0); omega)) (by have := h (wd a 1); omega)) (by have := h (wd a 2); omega)) (by have := h (wd a 3); omega)
theorem bits_n (G) (a : Nat) : AC Tryd.prog G 133 [wv a] [] (fun v h => v = I64 ((bitsN a : Nat) : Int) ∧ h = []) := by
  refine ac_of_body tabOk has133 ?_
  unfold BodyOk
  conv => whnf
  refine aw_rounds tabOk 5 ?_
  conv => whnf
  refine aw_inv tabOk [[false, true, true, true, true, true, true, false, false, false, false, false, false, false, false, false], [false, false, false, false, false, false, false, false, false]] (fun m s' => ∃ (j w : Nat), m = 64 - j ∧ j ≤ 64 ∧ w < 2 ^ (64 - j) ∧ blOf (65 - j) w j = blOf 65 (wd a 0) 0 ∧
    s' = ⟨[[.chan none, ptr 0 0, I64 0, I64 ((blR 0 (0) j : Nat) : Int), I64 0, U64 (w : Nat), I64 ((j : Int) + 1), .chan none, .chan none, .chan none, .chan none, .chan none, .chan none, .chan none, .chan none, .chan none],
      [.chan none, .chan none, .chan none, .chan none, .chan none, .chan none, .chan none, .chan none, .chan none]],
      [Obj.cells #[U64 (wd a 0 : Nat), U64 (wd a 1 : Nat), U64 (wd a 2 : Nat), U64 (wd a 3 : Nat)] 115], []⟩) 64 ?_ ⟨0, wd a 0, rfl, Nat.zero_le _, wd_lt a 0, rfl, rfl⟩
  rintro m s' ⟨j, w, rfl, hj, hw, hb, rfl⟩
  conv => whnf
  refine ways (fun h0 => ?_) (fun h0 => ?_) <;> conv => whnf
  · have hw0 : 0 < w := by have := of_decide_eq_true h0; omega
    have hj64 : j < 64 := by
      rcases Nat.lt_or_ge j 64 with h | h
      · exact h
      · rw [show 64 - j = 0 from by omega] at hw
        omega
    have hw64 : w < 2 ^ 64 := Nat.lt_of_lt_of_le hw (Nat.pow_le_pow_right (by decide) (by omega))
    have e1 : wrapS .u64 (((w : Nat) : Int).tdiv 2) = ((w / 2 : Nat) : Int) := by
      rw [Int.tdiv_eq_ediv_of_nonneg (by omega), wrapU (by omega) (by omega)]
      omega
    have e2 : wrapS .i64 (wrapS .i64 (64 * 0) + ((j : Int) + 1)) = ((blR 0 (0) (j + 1) : Nat) : Int) := by
      rw [show wrapS .i64 (64 * 0) = 0 from by decide, wrapI (by omega) (by omega)]
      show _ = ((64 * 0 + (j + 1) : Nat) : Int)
      omega
    have e3 : wrapS .i64 ((j : Int) + 1 + 1) = ((j + 1 : Nat) : Int) + 1 := by
      rw [wrapI (by omega) (by omega)]
      omega
    refine ⟨64 - (j + 1), by omega, j + 1, w / 2, rfl, by omega, ?_, ?_, ?_⟩
    · have : 2 ^ (64 - j) = 2 * 2 ^ (64 - (j + 1)) := by rw [← Nat.pow_succ', Nat.succ_eq_add_one, show 64 - (j + 1) + 1 = 64 - j from by omega]
      omega
    · rw [← hb, show 65 - j = (65 - (j + 1)) + 1 from by omega]
      conv => rhs; unfold blOf
      rw [show decide (((w : Nat) : Int) > 0) = true from h0]
    · rw [← e1, ← e2, ← e3]
      rfl
  have hz0 : blOf 65 (wd a 0) 0 = j := by
    rw [← hb, show 65 - j = (64 - j) + 1 from by omega]
    unfold blOf
    rw [show decide (((w : Nat) : Int) > 0) = false from h0]
  rw [← hz0]
  clear hz0 hb hj hw h0
  conv => whnf
  refine aw_inv tabOk [[false, true, true, true, true, true, true, false, false, false, false, false, false, false, false, false], [false, false, false, false, false, false, false, false, false]] (fun m s' => ∃ (j w : Nat), m = 64 - j ∧ j ≤ 64 ∧ w < 2 ^ (64 - j) ∧ blOf (65 - j) w j = blOf 65 (wd a 1) 0 ∧
    s' = ⟨[[.chan none, ptr 0 0, I64 0, I64 ((blR 1 (blR 0 (0) (blOf 65 (wd a 0) 0)) j : Nat) : Int), I64 1, U64 (w : Nat), I64 ((j : Int) + 1), .chan none, .chan none, .chan none, .chan none, .chan none, .chan none, .chan none, .chan none, .chan none],
      [.chan none, .chan none, .chan none, .chan none, .chan none, .chan none, .chan none, .chan none, .chan none]],
      [Obj.cells #[U64 (wd a 0 : Nat), U64 (wd a 1 : Nat), U64 (wd a 2 : Nat), U64 (wd a 3 : Nat)] 115], []⟩) 64 ?_ ⟨0, wd a 1, rfl, Nat.zero_le _, wd_lt a 1, rfl, rfl⟩
  rintro m s' ⟨j, w, rfl, hj, hw, hb, rfl⟩
  conv => whnf
  refine ways (fun h1 => ?_) (fun h1 => ?_) <;> conv => whnf
  · have hw0 : 0 < w := by have := of_decide_eq_true h1; omega
    have hj64 : j < 64 := by
      rcases Nat.lt_or_ge j 64 with h | h
      · exact h
      · rw [show 64 - j = 0 from by omega] at hw
        omega
    have hw64 : w < 2 ^ 64 := Nat.lt_of_lt_of_le hw (Nat.pow_le_pow_right (by decide) (by omega))
    have e1 : wrapS .u64 (((w : Nat) : Int).tdiv 2) = ((w / 2 : Nat) : Int) := by
      rw [Int.tdiv_eq_ediv_of_nonneg (by omega), wrapU (by omega) (by omega)]
      omega
    have e2 : wrapS .i64 (wrapS .i64 (64 * 1) + ((j : Int) + 1)) = ((blR 1 (blR 0 (0) (blOf 65 (wd a 0) 0)) (j + 1) : Nat) : Int) := by
      rw [show wrapS .i64 (64 * 1) = 64 from by decide, wrapI (by omega) (by omega)]
      show _ = ((64 * 1 + (j + 1) : Nat) : Int)
      omega
    have e3 : wrapS .i64 ((j : Int) + 1 + 1) = ((j + 1 : Nat) : Int) + 1 := by
      rw [wrapI (by omega) (by omega)]
      omega
    refine ⟨64 - (j + 1), by omega, j + 1, w / 2, rfl, by omega, ?_, ?_, ?_⟩
    · have : 2 ^ (64 - j) = 2 * 2 ^ (64 - (j + 1)) := by rw [← Nat.pow_succ', Nat.succ_eq_add_one, show 64 - (j + 1) + 1 = 64 - j from by omega]
      omega
    · rw [← hb, show 65 - j = (65 - (j + 1)) + 1 from by omega]
      conv => rhs; unfold blOf
      rw [show decide (((w : Nat) : Int) > 0) = true from h1]
    · rw [← e1, ← e2, ← e3]
      rfl
  have hz1 : blOf 65 (wd a 1) 0 = j := by
    rw [← hb, show 65 - j = (64 - j) + 1 from by omega]
    unfold blOf
    rw [show decide (((w : Nat) : Int) > 0) = false from h1]
  rw [← hz1]
  clear hz1 hb hj hw h1
  conv => whnf
  refine aw_inv tabOk [[false, true, true, true, true, true, true, false, false, false, false, false, false, false, false, false], [false, false, false, false, false, false, false, false, false]] (fun m s' => ∃ (j w : Nat), m = 64 - j ∧ j ≤ 64 ∧ w < 2 ^ (64 - j) ∧ blOf (65 - j) w j = blOf 65 (wd a 2) 0 ∧
    s' = ⟨[[.chan none, ptr 0 0, I64 0, I64 ((blR 2 (blR 1 (blR 0 (0) (blOf 65 (wd a 0) 0)) (blOf 65 (wd a 1) 0)) j : Nat) : Int), I64 2, U64 (w : Nat), I64 ((j : Int) + 1), .chan none, .chan none, .chan none, .chan none, .chan none, .chan none, .chan none, .chan none, .chan none],
      [.chan none, .chan none, .chan none, .chan none, .chan none, .chan none, .chan none, .chan none, .chan none]],
      [Obj.cells #[U64 (wd a 0 : Nat), U64 (wd a 1 : Nat), U64 (wd a 2 : Nat), U64 (wd a 3 : Nat)] 115], []⟩) 64 ?_ ⟨0, wd a 2, rfl, Nat.zero_le _, wd_lt a 2, rfl, rfl⟩
  rintro m s' ⟨j, w, rfl, hj, hw, hb, rfl⟩
  conv => whnf
  refine ways (fun h2 => ?_) (fun h2 => ?_) <;> conv => whnf
  · have hw0 : 0 < w := by have := of_decide_eq_true h2; omega
    have hj64 : j < 64 := by
      rcases Nat.lt_or_ge j 64 with h | h
      · exact h
      · rw [show 64 - j = 0 from by omega] at hw
        omega
    have hw64 : w < 2 ^ 64 := Nat.lt_of_lt_of_le hw (Nat.pow_le_pow_right (by decide) (by omega))
    have e1 : wrapS .u64 (((w : Nat) : Int).tdiv 2) = ((w / 2 : Nat) : Int) := by
      rw [Int.tdiv_eq_ediv_of_nonneg (by omega), wrapU (by omega) (by omega)]
      omega
    have e2 : wrapS .i64 (wrapS .i64 (64 * 2) + ((j : Int) + 1)) = ((blR 2 (blR 1 (blR 0 (0) (blOf 65 (wd a 0) 0)) (blOf 65 (wd a 1) 0)) (j + 1) : Nat) : Int) := by
      rw [show wrapS .i64 (64 * 2) = 128 from by decide, wrapI (by omega) (by omega)]
      show _ = ((64 * 2 + (j + 1) : Nat) : Int)
      omega
    have e3 : wrapS .i64 ((j : Int) + 1 + 1) = ((j + 1 : Nat) : Int) + 1 := by
      rw [wrapI (by omega) (by omega)]
      omega
    refine ⟨64 - (j + 1), by omega, j + 1, w / 2, rfl, by omega, ?_, ?_, ?_⟩
    · have : 2 ^ (64 - j) = 2 * 2 ^ (64 - (j + 1)) := by rw [← Nat.pow_succ', Nat.succ_eq_add_one, show 64 - (j + 1) + 1 = 64 - j from by omega]
      omega
    · rw [← hb, show 65 - j = (65 - (j + 1)) + 1 from by omega]
      conv => rhs; unfold blOf
      rw [show decide (((w : Nat) : Int) > 0) = true from h2]
    · rw [← e1, ← e2, ← e3]
      rfl
  have hz2 : blOf 65 (wd a 2) 0 = j := by
    rw [← hb, show 65 - j = (64 - j) + 1 from by omega]
    unfold blOf
    rw [show decide (((w : Nat) : Int) > 0) = false from h2]
  rw [← hz2]
  clear hz2 hb hj hw h2
  conv => whnf
  refine aw_inv tabOk [[false, true, true, true, true, true, true, false, false, false, false, false, false, false, false, false], [false, false, false, false, false, false, false, false, false]] (fun m s' => ∃ (j w : Nat), m = 64 - j ∧ j ≤ 64 ∧ w < 2 ^ (64 - j) ∧ blOf (65 - j) w j = blOf 65 (wd a 3) 0 ∧
    s' = ⟨[[.chan none, ptr 0 0, I64 0, I64 ((blR 3 (blR 2 (blR 1 (blR 0 (0) (blOf 65 (wd a 0) 0)) (blOf 65 (wd a 1) 0)) (blOf 65 (wd a 2) 0)) j : Nat) : Int), I64 3, U64 (w : Nat), I64 ((j : Int) + 1), .chan none, .chan none, .chan none, .chan none, .chan none, .chan none, .chan none, .chan none, .chan none],
      [.chan none, .chan none, .chan none, .chan none, .chan none, .chan none, .chan none, .chan none, .chan none]],
      [Obj.cells #[U64 (wd a 0 : Nat), U64 (wd a 1 : Nat), U64 (wd a 2 : Nat), U64 (wd a 3 : Nat)] 115], []⟩) 64 ?_ ⟨0, wd a 3, rfl, Nat.zero_le _, wd_lt a 3, rfl, rfl⟩
  rintro m s' ⟨j, w, rfl, hj, hw, hb, rfl⟩
  conv => whnf
  refine ways (fun h3 => ?_) (fun h3 => ?_) <;> conv => whnf
  · have hw0 : 0 < w := by have := of_decide_eq_true h3; omega
    have hj64 : j < 64 := by
      rcases Nat.lt_or_ge j 64 with h | h
      · exact h
      · rw [show 64 - j = 0 from by omega] at hw
        omega
    have hw64 : w < 2 ^ 64 := Nat.lt_of_lt_of_le hw (Nat.pow_le_pow_right (by decide) (by omega))
    have e1 : wrapS .u64 (((w : Nat) : Int).tdiv 2) = ((w / 2 : Nat) : Int) := by
      rw [Int.tdiv_eq_ediv_of_nonneg (by omega), wrapU (by omega) (by omega)]
      omega
    have e2 : wrapS .i64 (wrapS .i64 (64 * 3) + ((j : Int) + 1)) = ((blR 3 (blR 2 (blR 1 (blR 0 (0) (blOf 65 (wd a 0) 0)) (blOf 65 (wd a 1) 0)) (blOf 65 (wd a 2) 0)) (j + 1) : Nat) : Int) := by
      rw [show wrapS .i64 (64 * 3) = 192 from by decide, wrapI (by omega) (by omega)]
      show _ = ((64 * 3 + (j + 1) : Nat) : Int)
      omega
    have e3 : wrapS .i64 ((j : Int) + 1 + 1) = ((j + 1 : Nat) : Int) + 1 := by
      rw [wrapI (by omega) (by omega)]
      omega
    refine ⟨64 - (j + 1), by omega, j + 1, w / 2, rfl, by omega, ?_, ?_, ?_⟩
    · have : 2 ^ (64 - j) = 2 * 2 ^ (64 - (j + 1)) := by rw [← Nat.pow_succ', Nat.succ_eq_add_one, show 64 - (j + 1) + 1 = 64 - j from by omega]
      omega
    · rw [← hb, show 65 - j = (65 - (j + 1)) + 1 from by omega]
      conv => rhs; unfold blOf
      rw [show decide (((w : Nat) : Int) > 0) = true from h3]
    · rw [← e1, ← e2, ← e3]
      rfl
  have hz3 : blOf 65 (wd a 3) 0 = j := by
    rw [← hb, show 65 - j = (64 - j) + 1 from by omega]
    unfold blOf
    rw [show decide (((w : Nat) : Int) > 0) = false from h3]
  rw [← hz3]
  clear hz3 hb hj hw h3
  conv => whnf
  refine ⟨rfl, fin_turnedK rfl ?_⟩
  conv => whnf
  exact ⟨rfl, rfl⟩
end Go.Proofs.YtjpjnjidchdlbaaDoor

/-
  Wide numbers: the root (no condition).
-/
namespace Go.Proofs.YtjpjnjidchdlbaaDoor
set_option linter.unusedSimpArgs false
set_option linter.unusedVariables false
open Go
set_option maxRecDepth 100000
set_option maxHeartbeats 4000000
theorem has131 : Has Tryd.prog 131 Tryd.f131 := ⟨Tryd.func131, by kernel_rfl, by kernel_rfl⟩
def packW (w0 w1 w2 w3 : Nat) : Nat := w0 + 18446744073709551616 * w1 + 340282366920938463463374607431768211456 * w2 + 6277101735386680763835789423207666416102355444464034512896 * w3
theorem packW_ok {w0 w1 w2 w3 : Nat} (h0 : w0 < 18446744073709551616) (h1 : w1 < 18446744073709551616) (h2 : w2 < 18446744073709551616) (h3 : w3 < 18446744073709551616) :
    packW w0 w1 w2 w3 < MW ∧ wd (packW w0 w1 w2 w3) 0 = w0 ∧ wd (packW w0 w1 w2 w3) 1 = w1 ∧ wd (packW w0 w1 w2 w3) 2 = w2 ∧ wd (packW w0 w1 w2 w3) 3 = w3 := by
  rw [wd0, wd1, wd2, wd3]
  unfold packW MW
  refine ⟨by omega, by omega, by omega, by omega, by omega⟩
/-- a word, a bit set -/
def orWd (w k : Nat) : Nat := (BitVec.ofInt 64 (w : Int) ||| BitVec.ofInt 64 (wrapS .u64 (1 * 2 ^ min (((k : Nat) : Int).tmod 64).toNat 64))).toNat
theorem orWd_lt (w k : Nat) : orWd w k < 18446744073709551616 := (BitVec.ofInt 64 (w : Int) ||| BitVec.ofInt 64 (wrapS .u64 (1 * 2 ^ min (((k : Nat) : Int).tmod 64).toNat 64))).isLt
theorem orWd_w (w k : Nat) : wrapS .u64 ((orWd w k : Nat) : Int) = ((orWd w k : Nat) : Int) := wrapU (by omega) (by have := orWd_lt w k; omega)
def orBit (r k : Nat) : Nat := match k / 64 with
  | 0 => packW (orWd (wd r 0) k) (wd r 1) (wd r 2) (wd r 3)
  | 1 => packW (wd r 0) (orWd (wd r 1) k) (wd r 2) (wd r 3)
  | _ => packW (wd r 0) (wd r 1) (orWd (wd r 2) k) (wd r 3)
def rootS (a k r : Nat) : Nat := match mulF (orBit r k) (orBit r k) with
  | true => r
  | false => match decide (cmpW (mulN (orBit r k) (orBit r k)) a ≤ 0) with
    | true => orBit r k
    | false => r
def rootG (a : Nat) : Nat → Nat → Nat
  | 0, r => r
  | j + 1, r => rootG a j (rootS a j r)
def rootN (a : Nat) : Nat × Int := match decide (cmpW a 0 < 0) with
  | true => (0, 2)
  | false => (rootG a (bitsN a / 2 + 1) 0, 0)
theorem orBit_lt (r k : Nat) : orBit r k < MW := by
  unfold orBit
  split
  · exact (packW_ok (orWd_lt _ _) (wd_lt _ _) (wd_lt _ _) (wd_lt _ _)).1
  · exact (packW_ok (wd_lt _ _) (orWd_lt _ _) (wd_lt _ _) (wd_lt _ _)).1
  · exact (packW_ok (wd_lt _ _) (wd_lt _ _) (orWd_lt _ _) (wd_lt _ _)).1
theorem rootS_lt {r : Nat} (a k : Nat) (h : r < MW) : rootS a k r < MW := by
  unfold rootS
  split
  · exact h
  · split
    · exact orBit_lt _ _
    · exact h
theorem rootG_lt (a : Nat) : ∀ (j : Nat) {r : Nat}, r < MW → rootG a j r < MW
  | 0, _, h => h
  | j + 1, _, h => rootG_lt a j (rootS_lt a j h)
theorem rootN_lt (a : Nat) : (rootN a).1 < MW := by
  unfold rootN
  split
  · exact (show (0 : Nat) < MW by decide)
  · exact rootG_lt a _ (by decide)
theorem Root_n (G) {a : Nat} (ha : a < MW) : AC Tryd.prog G 131 [wv a] [] (fun v h => v = .tuple #[wv (rootN a).1, I64 (rootN a).2] ∧ h = []) := by
  refine ac_of_body tabOk has131 ?_
  unfold BodyOk
  conv => whnf
  refine ac_pure (Sign_n G a) rfl ?_
  rintro v h' ⟨rfl, rfl⟩
  refine ⟨rfl, rfl, ?_⟩
  conv => whnf
  refine ways (fun c1 => ?_) (fun c1 => ?_) <;> conv => whnf
  · skip
    refine ⟨rfl, fin_turnedK rfl ?_⟩
    conv => whnf
    have e : rootN a = (0, 2) := by unfold rootN; rw [show decide (cmpW a 0 < 0) = true from c1]
    exact ⟨by rw [e]; rfl, rfl⟩
  refine ac_pure (bits_n G a) rfl ?_
  rintro v h' ⟨rfl, rfl⟩
  refine ⟨rfl, rfl, ?_⟩
  conv => whnf
  have hbl := bitsN_le a
  rw [show wrapS .i64 (((bitsN a : Nat) : Int).tdiv 2) = ((bitsN a / 2 + 1 : Nat) : Int) - 1 from by
    rw [Int.tdiv_eq_ediv_of_nonneg (by omega), wrapI (by omega) (by omega)]
    omega]
  refine aw_invT tabOk [[false, true, true, false, true, true, false, false, false, false, false, false, false, false, false, false], [false, false, false, false, false, false, false, false, false, false, false, false, false, false, false, false], [false, false, false, false, false, false, false, false, false, false, false, false, false, false, false, false]] (fun m s' => ∃ (j r : Nat), m = j ∧ j ≤ 129 ∧ r < MW ∧ rootG a j r = rootG a (bitsN a / 2 + 1) 0 ∧
    s' = ⟨[[.chan none, ptr 0 0, ptr 1 0, .chan none, ptr 2 0, I64 ((j : Int) - 1), .chan none, .chan none, .chan none, .chan none, .chan none, .chan none, .chan none, .chan none, .chan none, .chan none],
      [.chan none, .chan none, .chan none, .chan none, .chan none, .chan none, .chan none, .chan none, .chan none, .chan none, .chan none, .chan none, .chan none, .chan none, .chan none, .chan none],
      [.chan none, .chan none, .chan none, .chan none, .chan none, .chan none, .chan none, .chan none, .chan none, .chan none, .chan none, .chan none, .chan none, .chan none, .chan none, .chan none]],
      [Obj.cells #[U64 (wd a 0 : Nat), U64 (wd a 1 : Nat), U64 (wd a 2 : Nat), U64 (wd a 3 : Nat)] 115, Obj.cells #[U64 0, U64 0, U64 0, U64 0] 115, Obj.cells #[U64 (wd r 0 : Nat), U64 (wd r 1 : Nat), U64 (wd r 2 : Nat), U64 (wd r 3 : Nat)] 115], []⟩) (bitsN a / 2 + 1) ?_ ⟨_, 0, rfl, by omega, by decide, rfl, rfl⟩
  rintro j s' ⟨_, r, rfl, hj, hr, hg, rfl⟩
  conv => whnf
  refine ways (fun c2 => ?_) (fun c2 => ?_) <;> conv => whnf
  · obtain ⟨k, rfl⟩ : ∃ k, j = k + 1 := ⟨j - 1, by have := of_decide_eq_true c2; omega⟩
    rw [show ((k + 1 : Nat) : Int) - 1 = ((k : Nat) : Int) from by omega]
    refine ad_of tabOk (by kernel_rfl) [(0, false), (1, false), (2, false), (3, false), (4, false), (5, false), (6, false), (7, false), (8, false), (9, false), (10, false), (11, true)] (by kernel_rfl) ?_
    conv => whnf
    have hk : k ≤ 128 := by omega
    rw [show wrapS .i64 (((k : Nat) : Int).tdiv 64) = ((k / 64 : Nat) : Int) from by
      rw [Int.tdiv_eq_ediv_of_nonneg (by omega), wrapI (by omega) (by omega)]
      omega]
    obtain ⟨q, hq⟩ : ∃ q, q = k / 64 := ⟨_, rfl⟩
    rw [← hq]
    have hq3 : q < 3 := by omega
    match q, hq3 with
    | 0, _ =>
      have hm : orBit r k = packW (orWd (wd r 0) k) (wd r 1) (wd r 2) (wd r 3) := by unfold orBit; rw [← hq]; rfl
      obtain ⟨_, e0, e1, e2, e3⟩ := packW_ok (w0 := orWd (wd r 0) k) (w1 := wd r 1) (w2 := wd r 2) (w3 := wd r 3) (orWd_lt _ _) (wd_lt _ _) (wd_lt _ _) (wd_lt _ _)
      rw [← hm] at e0 e1 e2 e3
      have hmw : Value.agg #[U64 ((orWd (wd r 0) k : Nat) : Int), U64 ((wd r 1 : Nat) : Int), U64 ((wd r 2 : Nat) : Int), U64 ((wd r 3 : Nat) : Int)] = wv (orBit r k) := by unfold wv; rw [e0, e1, e2, e3]
      have hM := Mul_n G (orBit_lt r k) (orBit_lt r k)
      rw [← hmw] at hM
      conv => whnf
      rw [show wrapS .u64 (((BitVec.ofInt IntKind.u64.bits ((wd r 0 : Nat) : Int) ||| BitVec.ofInt IntKind.u64.bits (wrapS .u64 (1 * 2 ^ min (((k : Nat) : Int).tmod 64).toNat IntKind.u64.bits))).toNat : Nat) : Int) = ((orWd (wd r 0) k : Nat) : Int) from orWd_w _ _]
      refine ac_pure hM rfl ?_
      rintro v h' ⟨rfl, rfl⟩
      refine ⟨rfl, rfl, ?_⟩
      conv => whnf
      refine ways (fun c3 => ?_) (fun c3 => ?_) <;> conv => whnf
      · skip
        refine ac_pure (Cmp_n G (mulN (orBit r k) (orBit r k)) a) rfl ?_
        rintro v h' ⟨rfl, rfl⟩
        refine ⟨rfl, rfl, ?_⟩
        conv => whnf
        refine ways (fun c4 => ?_) (fun c4 => ?_) <;> conv => whnf
        · rw [show wrapS .i64 (((k : Nat) : Int) - 1) = ((k : Nat) : Int) - 1 from by rw [wrapI (by omega) (by omega)]]
          refine ⟨rfl, rfl, rfl, rfl, k, by omega, k, (orBit r k), rfl, by omega, orBit_lt r k, ?_, ?_⟩
          · rw [← hg]
            show _ = rootG a k (rootS a k r)
            have e : rootS a k r = (orBit r k) := by unfold rootS; rw [show mulF (orBit r k) (orBit r k) = false from by simpa using c3]; rw [show decide (cmpW (mulN (orBit r k) (orBit r k)) a ≤ 0) = true from c4]
            rw [e]
          · rw [e0, e1, e2, e3]; rfl
        · rw [show wrapS .i64 (((k : Nat) : Int) - 1) = ((k : Nat) : Int) - 1 from by rw [wrapI (by omega) (by omega)]]
          refine ⟨rfl, rfl, rfl, rfl, k, by omega, k, r, rfl, by omega, hr, ?_, ?_⟩
          · rw [← hg]
            show _ = rootG a k (rootS a k r)
            have e : rootS a k r = r := by unfold rootS; rw [show mulF (orBit r k) (orBit r k) = false from by simpa using c3]; rw [show decide (cmpW (mulN (orBit r k) (orBit r k)) a ≤ 0) = false from c4]
            rw [e]
          · rfl
      · rw [show wrapS .i64 (((k : Nat) : Int) - 1) = ((k : Nat) : Int) - 1 from by rw [wrapI (by omega) (by omega)]]
        refine ⟨rfl, rfl, rfl, rfl, k, by omega, k, r, rfl, by omega, hr, ?_, ?_⟩
        · rw [← hg]
          show _ = rootG a k (rootS a k r)
          have e : rootS a k r = r := by unfold rootS; rw [show mulF (orBit r k) (orBit r k) = true from by simpa using c3]
          rw [e]
        · rfl
    | 1, _ =>
      have hm : orBit r k = packW (wd r 0) (orWd (wd r 1) k) (wd r 2) (wd r 3) := by unfold orBit; rw [← hq]; rfl
      obtain ⟨_, e0, e1, e2, e3⟩ := packW_ok (w0 := wd r 0) (w1 := orWd (wd r 1) k) (w2 := wd r 2) (w3 := wd r 3) (wd_lt _ _) (orWd_lt _ _) (wd_lt _ _) (wd_lt _ _)
      rw [← hm] at e0 e1 e2 e3
      have hmw : Value.agg #[U64 ((wd r 0 : Nat) : Int), U64 ((orWd (wd r 1) k : Nat) : Int), U64 ((wd r 2 : Nat) : Int), U64 ((wd r 3 : Nat) : Int)] = wv (orBit r k) := by unfold wv; rw [e0, e1, e2, e3]
      have hM := Mul_n G (orBit_lt r k) (orBit_lt r k)
      rw [← hmw] at hM
      conv => whnf
      rw [show wrapS .u64 (((BitVec.ofInt IntKind.u64.bits ((wd r 1 : Nat) : Int) ||| BitVec.ofInt IntKind.u64.bits (wrapS .u64 (1 * 2 ^ min (((k : Nat) : Int).tmod 64).toNat IntKind.u64.bits))).toNat : Nat) : Int) = ((orWd (wd r 1) k : Nat) : Int) from orWd_w _ _]
      refine ac_pure hM rfl ?_
      rintro v h' ⟨rfl, rfl⟩
      refine ⟨rfl, rfl, ?_⟩
      conv => whnf
      refine ways (fun c3 => ?_) (fun c3 => ?_) <;> conv => whnf
      · skip
        refine ac_pure (Cmp_n G (mulN (orBit r k) (orBit r k)) a) rfl ?_
        rintro v h' ⟨rfl, rfl⟩
        refine ⟨rfl, rfl, ?_⟩
        conv => whnf
        refine ways (fun c4 => ?_) (fun c4 => ?_) <;> conv => whnf
        · rw [show wrapS .i64 (((k : Nat) : Int) - 1) = ((k : Nat) : Int) - 1 from by rw [wrapI (by omega) (by omega)]]
          refine ⟨rfl, rfl, rfl, rfl, k, by omega, k, (orBit r k), rfl, by omega, orBit_lt r k, ?_, ?_⟩
          · rw [← hg]
            show _ = rootG a k (rootS a k r)
            have e : rootS a k r = (orBit r k) := by unfold rootS; rw [show mulF (orBit r k) (orBit r k) = false from by simpa using c3]; rw [show decide (cmpW (mulN (orBit r k) (orBit r k)) a ≤ 0) = true from c4]
            rw [e]
          · rw [e0, e1, e2, e3]; rfl
        · rw [show wrapS .i64 (((k : Nat) : Int) - 1) = ((k : Nat) : Int) - 1 from by rw [wrapI (by omega) (by omega)]]
          refine ⟨rfl, rfl, rfl, rfl, k, by omega, k, r, rfl, by omega, hr, ?_, ?_⟩
          · rw [← hg]
            show _ = rootG a k (rootS a k r)
            have e : rootS a k r = r := by unfold rootS; rw [show mulF (orBit r k) (orBit r k) = false from by simpa using c3]; rw [show decide (cmpW (mulN (orBit r k) (orBit r k)) a ≤ 0) = false from c4]
            rw [e]
          · rfl
      · rw [show wrapS .i64 (((k : Nat) : Int) - 1) = ((k : Nat) : Int) - 1 from by rw [wrapI (by omega) (by omega)]]
        refine ⟨rfl, rfl, rfl, rfl, k, by omega, k, r, rfl, by omega, hr, ?_, ?_⟩
        · rw [← hg]
          show _ = rootG a k (rootS a k r)
          have e : rootS a k r = r := by unfold rootS; rw [show mulF (orBit r k) (orBit r k) = true from by simpa using c3]
          rw [e]
        · rfl
    | 2, _ =>
      have hm : orBit r k = packW (wd r 0) (wd r 1) (orWd (wd r 2) k) (wd r 3) := by unfold orBit; rw [← hq]; rfl
      obtain ⟨_, e0, e1, e2, e3⟩ := packW_ok (w0 := wd r 0) (w1 := wd r 1) (w2 := orWd (wd r 2) k) (w3 := wd r 3) (wd_lt _ _) (wd_lt _ _) (orWd_lt _ _) (wd_lt _ _)
      rw [← hm] at e0 e1 e2 e3
      have hmw : Value.agg #[U64 ((wd r 0 : Nat) : Int), U64 ((wd r 1 : Nat) : Int), U64 ((orWd (wd r 2) k : Nat) : Int), U64 ((wd r 3 : Nat) : Int)] = wv (orBit r k) := by unfold wv; rw [e0, e1, e2, e3]
      have hM := Mul_n G (orBit_lt r k) (orBit_lt r k)
      rw [← hmw] at hM
      conv => whnf
      rw [show wrapS .u64 (((BitVec.ofInt IntKind.u64.bits ((wd r 2 : Nat) : Int) ||| BitVec.ofInt IntKind.u64.bits (wrapS .u64 (1 * 2 ^ min (((k : Nat) : Int).tmod 64).toNat IntKind.u64.bits))).toNat : Nat) : Int) = ((orWd (wd r 2) k : Nat) : Int) from orWd_w _ _]
      refine ac_pure hM rfl ?_
      rintro v h' ⟨rfl, rfl⟩
      refine ⟨rfl, rfl, ?_⟩
      conv => whnf
      refine ways (fun c3 => ?_) (fun c3 => ?_) <;> conv => whnf
      · skip
        refine ac_pure (Cmp_n G (mulN (orBit r k) (orBit r k)) a) rfl ?_
        rintro v h' ⟨rfl, rfl⟩
        refine ⟨rfl, rfl, ?_⟩
        conv => whnf
        refine ways (fun c4 => ?_) (fun c4 => ?_) <;> conv => whnf
        · rw [show wrapS .i64 (((k : Nat) : Int) - 1) = ((k : Nat) : Int) - 1 from by rw [wrapI (by omega) (by omega)]]
          refine ⟨rfl, rfl, rfl, rfl, k, by omega, k, (orBit r k), rfl, by omega, orBit_lt r k, ?_, ?_⟩
          · rw [← hg]
            show _ = rootG a k (rootS a k r)
            have e : rootS a k r = (orBit r k) := by unfold rootS; rw [show mulF (orBit r k) (orBit r k) = false from by simpa using c3]; rw [show decide (cmpW (mulN (orBit r k) (orBit r k)) a ≤ 0) = true from c4]
            rw [e]
          · rw [e0, e1, e2, e3]; rfl
        · rw [show wrapS .i64 (((k : Nat) : Int) - 1) = ((k : Nat) : Int) - 1 from by rw [wrapI (by omega) (by omega)]]
          refine ⟨rfl, rfl, rfl, rfl, k, by omega, k, r, rfl, by omega, hr, ?_, ?_⟩
          · rw [← hg]
            show _ = rootG a k (rootS a k r)
            have e : rootS a k r = r := by unfold rootS; rw [show mulF (orBit r k) (orBit r k) = false from by simpa using c3]; rw [show decide (cmpW (mulN (orBit r k) (orBit r k)) a ≤ 0) = false from c4]
            rw [e]
          · rfl
      · rw [show wrapS .i64 (((k : Nat) : Int) - 1) = ((k : Nat) : Int) - 1 from by rw [wrapI (by omega) (by omega)]]
        refine ⟨rfl, rfl, rfl, rfl, k, by omega, k, r, rfl, by omega, hr, ?_, ?_⟩
        · rw [← hg]
          show _ = rootG a k (rootS a k r)
          have e : rootS a k r = r := by unfold rootS; rw [show mulF (orBit r k) (orBit r k) = true from by simpa using c3]
          rw [e]
        · rfl
  · obtain rfl : j = 0 := by have := of_decide_eq_false c2; omega
    have e : rootN a = (r, 0) := by unfold rootN; rw [show decide (cmpW a 0 < 0) = false from c1, ← hg]; rfl
    refine ⟨rfl, fin_turnedK rfl ?_⟩
    conv => whnf
    exact ⟨by rw [e]; rfl, rfl⟩
end Go.Proofs.YtjpjnjidchdlbaaDoor

/-
  Wide numbers: the root of a quotient, half of it (no condition).
-/
namespace Go.Proofs.YtjpjnjidchdlbaaDoor
set_option linter.unusedSimpArgs false
set_option linter.unusedVariables false
open Go
set_option maxRecDepth 100000
set_option maxHeartbeats 4000000
theorem has122 : Has Tryd.prog 122 Tryd.f122 := ⟨Tryd.func122, by kernel_rfl, by kernel_rfl⟩
theorem has108 : Has Tryd.prog 108 Tryd.f108 := ⟨Tryd.func108, by kernel_rfl, by kernel_rfl⟩

theorem npos {b : Nat} (hb : b < MW) (h1 : eqZ b = false) (h2 : decide (cmpW b 0 < 0) = false) : 0 < b ∧ b < 57896044618658097711785492504343953926634992332820282019728792003956564819968 := by
  have h3 := of_decide_eq_false h2
  have hl : lowN b = false := by
    cases h : lowN b with
    | false => rfl
    | true =>
      refine absurd ?_ h3
      have e : cmpW b 0 = -1 := by
        unfold cmpW
        rw [h, show lowN 0 = false from by decide]
        rfl
      rw [e]
      decide
  rw [lowN_eq hb] at hl
  have h4 := of_decide_eq_false hl
  refine ⟨?_, by omega⟩
  rcases Nat.eq_zero_or_pos b with rfl | h
  · exact absurd h1 (by decide)
  · exact h
def sqrtN (a b : Nat) : Nat × Int := match eqZ b with
  | true => (b, 30)
  | false => match decide (cmpW a 0 < 0) with
    | true => (0, 2)
    | false => match decide (cmpW b 0 < 0) with
      | true => (0, 2)
      | false => match !((floorN a b).2.2 == 0) with
        | true => (0, (floorN a b).2.2)
        | false => rootN (floorN a b).1
theorem sqrtN_lt {b : Nat} (a : Nat) (hb : b < MW) : (sqrtN a b).1 < MW := by
  have z : (0 : Nat) < MW := by decide
  unfold sqrtN
  split
  · exact hb
  · split
    · exact z
    · split
      · exact z
      · split
        · exact z
        · exact rootN_lt _
def halfW (a b : Nat) : Nat × Int := match !((sqrtN a b).2 == 0) with
  | true => (0, (sqrtN a b).2)
  | false => ((floorN (addN (sqrtN a b).1 1) 2).1, (floorN (addN (sqrtN a b).1 1) 2).2.2)
theorem Sqrt_n (G) {a b : Nat} (ha : a < MW) (hb : b < MW) : AC Tryd.prog G 122 [wv a, wv b] [] (fun v h => v = .tuple #[wv (sqrtN a b).1, I64 (sqrtN a b).2] ∧ h = []) := by
  refine ac_of_body tabOk has122 ?_
  unfold BodyOk
  conv => whnf
  refine ways (fun c1 => ?_) (fun c1 => ?_) <;> conv => whnf
  · skip
    refine ⟨rfl, fin_turnedK rfl ?_⟩
    conv => whnf
    have e : sqrtN a b = (b, 30) := by unfold sqrtN; rw [show eqZ b = true from c1]
    exact ⟨by rw [e]; rfl, rfl⟩
  refine ac_pure (Sign_n G a) rfl ?_
  rintro v h' ⟨rfl, rfl⟩
  refine ⟨rfl, rfl, ?_⟩
  conv => whnf
  refine ways (fun c2 => ?_) (fun c2 => ?_) <;> conv => whnf
  · skip
    refine ⟨rfl, fin_turnedK rfl ?_⟩
    conv => whnf
    have e : sqrtN a b = (0, 2) := by unfold sqrtN; rw [show eqZ b = false from c1]; rw [show decide (cmpW a 0 < 0) = true from c2]
    exact ⟨by rw [e]; rfl, rfl⟩
  refine ac_pure (Sign_n G b) rfl ?_
  rintro v h' ⟨rfl, rfl⟩
  refine ⟨rfl, rfl, ?_⟩
  conv => whnf
  refine ways (fun c3 => ?_) (fun c3 => ?_) <;> conv => whnf
  · skip
    refine ⟨rfl, fin_turnedK rfl ?_⟩
    conv => whnf
    have e : sqrtN a b = (0, 2) := by unfold sqrtN; rw [show eqZ b = false from c1]; rw [show decide (cmpW a 0 < 0) = false from c2]; rw [show decide (cmpW b 0 < 0) = true from c3]
    exact ⟨by rw [e]; rfl, rfl⟩
  obtain ⟨p0, p1⟩ := npos hb c1 c3
  refine ac_pure (Floor_n G ha p0 p1) rfl ?_
  rintro v h' ⟨rfl, rfl⟩
  refine ⟨rfl, rfl, ?_⟩
  conv => whnf
  refine ways (fun c4 => ?_) (fun c4 => ?_) <;> conv => whnf
  · skip
    refine ⟨rfl, fin_turnedK rfl ?_⟩
    conv => whnf
    have e : sqrtN a b = (0, (floorN a b).2.2) := by unfold sqrtN; rw [show eqZ b = false from c1]; rw [show decide (cmpW a 0 < 0) = false from c2]; rw [show decide (cmpW b 0 < 0) = false from c3]; rw [show (!((floorN a b).2.2 == 0)) = true from c4]
    exact ⟨by rw [e]; show _ = Value.tuple #[wv 0, I64 (floorN a b).2.2]; rfl, rfl⟩
  refine ac_pure (Root_n G (floorN_lt ha b).1) rfl ?_
  rintro v h' ⟨rfl, rfl⟩
  refine ⟨rfl, rfl, ?_⟩
  conv => whnf
  refine ⟨rfl, fin_turnedK rfl ?_⟩
  conv => whnf
  have e : sqrtN a b = rootN (floorN a b).1 := by unfold sqrtN; rw [show eqZ b = false from c1]; rw [show decide (cmpW a 0 < 0) = false from c2]; rw [show decide (cmpW b 0 < 0) = false from c3]; rw [show (!((floorN a b).2.2 == 0)) = false from c4]
  exact ⟨by rw [e]; rfl, rfl⟩
theorem Half_n (G) {a b : Nat} (ha : a < MW) (hb : b < MW) : AC Tryd.prog G 108 [wv a, wv b] [] (fun v h => v = .tuple #[wv (halfW a b).1, I64 (halfW a b).2] ∧ h = []) := by
  refine ac_of_body tabOk has108 ?_
  unfold BodyOk
  conv => whnf
  refine ac_pure (Sqrt_n G ha hb) rfl ?_
  rintro v h' ⟨rfl, rfl⟩
  refine ⟨rfl, rfl, ?_⟩
  conv => whnf
  refine ways (fun c1 => ?_) (fun c1 => ?_) <;> conv => whnf
  · skip
    refine ⟨rfl, fin_turnedK rfl ?_⟩
    conv => whnf
    have e : halfW a b = (0, (sqrtN a b).2) := by unfold halfW; rw [show (!((sqrtN a b).2 == 0)) = true from c1]
    exact ⟨by rw [e]; show _ = Value.tuple #[wv 0, I64 (sqrtN a b).2]; rfl, rfl⟩
  refine ad_hole [19] [.cells _ 115, .cells _ 115, .cells _ 115, .deferred none] tabOk (by kernel_rfl) [(0, false), (1, false), (2, false), (3, false), (4, false), (5, false), (6, false)] (by kernel_rfl) ⟨.inl rfl, .inl rfl, .inl rfl, .inr rfl, trivial⟩ ?_
  conv => whnf
  refine quiet_of (Of_n G (i := 1) (by omega) (by omega)) rfl ?_
  rintro v h' ⟨rfl, rfl⟩
  refine ⟨rfl, rfl, ?_⟩
  conv => whnf
  refine quiet_of (Add_n G (a := (sqrtN a b).1) (b := 1) (by decide)) rfl ?_
  rintro v h' ⟨rfl, rfl⟩
  refine ⟨rfl, rfl, ?_⟩
  conv => whnf
  refine ⟨⟨.inl rfl, .inl rfl, .inl rfl, .inr rfl, trivial⟩, ?_⟩
  conv => whnf
  refine ad_of tabOk (by kernel_rfl) [(0, false), (1, false), (2, false), (3, false), (4, false), (5, true), (6, true)] (by kernel_rfl) ?_
  conv => whnf
  refine quiet_of (Of_n G (i := 2) (by omega) (by omega)) rfl ?_
  rintro v h' ⟨rfl, rfl⟩
  refine ⟨rfl, rfl, ?_⟩
  conv => whnf
  refine quiet_of (Floor_n G (a := addN (sqrtN a b).1 1) (b := 2) (addN_lt _ _) (by decide) (by decide)) rfl ?_
  rintro v h' ⟨rfl, rfl⟩
  refine ⟨rfl, rfl, ?_⟩
  conv => whnf
  refine ⟨rfl, fin_turnedK rfl ?_⟩
  conv => whnf
  exact ⟨by unfold halfW; rw [show (!((sqrtN a b).2 == 0)) = false from c1]; rfl, rfl⟩
theorem halfW_lt {b : Nat} (a : Nat) (hb : b < MW) : (halfW a b).1 < MW := by
  unfold halfW
  split
  · exact (show (0 : Nat) < MW by decide)
  · exact (floorN_lt (addN_lt _ _) 2).1
end Go.Proofs.YtjpjnjidchdlbaaDoor

/-
  The pull: what may be asked; products of numbers (no condition).
-/
namespace Go.Proofs.YtjpjnjidchdlbaaDoor
set_option linter.unusedSimpArgs false
set_option linter.unusedVariables false
open Go
set_option maxRecDepth 100000
set_option maxHeartbeats 4000000
theorem has104 : Has Tryd.prog 104 Tryd.f104 := ⟨Tryd.func104, by kernel_rfl, by kernel_rfl⟩
theorem has105 : Has Tryd.prog 105 Tryd.f105 := ⟨Tryd.func105, by kernel_rfl, by kernel_rfl⟩
theorem has106 : Has Tryd.prog 106 Tryd.f106 := ⟨Tryd.func106, by kernel_rfl, by kernel_rfl⟩
theorem has107 : Has Tryd.prog 107 Tryd.f107 := ⟨Tryd.func107, by kernel_rfl, by kernel_rfl⟩

def btw (x lo hi : Int) : Bool := match decide (x ≥ lo) with
  | true => decide (x ≤ hi)
  | false => false
theorem btw_n (G) (x lo hi : Int) : AC Tryd.prog G 104 [I64 x, I64 lo, I64 hi] [] (fun v h => v = .bool (btw x lo hi) ∧ h = []) := by
  refine ac_of_body tabOk has104 ?_
  unfold BodyOk
  conv => whnf
  unfold btw
  refine ways (fun h1 => ?_) (fun h1 => ?_) <;> conv => whnf
  · skip
    refine ⟨rfl, fin_turnedK rfl ?_⟩
    conv => whnf
    exact ⟨by rw [h1], rfl⟩
  · skip
    refine ⟨rfl, fin_turnedK rfl ?_⟩
    conv => whnf
    exact ⟨by rw [h1], rfl⟩
def mayB (p0 p1 p2 p3 p4 p5 : Int) : Bool := match !(btw p0 (-2097152) 2097152) with | true => true | false => (match !(btw p1 1 2097152) with | true => true | false => (match !(btw p2 1 1048576) with | true => true | false => (match !(btw p3 1 1024) with | true => true | false => (match !(btw p4 (-2097152) 2097152) with | true => true | false => !(btw p5 0 13194139533312)))))
def mayE (p0 p1 p2 p3 p4 p5 : Int) : Int := match mayB p0 p1 p2 p3 p4 p5 with
  | true => 2
  | false => match p5 == 0 with
    | true => 30
    | false => match decide (wrapS .i64 (p4 * p4) > p5) with
      | true => 2
      | false => 0
theorem may_n (G) (p0 p1 p2 p3 p4 p5 : Int) : AC Tryd.prog G 105 [I64 p0, I64 p1, I64 p2, I64 p3, I64 p4, I64 p5] [] (fun v h => v = I64 (mayE p0 p1 p2 p3 p4 p5) ∧ h = []) := by
  refine ac_of_body tabOk has105 ?_
  unfold BodyOk
  conv => whnf
  refine ac_pure (btw_n G p0 (-2097152) 2097152) rfl ?_
  rintro v h' ⟨rfl, rfl⟩
  refine ⟨rfl, rfl, ?_⟩
  conv => whnf
  refine ways (fun m0 => ?_) (fun m0 => ?_) <;> conv => whnf
  · skip
    have e : mayB p0 p1 p2 p3 p4 p5 = true := by unfold mayB; rw [show (!(btw p0 (-2097152) 2097152)) = true from m0]
    refine ⟨rfl, fin_turnedK rfl ?_⟩
    conv => whnf
    exact ⟨by unfold mayE; rw [e], rfl⟩
  refine ac_pure (btw_n G p1 1 2097152) rfl ?_
  rintro v h' ⟨rfl, rfl⟩
  refine ⟨rfl, rfl, ?_⟩
  conv => whnf
  refine ways (fun m1 => ?_) (fun m1 => ?_) <;> conv => whnf
  · skip
    have e : mayB p0 p1 p2 p3 p4 p5 = true := by unfold mayB; rw [show (!(btw p0 (-2097152) 2097152)) = false from m0]; rw [show (!(btw p1 1 2097152)) = true from m1]
    refine ⟨rfl, fin_turnedK rfl ?_⟩
    conv => whnf
    exact ⟨by unfold mayE; rw [e], rfl⟩
  refine ac_pure (btw_n G p2 1 1048576) rfl ?_
  rintro v h' ⟨rfl, rfl⟩
  refine ⟨rfl, rfl, ?_⟩
  conv => whnf
  refine ways (fun m2 => ?_) (fun m2 => ?_) <;> conv => whnf
  · skip
    have e : mayB p0 p1 p2 p3 p4 p5 = true := by unfold mayB; rw [show (!(btw p0 (-2097152) 2097152)) = false from m0]; rw [show (!(btw p1 1 2097152)) = false from m1]; rw [show (!(btw p2 1 1048576)) = true from m2]
    refine ⟨rfl, fin_turnedK rfl ?_⟩
    conv => whnf
    exact ⟨by unfold mayE; rw [e], rfl⟩
  refine ac_pure (btw_n G p3 1 1024) rfl ?_
  rintro v h' ⟨rfl, rfl⟩
  refine ⟨rfl, rfl, ?_⟩
  conv => whnf
  refine ways (fun m3 => ?_) (fun m3 => ?_) <;> conv => whnf
  · skip
    have e : mayB p0 p1 p2 p3 p4 p5 = true := by unfold mayB; rw [show (!(btw p0 (-2097152) 2097152)) = false from m0]; rw [show (!(btw p1 1 2097152)) = false from m1]; rw [show (!(btw p2 1 1048576)) = false from m2]; rw [show (!(btw p3 1 1024)) = true from m3]
    refine ⟨rfl, fin_turnedK rfl ?_⟩
    conv => whnf
    exact ⟨by unfold mayE; rw [e], rfl⟩
  refine ac_pure (btw_n G p4 (-2097152) 2097152) rfl ?_
  rintro v h' ⟨rfl, rfl⟩
  refine ⟨rfl, rfl, ?_⟩
  conv => whnf
  refine ways (fun m4 => ?_) (fun m4 => ?_) <;> conv => whnf
  · skip
    have e : mayB p0 p1 p2 p3 p4 p5 = true := by unfold mayB; rw [show (!(btw p0 (-2097152) 2097152)) = false from m0]; rw [show (!(btw p1 1 2097152)) = false from m1]; rw [show (!(btw p2 1 1048576)) = false from m2]; rw [show (!(btw p3 1 1024)) = false from m3]; rw [show (!(btw p4 (-2097152) 2097152)) = true from m4]
    refine ⟨rfl, fin_turnedK rfl ?_⟩
    conv => whnf
    exact ⟨by unfold mayE; rw [e], rfl⟩
  refine ac_pure (btw_n G p5 0 13194139533312) rfl ?_
  rintro v h' ⟨rfl, rfl⟩
  refine ⟨rfl, rfl, ?_⟩
  conv => whnf
  refine ways (fun m5 => ?_) (fun m5 => ?_) <;> conv => whnf
  · skip
    have e : mayB p0 p1 p2 p3 p4 p5 = true := by unfold mayB; rw [show (!(btw p0 (-2097152) 2097152)) = false from m0]; rw [show (!(btw p1 1 2097152)) = false from m1]; rw [show (!(btw p2 1 1048576)) = false from m2]; rw [show (!(btw p3 1 1024)) = false from m3]; rw [show (!(btw p4 (-2097152) 2097152)) = false from m4]; rw [show (!(btw p5 0 13194139533312)) = true from m5]
    refine ⟨rfl, fin_turnedK rfl ?_⟩
    conv => whnf
    exact ⟨by unfold mayE; rw [e], rfl⟩
  have e : mayB p0 p1 p2 p3 p4 p5 = false := by unfold mayB; rw [show (!(btw p0 (-2097152) 2097152)) = false from m0]; rw [show (!(btw p1 1 2097152)) = false from m1]; rw [show (!(btw p2 1 1048576)) = false from m2]; rw [show (!(btw p3 1 1024)) = false from m3]; rw [show (!(btw p4 (-2097152) 2097152)) = false from m4]; rw [show (!(btw p5 0 13194139533312)) = false from m5]
  refine ways (fun n1 => ?_) (fun n1 => ?_) <;> conv => whnf
  · skip
    refine ⟨rfl, fin_turnedK rfl ?_⟩
    conv => whnf
    exact ⟨by unfold mayE; rw [e]; rw [show (p5 == 0) = true from n1], rfl⟩
  refine ways (fun n2 => ?_) (fun n2 => ?_) <;> conv => whnf
  · skip
    refine ⟨rfl, fin_turnedK rfl ?_⟩
    conv => whnf
    exact ⟨by unfold mayE; rw [e]; rw [show (p5 == 0) = false from n1]; rw [show decide (wrapS .i64 (p4 * p4) > p5) = true from n2], rfl⟩
  refine ⟨rfl, fin_turnedK rfl ?_⟩
  conv => whnf
  exact ⟨by unfold mayE; rw [e]; rw [show (p5 == 0) = false from n1]; rw [show decide (wrapS .i64 (p4 * p4) > p5) = false from n2], rfl⟩
theorem square_n (G) {a : Nat} (ha : a < MW) : AC Tryd.prog G 106 [wv a] [] (fun v h => v = wv (mulN a a) ∧ h = []) := by
  refine ac_of_body tabOk has106 ?_
  unfold BodyOk
  conv => whnf
  refine ac_pure (Mul_n G ha ha) rfl ?_
  rintro v h' ⟨rfl, rfl⟩
  refine ⟨rfl, rfl, ?_⟩
  conv => whnf
  refine ⟨rfl, fin_turnedK rfl ?_⟩
  conv => whnf
  exact ⟨rfl, rfl⟩
def prodN (l : List Int) : Nat := l.foldl (fun p x => mulN p (ofN x)) 1
def in64 (x : Int) : Prop := -9223372036854775808 ≤ x ∧ x < 9223372036854775808
theorem Prod_r (G) (c0 : Array Value) (t0 : TypeId) (off cap : Nat) {x0 x1 x2 x3 x4 : Int} (hw : WinI c0 off [x0, x1, x2, x3, x4]) (b0 : in64 x0) (b1 : in64 x1) (b2 : in64 x2) (b3 : in64 x3) (b4 : in64 x4) : AC Tryd.prog G 107 [slc 0 off 5 cap] [.pending c0 t0] (fun v h => v = wv (prodN [x0, x1, x2, x3, x4]) ∧ h = [.pending c0 t0]) := by
  refine ac_of_body tabOk has107 ?_
  unfold BodyOk
  conv => whnf
  refine ac_pure (Of_n G (i := 1) (by omega) (by omega)) rfl ?_
  rintro v h' ⟨rfl, rfl⟩
  refine ⟨rfl, rfl, ?_⟩
  conv => whnf
  refine aw_rounds tabOk 6 ?_
  conv => whnf
  refine ad_hole [13] [.pending c0 t0, .cells _ 115, .deferred none] tabOk (by kernel_rfl) [(0, false), (1, false), (2, false), (3, false), (4, false), (5, false), (6, false), (7, false), (8, false), (9, false), (10, false)] (by kernel_rfl) ⟨.inl rfl, .inl rfl, .inr rfl, trivial⟩ ?_
  conv => whnf
  refine nthK_of (l := c0.toList) (hw.at (k := 0) rfl) ?_
  conv => whnf
  refine quiet_of (Of_n G (i := x0) b0.1 b0.2) rfl ?_
  rintro v h' ⟨rfl, rfl⟩
  refine ⟨rfl, rfl, ?_⟩
  conv => whnf
  refine quiet_of (Mul_n G (a := 1) (b := ofN x0) (show (1 : Nat) < MW by decide) (ofN_lt b0.2)) rfl ?_
  rintro v h' ⟨rfl, rfl⟩
  refine ⟨rfl, rfl, ?_⟩
  conv => whnf
  refine ⟨⟨.inl rfl, .inl rfl, .inr rfl, trivial⟩, ?_⟩
  conv => whnf
  refine ad_hole [13] [.pending c0 t0, .cells _ 115, .deferred none] tabOk (by kernel_rfl) [(0, false), (1, false), (2, false), (3, false), (4, false), (5, false), (6, false), (7, false), (8, false), (9, false), (10, false)] (by kernel_rfl) ⟨.inl rfl, .inl rfl, .inr rfl, trivial⟩ ?_
  conv => whnf
  refine nthK_of (l := c0.toList) (hw.at (k := 1) rfl) ?_
  conv => whnf
  refine quiet_of (Of_n G (i := x1) b1.1 b1.2) rfl ?_
  rintro v h' ⟨rfl, rfl⟩
  refine ⟨rfl, rfl, ?_⟩
  conv => whnf
  refine quiet_of (Mul_n G (a := (mulN 1 (ofN x0))) (b := ofN x1) (mulN_lt _ _) (ofN_lt b1.2)) rfl ?_
  rintro v h' ⟨rfl, rfl⟩
  refine ⟨rfl, rfl, ?_⟩
  conv => whnf
  refine ⟨⟨.inl rfl, .inl rfl, .inr rfl, trivial⟩, ?_⟩
  conv => whnf
  refine ad_hole [13] [.pending c0 t0, .cells _ 115, .deferred none] tabOk (by kernel_rfl) [(0, false), (1, false), (2, false), (3, false), (4, false), (5, false), (6, false), (7, false), (8, false), (9, false), (10, false)] (by kernel_rfl) ⟨.inl rfl, .inl rfl, .inr rfl, trivial⟩ ?_
  conv => whnf
  refine nthK_of (l := c0.toList) (hw.at (k := 2) rfl) ?_
  conv => whnf
  refine quiet_of (Of_n G (i := x2) b2.1 b2.2) rfl ?_
  rintro v h' ⟨rfl, rfl⟩
  refine ⟨rfl, rfl, ?_⟩
  conv => whnf
  refine quiet_of (Mul_n G (a := (mulN (mulN 1 (ofN x0)) (ofN x1))) (b := ofN x2) (mulN_lt _ _) (ofN_lt b2.2)) rfl ?_
  rintro v h' ⟨rfl, rfl⟩
  refine ⟨rfl, rfl, ?_⟩
  conv => whnf
  refine ⟨⟨.inl rfl, .inl rfl, .inr rfl, trivial⟩, ?_⟩
  conv => whnf
  refine ad_hole [13] [.pending c0 t0, .cells _ 115, .deferred none] tabOk (by kernel_rfl) [(0, false), (1, false), (2, false), (3, false), (4, false), (5, false), (6, false), (7, false), (8, false), (9, false), (10, false)] (by kernel_rfl) ⟨.inl rfl, .inl rfl, .inr rfl, trivial⟩ ?_
  conv => whnf
  refine nthK_of (l := c0.toList) (hw.at (k := 3) rfl) ?_
  conv => whnf
  refine quiet_of (Of_n G (i := x3) b3.1 b3.2) rfl ?_
  rintro v h' ⟨rfl, rfl⟩
  refine ⟨rfl, rfl, ?_⟩
  conv => whnf
  refine quiet_of (Mul_n G (a := (mulN (mulN (mulN 1 (ofN x0)) (ofN x1)) (ofN x2))) (b := ofN x3) (mulN_lt _ _) (ofN_lt b3.2)) rfl ?_
  rintro v h' ⟨rfl, rfl⟩
  refine ⟨rfl, rfl, ?_⟩
  conv => whnf
  refine ⟨⟨.inl rfl, .inl rfl, .inr rfl, trivial⟩, ?_⟩
  conv => whnf
  refine ad_hole [13] [.pending c0 t0, .cells _ 115, .deferred none] tabOk (by kernel_rfl) [(0, false), (1, false), (2, false), (3, false), (4, false), (5, false), (6, false), (7, false), (8, false), (9, false), (10, false)] (by kernel_rfl) ⟨.inl rfl, .inl rfl, .inr rfl, trivial⟩ ?_
  conv => whnf
  refine nthK_of (l := c0.toList) (hw.at (k := 4) rfl) ?_
  conv => whnf
  refine quiet_of (Of_n G (i := x4) b4.1 b4.2) rfl ?_
  rintro v h' ⟨rfl, rfl⟩
  refine ⟨rfl, rfl, ?_⟩
  conv => whnf
  refine quiet_of (Mul_n G (a := (mulN (mulN (mulN (mulN 1 (ofN x0)) (ofN x1)) (ofN x2)) (ofN x3))) (b := ofN x4) (mulN_lt _ _) (ofN_lt b4.2)) rfl ?_
  rintro v h' ⟨rfl, rfl⟩
  refine ⟨rfl, rfl, ?_⟩
  conv => whnf
  refine ⟨⟨.inl rfl, .inl rfl, .inr rfl, trivial⟩, ?_⟩
  conv => whnf
  refine ⟨rfl, fin_turnedK rfl ?_⟩
  conv => whnf
  exact ⟨rfl, rfl⟩
theorem Prod_s (G) {h : List Obj} {v : Value} {x0 x1 x2 x3 x4 : Int} (hs : SlI h v [x0, x1, x2, x3, x4]) (b0 : in64 x0) (b1 : in64 x1) (b2 : in64 x2) (b3 : in64 x3) (b4 : in64 x4) : AC Tryd.prog G 107 [v] h (fun v h' => v = wv (prodN [x0, x1, x2, x3, x4]) ∧ h' = h) := by
  rcases hs with ⟨_, h0⟩ | ⟨m, off, cap, c, t, rfl, h2, h4, h5⟩
  · cases h0
  · refine ac_readF [m] (Prod_r G c t off cap h4 b0 b1 b2 b3 b4) (by simp [r3, r2, r1, r0, rA, nu]) rfl (cold_p h2) ?_
    rintro v h' ⟨rfl, rfl⟩
    exact ⟨rfl, rfl, rfl, rfl⟩
end Go.Proofs.YtjpjnjidchdlbaaDoor

/-
  The pull of one body on another (no condition).
-/
namespace Go.Proofs.YtjpjnjidchdlbaaDoor
set_option linter.unusedSimpArgs false
set_option linter.unusedVariables false
open Go
set_option maxRecDepth 100000
set_option maxHeartbeats 4000000
theorem has95 : Has Tryd.prog 95 Tryd.f95 := ⟨Tryd.func95, by kernel_rfl, by kernel_rfl⟩
theorem has94 : Has Tryd.prog 94 Tryd.f94 := ⟨Tryd.func94, by kernel_rfl, by kernel_rfl⟩
theorem has83 : Has Tryd.prog 83 Tryd.f83 := ⟨Tryd.func83, by kernel_rfl, by kernel_rfl⟩

def sgnB (p0 p4 : Int) : Bool := match (match decide (p0 < 0) with | true => decide (p4 > 0) | false => false) with
  | true => true
  | false => match decide (p0 > 0) with
    | true => decide (p4 < 0)
    | false => false
/-- what the two products tell, rounded -/
def halfI (p0 p1 p2 p3 p4 p5 : Int) : Int := (intR (halfW (mulN (prodN [2, p0, p2, p3, p4]) (prodN [2, p0, p2, p3, p4])) (prodN [p1, p1, p5, p5, p5])).1).1
def oneN (p0 p1 p2 p3 p4 p5 : Int) : Int × Int := match !((mayE p0 p1 p2 p3 p4 p5) == 0) with
  | true => (0, mayE p0 p1 p2 p3 p4 p5)
  | false => match sgnB p0 p4 with
    | true => (wrapS .i64 (0 - (halfI p0 p1 p2 p3 p4 p5)), 0)
    | false => (halfI p0 p1 p2 p3 p4 p5, 0)
theorem prodN_lt (a b c d e : Int) : prodN [a, b, c, d, e] < MW := mulN_lt _ _
theorem win5 {a b c d e : Int} : WinI #[I64 a, I64 b, I64 c, I64 d, I64 e] 0 [a, b, c, d, e] := by
  intro j x hj
  match j, hj with
  | 0, hj => cases hj; rfl
  | 1, hj => cases hj; rfl
  | 2, hj => cases hj; rfl
  | 3, hj => cases hj; rfl
  | 4, hj => cases hj; rfl
  | j + 5, hj => simp at hj
theorem in2 : in64 2 := ⟨by omega, by omega⟩
theorem One_n (G) {p0 p1 p2 p3 p4 p5 : Int} (b0 : in64 p0) (b1 : in64 p1) (b2 : in64 p2) (b3 : in64 p3) (b4 : in64 p4) (b5 : in64 p5) : AC Tryd.prog G 95 [I64 p0, I64 p1, I64 p2, I64 p3, I64 p4, I64 p5] [] (fun v h => v = .tuple #[I64 (oneN p0 p1 p2 p3 p4 p5).1, I64 (oneN p0 p1 p2 p3 p4 p5).2] ∧ h = []) := by
  refine ac_of_body tabOk has95 ?_
  unfold BodyOk
  conv => whnf
  refine ac_pure (may_n G p0 p1 p2 p3 p4 p5) rfl ?_
  rintro v h' ⟨rfl, rfl⟩
  refine ⟨rfl, rfl, ?_⟩
  conv => whnf
  refine ways (fun m1 => ?_) (fun m1 => ?_) <;> conv => whnf
  · skip
    refine ⟨rfl, fin_turnedK rfl ?_⟩
    conv => whnf
    have e : oneN p0 p1 p2 p3 p4 p5 = (0, mayE p0 p1 p2 p3 p4 p5) := by unfold oneN; rw [show (!((mayE p0 p1 p2 p3 p4 p5) == 0)) = true from m1]
    exact ⟨by rw [e] <;> rfl, rfl⟩
  refine ac_mono (Prod_s G (.inr ⟨0, 0, 5, _, 3, rfl, .inr ⟨by simp [cleanV], _, rfl⟩, win5, Nat.le_refl 5⟩) in2 b0 b2 b3 b4) ?_
  rintro v h' ⟨rfl, rfl⟩
  conv => whnf
  refine ac_pure (square_n G (prodN_lt 2 p0 p2 p3 p4)) rfl ?_
  rintro v h' ⟨rfl, rfl⟩
  refine ⟨rfl, rfl, ?_⟩
  conv => whnf
  refine ac_mono (Prod_s G (.inr ⟨2, 0, 5, _, 3, rfl, .inr ⟨by simp [cleanV], _, rfl⟩, win5, Nat.le_refl 5⟩) b1 b1 b5 b5 b5) ?_
  rintro v h' ⟨rfl, rfl⟩
  conv => whnf
  refine ac_pure (Half_n G (a := (mulN (prodN [2, p0, p2, p3, p4]) (prodN [2, p0, p2, p3, p4]))) (b := (prodN [p1, p1, p5, p5, p5])) (mulN_lt _ _) (prodN_lt _ _ _ _ _)) rfl ?_
  rintro v h' ⟨rfl, rfl⟩
  refine ⟨rfl, rfl, ?_⟩
  conv => whnf
  refine ac_pure (Int_n G (halfW (mulN (prodN [2, p0, p2, p3, p4]) (prodN [2, p0, p2, p3, p4])) (prodN [p1, p1, p5, p5, p5])).1) rfl ?_
  rintro v h' ⟨rfl, rfl⟩
  refine ⟨rfl, rfl, ?_⟩
  conv => whnf
  refine ways (fun s1 => ?_) (fun s1 => ?_) <;> conv => whnf
  · skip
    refine ways (fun s2 => ?_) (fun s2 => ?_) <;> conv => whnf
    · skip
      refine ⟨rfl, fin_turnedK rfl ?_⟩
      conv => whnf
      have e : oneN p0 p1 p2 p3 p4 p5 = (wrapS .i64 (0 - (halfI p0 p1 p2 p3 p4 p5)), 0) := by unfold oneN; rw [show (!((mayE p0 p1 p2 p3 p4 p5) == 0)) = false from m1]; rw [show sgnB p0 p4 = true from by unfold sgnB; rw [show decide (p0 < 0) = true from s1]; rw [show decide (p4 > 0) = true from s2]]
      exact ⟨by rw [e] <;> rfl, rfl⟩
    · skip
      refine ways (fun s3 => ?_) (fun s3 => ?_) <;> conv => whnf
      · skip
        refine ways (fun s4 => ?_) (fun s4 => ?_) <;> conv => whnf
        · skip
          refine ⟨rfl, fin_turnedK rfl ?_⟩
          conv => whnf
          have e : oneN p0 p1 p2 p3 p4 p5 = (wrapS .i64 (0 - (halfI p0 p1 p2 p3 p4 p5)), 0) := by unfold oneN; rw [show (!((mayE p0 p1 p2 p3 p4 p5) == 0)) = false from m1]; rw [show sgnB p0 p4 = true from by unfold sgnB; rw [show decide (p0 < 0) = true from s1]; rw [show decide (p4 > 0) = false from s2]; rw [show decide (p0 > 0) = true from s3]; rw [show decide (p4 < 0) = true from s4]]
          exact ⟨by rw [e] <;> rfl, rfl⟩
        · skip
          refine ⟨rfl, fin_turnedK rfl ?_⟩
          conv => whnf
          have e : oneN p0 p1 p2 p3 p4 p5 = (halfI p0 p1 p2 p3 p4 p5, 0) := by unfold oneN; rw [show (!((mayE p0 p1 p2 p3 p4 p5) == 0)) = false from m1]; rw [show sgnB p0 p4 = false from by unfold sgnB; rw [show decide (p0 < 0) = true from s1]; rw [show decide (p4 > 0) = false from s2]; rw [show decide (p0 > 0) = true from s3]; rw [show decide (p4 < 0) = false from s4]]
          exact ⟨by rw [e] <;> rfl, rfl⟩
      · skip
        refine ⟨rfl, fin_turnedK rfl ?_⟩
        conv => whnf
        have e : oneN p0 p1 p2 p3 p4 p5 = (halfI p0 p1 p2 p3 p4 p5, 0) := by unfold oneN; rw [show (!((mayE p0 p1 p2 p3 p4 p5) == 0)) = false from m1]; rw [show sgnB p0 p4 = false from by unfold sgnB; rw [show decide (p0 < 0) = true from s1]; rw [show decide (p4 > 0) = false from s2]; rw [show decide (p0 > 0) = false from s3]]
        exact ⟨by rw [e] <;> rfl, rfl⟩
  · skip
    refine ways (fun s3 => ?_) (fun s3 => ?_) <;> conv => whnf
    · skip
      refine ways (fun s4 => ?_) (fun s4 => ?_) <;> conv => whnf
      · skip
        refine ⟨rfl, fin_turnedK rfl ?_⟩
        conv => whnf
        have e : oneN p0 p1 p2 p3 p4 p5 = (wrapS .i64 (0 - (halfI p0 p1 p2 p3 p4 p5)), 0) := by unfold oneN; rw [show (!((mayE p0 p1 p2 p3 p4 p5) == 0)) = false from m1]; rw [show sgnB p0 p4 = true from by unfold sgnB; rw [show decide (p0 < 0) = false from s1]; rw [show decide (p0 > 0) = true from s3]; rw [show decide (p4 < 0) = true from s4]]
        exact ⟨by rw [e] <;> rfl, rfl⟩
      · skip
        refine ⟨rfl, fin_turnedK rfl ?_⟩
        conv => whnf
        have e : oneN p0 p1 p2 p3 p4 p5 = (halfI p0 p1 p2 p3 p4 p5, 0) := by unfold oneN; rw [show (!((mayE p0 p1 p2 p3 p4 p5) == 0)) = false from m1]; rw [show sgnB p0 p4 = false from by unfold sgnB; rw [show decide (p0 < 0) = false from s1]; rw [show decide (p0 > 0) = true from s3]; rw [show decide (p4 < 0) = false from s4]]
        exact ⟨by rw [e] <;> rfl, rfl⟩
    · skip
      refine ⟨rfl, fin_turnedK rfl ?_⟩
      conv => whnf
      have e : oneN p0 p1 p2 p3 p4 p5 = (halfI p0 p1 p2 p3 p4 p5, 0) := by unfold oneN; rw [show (!((mayE p0 p1 p2 p3 p4 p5) == 0)) = false from m1]; rw [show sgnB p0 p4 = false from by unfold sgnB; rw [show decide (p0 < 0) = false from s1]; rw [show decide (p0 > 0) = false from s3]]
      exact ⟨by rw [e] <;> rfl, rfl⟩
def sqE (x y z : Int) : Bool := match (!(btw x (-2097152) 2097152)) with
  | true => true
  | false => match (!(btw y (-2097152) 2097152)) with
    | true => true
    | false => (!(btw z (-2097152) 2097152))
def sqV (x y z : Int) : Int × Int := match sqE x y z with
  | true => (0, 2)
  | false => (wrapS .i64 (wrapS .i64 (wrapS .i64 (0 + wrapS .i64 (x * x)) + wrapS .i64 (y * y)) + wrapS .i64 (z * z)), 0)
theorem Square_n (G) (x y z : Int) : AC Tryd.prog G 94 [V3 x y z] [] (fun v h => v = .tuple #[I64 (sqV x y z).1, I64 (sqV x y z).2] ∧ h = []) := by
  refine ac_of_body tabOk has94 ?_
  unfold BodyOk
  conv => whnf
  refine aw_rounds tabOk 4 ?_
  conv => whnf
  refine ac_pure (btw_n G x (-2097152) 2097152) rfl ?_
  rintro v h' ⟨rfl, rfl⟩
  refine ⟨rfl, rfl, ?_⟩
  conv => whnf
  refine ways (fun q0 => ?_) (fun q0 => ?_) <;> conv => whnf
  · skip
    refine ⟨rfl, fin_turnedK rfl ?_⟩
    conv => whnf
    have e : sqV x y z = (0, 2) := by unfold sqV; rw [show sqE x y z = true from by unfold sqE; rw [show (!(btw x (-2097152) 2097152)) = true from q0]]
    exact ⟨by rw [e] <;> rfl, rfl⟩
  refine ad_of tabOk (by kernel_rfl) [(0, false), (1, false), (2, false), (3, false), (4, false), (5, false), (6, false), (7, false), (8, false), (9, false)] (by kernel_rfl) ?_
  conv => whnf
  refine ac_pure (btw_n G y (-2097152) 2097152) rfl ?_
  rintro v h' ⟨rfl, rfl⟩
  refine ⟨rfl, rfl, ?_⟩
  conv => whnf
  refine ways (fun q1 => ?_) (fun q1 => ?_) <;> conv => whnf
  · skip
    refine ⟨rfl, fin_turnedK rfl ?_⟩
    conv => whnf
    have e : sqV x y z = (0, 2) := by unfold sqV; rw [show sqE x y z = true from by unfold sqE; rw [show (!(btw x (-2097152) 2097152)) = false from q0]; rw [show (!(btw y (-2097152) 2097152)) = true from q1]]
    exact ⟨by rw [e] <;> rfl, rfl⟩
  refine ad_of tabOk (by kernel_rfl) [(0, false), (1, false), (2, false), (3, false), (4, false), (5, false), (6, false), (7, false), (8, false), (9, false)] (by kernel_rfl) ?_
  conv => whnf
  refine ac_pure (btw_n G z (-2097152) 2097152) rfl ?_
  rintro v h' ⟨rfl, rfl⟩
  refine ⟨rfl, rfl, ?_⟩
  conv => whnf
  refine ways (fun q2 => ?_) (fun q2 => ?_) <;> conv => whnf
  · skip
    refine ⟨rfl, fin_turnedK rfl ?_⟩
    conv => whnf
    have e : sqV x y z = (0, 2) := by unfold sqV; rw [show sqE x y z = true from by unfold sqE; rw [show (!(btw x (-2097152) 2097152)) = false from q0]; rw [show (!(btw y (-2097152) 2097152)) = false from q1]; rw [show (!(btw z (-2097152) 2097152)) = true from q2]]
    exact ⟨by rw [e] <;> rfl, rfl⟩
  refine ad_of tabOk (by kernel_rfl) [(0, false), (1, false), (2, false), (3, false), (4, false), (5, false), (6, false), (7, false), (8, false), (9, false)] (by kernel_rfl) ?_
  conv => whnf
  refine ⟨rfl, fin_turnedK rfl ?_⟩
  conv => whnf
  have e : sqV x y z = (wrapS .i64 (wrapS .i64 (wrapS .i64 (0 + wrapS .i64 (x * x)) + wrapS .i64 (y * y)) + wrapS .i64 (z * z)), 0) := by unfold sqV; rw [show sqE x y z = false from by unfold sqE; rw [show (!(btw x (-2097152) 2097152)) = false from q0]; rw [show (!(btw y (-2097152) 2097152)) = false from q1]; rw [show (!(btw z (-2097152) 2097152)) = false from q2]]
  exact ⟨by rw [e] <;> rfl, rfl⟩
theorem sqV_in (x y z : Int) : in64 (sqV x y z).1 := by
  unfold sqV
  split
  · exact ⟨by omega, by omega⟩
  · exact ⟨wrap_lo _, wrap_hi _⟩
/-- the pull, by its numbers -/
def pullN (p0 p1 p2 p3 x y z : Int) : (Int × Int × Int) × Int := match !((sqV x y z).2 == 0) with
  | true => ((0, 0, 0), (sqV x y z).2)
  | false => match !((oneN p0 p1 p2 p3 x (sqV x y z).1).2 == 0) with
    | true => ((0, 0, 0), (oneN p0 p1 p2 p3 x (sqV x y z).1).2)
    | false => match !((oneN p0 p1 p2 p3 y (sqV x y z).1).2 == 0) with
      | true => ((0, 0, 0), (oneN p0 p1 p2 p3 y (sqV x y z).1).2)
      | false => match !((oneN p0 p1 p2 p3 z (sqV x y z).1).2 == 0) with
        | true => ((0, 0, 0), (oneN p0 p1 p2 p3 z (sqV x y z).1).2)
        | false => (((oneN p0 p1 p2 p3 x (sqV x y z).1).1, (oneN p0 p1 p2 p3 y (sqV x y z).1).1, (oneN p0 p1 p2 p3 z (sqV x y z).1).1), 0)
theorem Pull_n (G) {p0 p1 p2 p3 x y z : Int} (b0 : in64 p0) (b1 : in64 p1) (b2 : in64 p2) (b3 : in64 p3) (bx : in64 x) (by' : in64 y) (bz : in64 z) :
    AC Tryd.prog G 83 [I64 p0, I64 p1, I64 p2, I64 p3, V3 x y z] [] (fun v h => v = .tuple #[V3 (pullN p0 p1 p2 p3 x y z).1.1 (pullN p0 p1 p2 p3 x y z).1.2.1 (pullN p0 p1 p2 p3 x y z).1.2.2, I64 (pullN p0 p1 p2 p3 x y z).2] ∧ h = []) := by
  refine ac_of_body tabOk has83 ?_
  unfold BodyOk
  conv => whnf
  refine ac_pure (Square_n G x y z) rfl ?_
  rintro v h' ⟨rfl, rfl⟩
  refine ⟨rfl, rfl, ?_⟩
  conv => whnf
  refine ways (fun q => ?_) (fun q => ?_) <;> conv => whnf
  · skip
    refine ⟨rfl, fin_turnedK rfl ?_⟩
    conv => whnf
    have e : pullN p0 p1 p2 p3 x y z = ((0, 0, 0), (sqV x y z).2) := by unfold pullN; rw [show (!((sqV x y z).2 == 0)) = true from q]
    exact ⟨by rw [e] <;> rfl, rfl⟩
  refine aw_rounds tabOk 4 ?_
  conv => whnf
  refine ac_pure (One_n G b0 b1 b2 b3 bx (sqV_in x y z)) rfl ?_
  rintro v h' ⟨rfl, rfl⟩
  refine ⟨rfl, rfl, ?_⟩
  conv => whnf
  refine ways (fun qx => ?_) (fun qx => ?_) <;> conv => whnf
  · skip
    refine ⟨rfl, fin_turnedK rfl ?_⟩
    conv => whnf
    have e : pullN p0 p1 p2 p3 x y z = ((0, 0, 0), (oneN p0 p1 p2 p3 x (sqV x y z).1).2) := by unfold pullN; rw [show (!((sqV x y z).2 == 0)) = false from q]; rw [show (!((oneN p0 p1 p2 p3 x (sqV x y z).1).2 == 0)) = true from qx]
    exact ⟨by rw [e] <;> rfl, rfl⟩
  refine ac_pure (One_n G b0 b1 b2 b3 by' (sqV_in x y z)) rfl ?_
  rintro v h' ⟨rfl, rfl⟩
  refine ⟨rfl, rfl, ?_⟩
  conv => whnf
  refine ways (fun qy => ?_) (fun qy => ?_) <;> conv => whnf
  · skip
    refine ⟨rfl, fin_turnedK rfl ?_⟩
    conv => whnf
    have e : pullN p0 p1 p2 p3 x y z = ((0, 0, 0), (oneN p0 p1 p2 p3 y (sqV x y z).1).2) := by unfold pullN; rw [show (!((sqV x y z).2 == 0)) = false from q]; rw [show (!((oneN p0 p1 p2 p3 x (sqV x y z).1).2 == 0)) = false from qx]; rw [show (!((oneN p0 p1 p2 p3 y (sqV x y z).1).2 == 0)) = true from qy]
    exact ⟨by rw [e] <;> rfl, rfl⟩
  refine ac_pure (One_n G b0 b1 b2 b3 bz (sqV_in x y z)) rfl ?_
  rintro v h' ⟨rfl, rfl⟩
  refine ⟨rfl, rfl, ?_⟩
  conv => whnf
  refine ways (fun qz => ?_) (fun qz => ?_) <;> conv => whnf
  · skip
    refine ⟨rfl, fin_turnedK rfl ?_⟩
    conv => whnf
    have e : pullN p0 p1 p2 p3 x y z = ((0, 0, 0), (oneN p0 p1 p2 p3 z (sqV x y z).1).2) := by unfold pullN; rw [show (!((sqV x y z).2 == 0)) = false from q]; rw [show (!((oneN p0 p1 p2 p3 x (sqV x y z).1).2 == 0)) = false from qx]; rw [show (!((oneN p0 p1 p2 p3 y (sqV x y z).1).2 == 0)) = false from qy]; rw [show (!((oneN p0 p1 p2 p3 z (sqV x y z).1).2 == 0)) = true from qz]
    exact ⟨by rw [e] <;> rfl, rfl⟩
  refine ⟨rfl, fin_turnedK rfl ?_⟩
  conv => whnf
  have e : pullN p0 p1 p2 p3 x y z = (((oneN p0 p1 p2 p3 x (sqV x y z).1).1, (oneN p0 p1 p2 p3 y (sqV x y z).1).1, (oneN p0 p1 p2 p3 z (sqV x y z).1).1), 0) := by unfold pullN; rw [show (!((sqV x y z).2 == 0)) = false from q]; rw [show (!((oneN p0 p1 p2 p3 x (sqV x y z).1).2 == 0)) = false from qx]; rw [show (!((oneN p0 p1 p2 p3 y (sqV x y z).1).2 == 0)) = false from qy]; rw [show (!((oneN p0 p1 p2 p3 z (sqV x y z).1).2 == 0)) = false from qz]
  exact ⟨by rw [e] <;> rfl, rfl⟩
end Go.Proofs.YtjpjnjidchdlbaaDoor

/-
  The pull of one body on another: turned about, it is as great (no condition).
-/
namespace Go.Proofs.YtjpjnjidchdlbaaDoor
set_option linter.unusedSimpArgs false
set_option linter.unusedVariables false
open Go
set_option maxRecDepth 100000
set_option maxHeartbeats 4000000

theorem neg_cases {m : Nat} (h : m < MW) : negN m = (if m = 0 then 0 else MW - m) := by
  unfold negN
  split
  · rename_i h0; subst h0; rw [Nat.sub_zero, Nat.mod_self]
  · exact Nat.mod_eq_of_lt (by omega)
theorem abs_cases {m : Nat} (h : m < MW) : absN m = (if 57896044618658097711785492504343953926634992332820282019728792003956564819968 ≤ m then negN m else m) := by
  unfold absN
  rw [lowN_eq h]
  by_cases h1 : 57896044618658097711785492504343953926634992332820282019728792003956564819968 ≤ m
  · rw [decide_eq_true h1, if_pos h1]
  · rw [decide_eq_false h1, if_neg h1]
theorem abs_neg {m : Nat} (h : m < MW) : absN (negN m) = absN m := by
  have h2 := negN_lt m
  rw [abs_cases h2, abs_cases h]
  have e := neg_cases h
  have e2 := neg_cases h2
  unfold MW at *
  by_cases h0 : m = 0
  · subst h0
    rw [if_pos rfl] at e
    rw [e]
    rfl
  · rw [if_neg h0] at e
    rw [if_neg (by omega)] at e2
    rw [e2, e]
    split <;> split <;> omega
/-- q is m, or turned about -/
theorem mul_pm (P b : Nat) : mulN P b = magN P b ∨ mulN P b = negN (magN P b) := by
  unfold mulN
  split
  · exact .inl rfl
  · exact .inr rfl
theorem mag_abs {a b a' b' : Nat} (h1 : absN a = absN a') (h2 : absN b = absN b') : magN a b = magN a' b' := by
  unfold magN mag16
  rw [h1, h2]
theorem sq_mag (q : Nat) : mulN q q = magN q q := by
  unfold mulN
  rw [beq_self_eq_true]
theorem sq_abs {q q' : Nat} (h : absN q = absN q') : mulN q q = mulN q' q' := by
  rw [sq_mag, sq_mag, mag_abs h h]
theorem sq_pm {P b b' : Nat} (h : absN b = absN b') : mulN (mulN P b) (mulN P b) = mulN (mulN P b') (mulN P b') := by
  have e : magN P b' = magN P b := mag_abs rfl h.symm
  have hm := magN_lt P b
  apply sq_abs
  have h1 : absN (mulN P b) = absN (magN P b) := by
    rcases mul_pm P b with h | h <;> rw [h]
    exact abs_neg hm
  have h2 : absN (mulN P b') = absN (magN P b) := by
    rcases mul_pm P b' with h | h <;> rw [h, e]
    exact abs_neg hm
  rw [h1, h2]
theorem ofN_n {x : Int} (h : x < 0) : ofN x = MW - (-x).toNat := by unfold ofN; rw [decide_eq_true h]
theorem ofN_p {x : Int} (h : 0 ≤ x) : ofN x = x.toNat := by unfold ofN; rw [decide_eq_false (by omega)]
theorem of_neg {x : Int} (h1 : -9223372036854775808 < x) (h2 : x < 9223372036854775808) : ofN (-x) = negN (ofN x) := by
  have hl := ofN_lt h2
  rw [neg_cases hl]
  rcases Int.lt_trichotomy x 0 with h | h | h
  · rw [ofN_n h, ofN_p (x := -x) (by omega)]
    unfold MW
    rw [if_neg (by omega)]
    omega
  · subst h
    rfl
  · rw [ofN_n (x := -x) (by omega), ofN_p (x := x) (by omega), Int.neg_neg, if_neg (by omega)]
theorem tmR_zero (x : Int) : ∀ (k n : Nat), k < n → tmR x (List.replicate n 0) (List.replicate k 0) 0 = List.replicate n 0
  | 0, n + 1, _ => rfl
  | k + 1, n + 1, h => by
    show tmD 0 x 0 0 :: tmR x (List.replicate n 0) (List.replicate k 0) (tmC 0 x 0 0) = 0 :: List.replicate n 0
    have e : tmW 0 x 0 0 = 0 := by unfold tmW; rw [Int.mul_zero]; decide
    have e1 : tmD 0 x 0 0 = 0 := by unfold tmD; rw [e]; decide
    have e2 : tmC 0 x 0 0 = 0 := by unfold tmC; rw [e]; decide
    rw [e1, e2, tmR_zero x k n (by omega)]
theorem tmI_zl (ys : List Int) : ∀ i, tmI (List.replicate 8 0) ys i = List.replicate 16 0
  | 0 => rfl
  | i + 1 => by
    unfold tmI
    rw [tmI_zl ys i]
    have e : (List.replicate 8 (0 : Int)).getD i 0 = 0 := by
      rw [List.getD_eq_getElem?_getD]
      cases h : (List.replicate 8 (0 : Int))[i]? with
      | none => rfl
      | some a => exact List.eq_of_mem_replicate (List.mem_of_getElem? h)
    rw [e]
    rfl
theorem tmI_zr (xs : List Int) : ∀ i, i ≤ 8 → tmI xs (List.replicate 8 0) i = List.replicate 16 0
  | 0, _ => rfl
  | i + 1, hi => by
    unfold tmI
    rw [tmI_zr xs i (by omega)]
    unfold tmO
    split
    · rfl
    · rw [List.take_replicate, List.drop_replicate, tmR_zero _ 8 (16 - i) (by omega), List.replicate_append_replicate, show min i 16 + (16 - i) = 16 from by omega]
theorem abs_zero : absN 0 = 0 := by decide
theorem dgL_zero : dgL 0 = List.replicate 8 0 := by decide
theorem neg_zero : negN 0 = 0 := by decide
theorem mag_zl (b : Nat) : magN 0 b = 0 := by
  unfold magN mag16
  rw [abs_zero, dgL_zero, tmI_zl]
  decide
theorem mag_zr (a : Nat) : magN a 0 = 0 := by
  unfold magN mag16
  rw [abs_zero, dgL_zero, tmI_zr _ 8 (by omega)]
  decide
theorem mul_zl (b : Nat) : mulN 0 b = 0 := by
  rcases mul_pm 0 b with h | h <;> rw [h, mag_zl]
  exact neg_zero
theorem mul_zr (a : Nat) : mulN a 0 = 0 := by
  rcases mul_pm a 0 with h | h <;> rw [h, mag_zr]
  exact neg_zero
theorem of_zero : ofN 0 = 0 := by decide
theorem kOf_s (a b f j : Nat) : kOf a b (f + 1) j = (match stopW a b j with | true => j | false => kOf a b f (j + 1)) := rfl
/-- nothing divided -/
theorem plain_zero {b : Nat} (h0 : 0 < b) (h1 : b < 57896044618658097711785492504343953926634992332820282019728792003956564819968) : plainN 0 b = (0, 0) := by
  have hd : dblN b 0 = b := by unfold dblN; omega
  have hs : stopW 0 b 0 = true := by
    unfold stopW
    rw [hd]
    cases hf : addF b b with
    | true => rfl
    | false =>
      obtain ⟨e1, e2⟩ := dbl_ok h1 hf
      rw [e1]
      show decide (cmpW (2 * b) 0 > 0) = true
      rw [pos_to (by omega) e2]
      rfl
  have hk : kOf 0 b 300 0 = 0 := by
    rw [show (300 : Nat) = 299 + 1 from rfl, kOf_s, hs]
  unfold plainN
  rw [hk]
  show divS b 0 (0, 0) = (0, 0)
  unfold divS
  rw [hd]
  show (match decide (cmpW b 0 ≤ 0) with | true => _ | false => _) = _
  rw [pos_to h0 h1]
  rfl
theorem half_zero {b : Nat} (hb : b < MW) : (halfW 0 b).1 = 0 := by
  have key : sqrtN 0 b = (0, 0) ∨ ∃ w e, sqrtN 0 b = (w, e) ∧ (!(e == 0)) = true := by
    unfold sqrtN
    cases c1 : eqZ b with
    | true => exact .inr ⟨_, _, rfl, rfl⟩
    | false =>
      rw [show decide (cmpW 0 0 < 0) = false from by decide]
      cases c3 : decide (cmpW b 0 < 0) with
      | true => exact .inr ⟨_, _, rfl, rfl⟩
      | false =>
        obtain ⟨p0, p1⟩ := npos hb c1 c3
        have ef : floorN 0 b = (0, 0, 20) ∨ floorN 0 b = (0, 0, 0) := by
          unfold floorN
          cases floorE 0 b with
          | true => exact .inl rfl
          | false =>
            right
            have ea : aboveN 0 b = (0, 0) := by
              unfold aboveN
              rw [show decide (cmpW 0 0 ≥ 0) = true from by decide]
              exact plain_zero p0 p1
            rw [ea]
        rcases ef with ef | ef
        · rw [ef]; exact .inr ⟨_, _, rfl, rfl⟩
        · rw [ef]
          left
          show rootN 0 = (0, 0)
          decide
  unfold halfW
  rcases key with h | ⟨w, e, h, he⟩
  · rw [h]
    show (floorN (addN 0 1) 2).1 = 0
    decide
  · rw [h]
    show (match !(e == 0) with | true => ((0, e) : Nat × Int) | false => _).1 = 0
    rw [he]
theorem int_zero : (intR 0).1 = 0 := by decide
end Go.Proofs.YtjpjnjidchdlbaaDoor
