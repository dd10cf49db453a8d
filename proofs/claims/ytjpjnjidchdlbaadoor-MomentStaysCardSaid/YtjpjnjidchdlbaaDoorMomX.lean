/-
  The reference's Add of two points, told (no condition).
-/
import Derived.Test.YtjpjnjidchdlbaaDoorMomU
import Derived.Test.YtjpjnjidchdlbaaDoorMomBA
import Derived.Test.YtjpjnjidchdlbaaDoorMomS
namespace Go.Proofs.YtjpjnjidchdlbaaDoor
set_option linter.unusedSimpArgs false
set_option linter.unusedVariables false
open Go
set_option maxRecDepth 100000
set_option maxHeartbeats 4000000
theorem has63 : Has Tryd.prog 63 Tryd.f63 := ⟨Tryd.func63, by kernel_rfl, by kernel_rfl⟩
theorem has74 : Has Tryd.prog 74 Tryd.f74 := ⟨Tryd.func74, by kernel_rfl, by kernel_rfl⟩
theorem orN0 {b c : Bool} (hc : c = false) (h : (b || c) = false) : b = false := orN hc h
def okS (a b c : Int) : Bool := okc a && (okc b && okc c)
theorem RFine1 (G) (a b c : Int) : AC Tryd.prog G 69 [slc 0 0 1 1] [.cells #[I64 a, I64 b, I64 c] 59 (1, 0)] (fun v h => v = .bool (okS a b c) ∧ h = [.cells #[I64 a, I64 b, I64 c] 59 (1, 0)]) := by
  have h1 : ∀ a b c, (rwin 536870912 a && (rwin 536870912 b && rwin 536870912 c)) = okS a b c := fun a b c => by rw [rwin_okc, rwin_okc, rwin_okc]; rfl
  refine ac_of_body tabOk has69 ?_
  unfold BodyOk
  conv => whnf
  refine aw_rounds tabOk 2 ?_
  conv => whnf
  refine ac_pure (Within_c G a b c 536870912) rfl ?_
  rintro v h' ⟨rfl, rfl⟩
  refine ⟨rfl, rfl, ?_⟩
  conv => whnf
  rw [h1]
  refine ways (fun h => ?_) (fun h => ?_) <;> conv => whnf
  · refine ⟨rfl, fin_turnedK rfl ?_⟩
    conv => whnf
    exact ⟨by rw [notF h], rfl⟩
  refine ⟨rfl, fin_turnedK rfl ?_⟩
  conv => whnf
  exact ⟨by rw [notT h], rfl⟩
theorem Rtold_c (G) (a b c : Int) (k : Bool) : AC Tryd.prog G 74 [V3 a b c, .bool k] [] (fun v h => v = .tuple #[V3 (sel (k && okS a b c) a) (sel (k && okS a b c) b) (sel (k && okS a b c) c), I64 (err (k && okS a b c))] ∧ h = []) := by
  refine ac_of_body tabOk has74 ?_
  unfold BodyOk
  conv => whnf
  refine ways (fun h => ?_) (fun h => ?_) <;> conv => whnf
  · refine ⟨rfl, fin_turnedK rfl ?_⟩
    conv => whnf
    rw [notF h]
    exact ⟨rfl, rfl⟩
  rw [notT h]
  refine ac_read [2] (RFine1 G a b c) rfl rfl ⟨⟨by decide, rfl, _, rfl⟩, trivial⟩ ?_
  rintro v h' ⟨rfl, rfl⟩
  refine ⟨rfl, rfl, ?_⟩
  conv => whnf
  refine ways (fun h => ?_) (fun h => ?_) <;> conv => whnf
  · refine ⟨rfl, fin_turnedK rfl ?_⟩
    conv => whnf
    rw [notF h]
    exact ⟨rfl, rfl⟩
  rw [notT h]
  refine ⟨rfl, fin_turnedK rfl ?_⟩
  conv => whnf
  exact ⟨rfl, rfl⟩
inductive J63 (a b c x y z : Int) (S : Nat → Bool) : St → Prop where
  | mk (x6 x7 x8 x9 x10 x11 x12 x13 x14 x15 x16 x17 x18 x19 x20 x21 x22 x23 x24 x25 x26 x27 x28 x5 : Value) (y2 : Array Value) (q : Nat) (news : List Obj)
    (ff0 : S 0 = true → x6 = ptr 0 0)
    (ff1 : S 1 = true → x7 = I64 a)
    (ff2 : S 2 = true → x8 = ptr 1 0)
    (ff3 : S 3 = true → x9 = I64 x)
    (ff4 : S 4 = true → x10 = I64 (wrapS .i64 (a + x)))
    (ff5 : S 5 = true → x11 = ptr 0 1)
    (ff6 : S 6 = true → x12 = I64 b)
    (ff7 : S 7 = true → x13 = ptr 1 1)
    (ff8 : S 8 = true → x14 = I64 y)
    (ff9 : S 9 = true → x15 = I64 (wrapS .i64 (b + y)))
    (ff10 : S 10 = true → x16 = ptr 0 2)
    (ff11 : S 11 = true → x17 = I64 c)
    (ff12 : S 12 = true → x18 = ptr 1 2)
    (ff13 : S 13 = true → x19 = I64 z)
    (ff14 : S 14 = true → x20 = I64 (wrapS .i64 (c + z)))
    (ff15 : S 15 = true → x21 = V3 (wrapS .i64 (a + x)) (wrapS .i64 (b + y)) (wrapS .i64 (c + z)))
    (ff16 : S 16 = true → x22 = V3 a b c)
    (ff17 : S 17 = true → x23 = V3 x y z)
    (ff18 : S 18 = true → x24 = slc (q + 3) 0 2 2 ∧ news[q]? = some (.cells #[I64 a, I64 b, I64 c, I64 x, I64 y, I64 z] 59))
    (ff19 : S 19 = true → x25 = .bool (ok6 a b c x y z))
    (ff20 : S 20 = true → x26 = .tuple #[V3 (sel (ok6 a b c x y z && okS (wrapS .i64 (a + x)) (wrapS .i64 (b + y)) (wrapS .i64 (c + z))) (wrapS .i64 (a + x))) (sel (ok6 a b c x y z && okS (wrapS .i64 (a + x)) (wrapS .i64 (b + y)) (wrapS .i64 (c + z))) (wrapS .i64 (b + y))) (sel (ok6 a b c x y z && okS (wrapS .i64 (a + x)) (wrapS .i64 (b + y)) (wrapS .i64 (c + z))) (wrapS .i64 (c + z))), I64 (err (ok6 a b c x y z && okS (wrapS .i64 (a + x)) (wrapS .i64 (b + y)) (wrapS .i64 (c + z))))])
    (ff21 : S 21 = true → x27 = V3 (sel (ok6 a b c x y z && okS (wrapS .i64 (a + x)) (wrapS .i64 (b + y)) (wrapS .i64 (c + z))) (wrapS .i64 (a + x))) (sel (ok6 a b c x y z && okS (wrapS .i64 (a + x)) (wrapS .i64 (b + y)) (wrapS .i64 (c + z))) (wrapS .i64 (b + y))) (sel (ok6 a b c x y z && okS (wrapS .i64 (a + x)) (wrapS .i64 (b + y)) (wrapS .i64 (c + z))) (wrapS .i64 (c + z))))
    (ff22 : S 22 = true → x28 = I64 (err (ok6 a b c x y z && okS (wrapS .i64 (a + x)) (wrapS .i64 (b + y)) (wrapS .i64 (c + z)))))
    (ff23 : (S 23 = false → y2 = #[I64 0, I64 0, I64 0]) ∧ (S 23 = true → y2 = #[I64 (sel (ok6 a b c x y z && okS (wrapS .i64 (a + x)) (wrapS .i64 (b + y)) (wrapS .i64 (c + z))) (wrapS .i64 (a + x))), I64 (sel (ok6 a b c x y z && okS (wrapS .i64 (a + x)) (wrapS .i64 (b + y)) (wrapS .i64 (c + z))) (wrapS .i64 (b + y))), I64 (sel (ok6 a b c x y z && okS (wrapS .i64 (a + x)) (wrapS .i64 (b + y)) (wrapS .i64 (c + z))) (wrapS .i64 (c + z)))]))
    (ff24 : S 24 = true → x5 = I64 (err (ok6 a b c x y z && okS (wrapS .i64 (a + x)) (wrapS .i64 (b + y)) (wrapS .i64 (c + z)))))
    (ff25 : news.length = (S 18).toNat) : J63 a b c x y z S ⟨[[V3 a b c, V3 x y z, ptr 0 0, ptr 1 0, ptr 2 0, x5, x6, x7, x8, x9, x10, x11, x12, x13, x14, x15],
      [x16, x17, x18, x19, x20, x21, x22, x23, x24, x25, x26, x27, x28]],
      ((.cells #[I64 a, I64 b, I64 c] 59) :: (.cells #[I64 x, I64 y, I64 z] 59) :: (.cells y2 59) :: news), []⟩
theorem RAdd_c (G) (a b c x y z : Int) : AC Tryd.prog G 63 [V3 a b c, V3 x y z] [] (fun v h => v = .tuple #[V3 (sel (ok6 a b c x y z && okS (wrapS .i64 (a + x)) (wrapS .i64 (b + y)) (wrapS .i64 (c + z))) (wrapS .i64 (a + x))) (sel (ok6 a b c x y z && okS (wrapS .i64 (a + x)) (wrapS .i64 (b + y)) (wrapS .i64 (c + z))) (wrapS .i64 (b + y))) (sel (ok6 a b c x y z && okS (wrapS .i64 (a + x)) (wrapS .i64 (b + y)) (wrapS .i64 (c + z))) (wrapS .i64 (c + z))), I64 (err (ok6 a b c x y z && okS (wrapS .i64 (a + x)) (wrapS .i64 (b + y)) (wrapS .i64 (c + z))))] ∧ h = []) := by
  refine ac_of_body tabOk has63 ?_
  unfold BodyOk
  conv => whnf
  refine ad_ren (ad_inv tabOk (by kernel_rfl) (by kernel_rfl) (fun S s => J63 a b c x y z S s) ?_ ?_ ?_)
  · exact J63.mk undef undef undef undef undef undef undef undef undef undef undef undef undef undef undef undef undef undef undef undef undef undef undef (I64 0) (#[I64 0, I64 0, I64 0]) 0 [] (fun h => absurd h Bool.false_ne_true) (fun h => absurd h Bool.false_ne_true) (fun h => absurd h Bool.false_ne_true) (fun h => absurd h Bool.false_ne_true) (fun h => absurd h Bool.false_ne_true) (fun h => absurd h Bool.false_ne_true) (fun h => absurd h Bool.false_ne_true) (fun h => absurd h Bool.false_ne_true) (fun h => absurd h Bool.false_ne_true) (fun h => absurd h Bool.false_ne_true) (fun h => absurd h Bool.false_ne_true) (fun h => absurd h Bool.false_ne_true) (fun h => absurd h Bool.false_ne_true) (fun h => absurd h Bool.false_ne_true) (fun h => absurd h Bool.false_ne_true) (fun h => absurd h Bool.false_ne_true) (fun h => absurd h Bool.false_ne_true) (fun h => absurd h Bool.false_ne_true) (fun h => absurd h Bool.false_ne_true) (fun h => absurd h Bool.false_ne_true) (fun h => absurd h Bool.false_ne_true) (fun h => absurd h Bool.false_ne_true) (fun h => absurd h Bool.false_ne_true) ⟨fun _ => rfl, fun h => absurd h Bool.false_ne_true⟩ (fun h => absurd h Bool.false_ne_true) rfl
  · conv => whnf
    refine ⟨?_, ?_⟩
    · rintro S s ⟨x6, x7, x8, x9, x10, x11, x12, x13, x14, x15, x16, x17, x18, x19, x20, x21, x22, x23, x24, x25, x26, x27, x28, x5, y2, q, news, f0, f1, f2, f3, f4, f5, f6, f7, f8, f9, f10, f11, f12, f13, f14, f15, f16, f17, f18, f19, f20, f21, f22, f23, f24, cn⟩ hS hp
      conv => whnf
      exact J63.mk (S := fun j => S j || Nat.beq j 0) (ptr 0 0) x7 x8 x9 x10 x11 x12 x13 x14 x15 x16 x17 x18 x19 x20 x21 x22 x23 x24 x25 x26 x27 x28 x5 y2 q news (fun _ => rfl)
        (fun h => f1 (orF rfl h))
        (fun h => f2 (orF rfl h))
        (fun h => f3 (orF rfl h))
        (fun h => f4 (orF rfl h))
        (fun h => f5 (orF rfl h))
        (fun h => f6 (orF rfl h))
        (fun h => f7 (orF rfl h))
        (fun h => f8 (orF rfl h))
        (fun h => f9 (orF rfl h))
        (fun h => f10 (orF rfl h))
        (fun h => f11 (orF rfl h))
        (fun h => f12 (orF rfl h))
        (fun h => f13 (orF rfl h))
        (fun h => f14 (orF rfl h))
        (fun h => f15 (orF rfl h))
        (fun h => f16 (orF rfl h))
        (fun h => f17 (orF rfl h))
        (fun h => f18 (orF rfl h))
        (fun h => f19 (orF rfl h))
        (fun h => f20 (orF rfl h))
        (fun h => f21 (orF rfl h))
        (fun h => f22 (orF rfl h))
        (⟨fun h => f23.1 (orN0 rfl h), fun h => f23.2 (orF rfl h)⟩)
        (fun h => f24 (orF rfl h))
        (by rw [cn]; simp only [Nat.beq, Bool.or_false])
    conv => whnf
    refine ⟨?_, ?_⟩
    · rintro S s ⟨x6, x7, x8, x9, x10, x11, x12, x13, x14, x15, x16, x17, x18, x19, x20, x21, x22, x23, x24, x25, x26, x27, x28, x5, y2, q, news, f0, f1, f2, f3, f4, f5, f6, f7, f8, f9, f10, f11, f12, f13, f14, f15, f16, f17, f18, f19, f20, f21, f22, f23, f24, cn⟩ hS hp
      have z0 := f0 (hp 0 (by decide))
      subst z0
      conv => whnf
      exact J63.mk (S := fun j => S j || Nat.beq j 1) (ptr 0 0) (I64 a) x8 x9 x10 x11 x12 x13 x14 x15 x16 x17 x18 x19 x20 x21 x22 x23 x24 x25 x26 x27 x28 x5 y2 q news (fun h => f0 (orF rfl h))
        (fun _ => rfl)
        (fun h => f2 (orF rfl h))
        (fun h => f3 (orF rfl h))
        (fun h => f4 (orF rfl h))
        (fun h => f5 (orF rfl h))
        (fun h => f6 (orF rfl h))
        (fun h => f7 (orF rfl h))
        (fun h => f8 (orF rfl h))
        (fun h => f9 (orF rfl h))
        (fun h => f10 (orF rfl h))
        (fun h => f11 (orF rfl h))
        (fun h => f12 (orF rfl h))
        (fun h => f13 (orF rfl h))
        (fun h => f14 (orF rfl h))
        (fun h => f15 (orF rfl h))
        (fun h => f16 (orF rfl h))
        (fun h => f17 (orF rfl h))
        (fun h => f18 (orF rfl h))
        (fun h => f19 (orF rfl h))
        (fun h => f20 (orF rfl h))
        (fun h => f21 (orF rfl h))
        (fun h => f22 (orF rfl h))
        (⟨fun h => f23.1 (orN0 rfl h), fun h => f23.2 (orF rfl h)⟩)
        (fun h => f24 (orF rfl h))
        (by rw [cn]; simp only [Nat.beq, Bool.or_false])
    conv => whnf
    refine ⟨?_, ?_⟩
    · rintro S s ⟨x6, x7, x8, x9, x10, x11, x12, x13, x14, x15, x16, x17, x18, x19, x20, x21, x22, x23, x24, x25, x26, x27, x28, x5, y2, q, news, f0, f1, f2, f3, f4, f5, f6, f7, f8, f9, f10, f11, f12, f13, f14, f15, f16, f17, f18, f19, f20, f21, f22, f23, f24, cn⟩ hS hp
      conv => whnf
      exact J63.mk (S := fun j => S j || Nat.beq j 2) x6 x7 (ptr 1 0) x9 x10 x11 x12 x13 x14 x15 x16 x17 x18 x19 x20 x21 x22 x23 x24 x25 x26 x27 x28 x5 y2 q news (fun h => f0 (orF rfl h))
        (fun h => f1 (orF rfl h))
        (fun _ => rfl)
        (fun h => f3 (orF rfl h))
        (fun h => f4 (orF rfl h))
        (fun h => f5 (orF rfl h))
        (fun h => f6 (orF rfl h))
        (fun h => f7 (orF rfl h))
        (fun h => f8 (orF rfl h))
        (fun h => f9 (orF rfl h))
        (fun h => f10 (orF rfl h))
        (fun h => f11 (orF rfl h))
        (fun h => f12 (orF rfl h))
        (fun h => f13 (orF rfl h))
        (fun h => f14 (orF rfl h))
        (fun h => f15 (orF rfl h))
        (fun h => f16 (orF rfl h))
        (fun h => f17 (orF rfl h))
        (fun h => f18 (orF rfl h))
        (fun h => f19 (orF rfl h))
        (fun h => f20 (orF rfl h))
        (fun h => f21 (orF rfl h))
        (fun h => f22 (orF rfl h))
        (⟨fun h => f23.1 (orN0 rfl h), fun h => f23.2 (orF rfl h)⟩)
        (fun h => f24 (orF rfl h))
        (by rw [cn]; simp only [Nat.beq, Bool.or_false])
    conv => whnf
    refine ⟨?_, ?_⟩
    · rintro S s ⟨x6, x7, x8, x9, x10, x11, x12, x13, x14, x15, x16, x17, x18, x19, x20, x21, x22, x23, x24, x25, x26, x27, x28, x5, y2, q, news, f0, f1, f2, f3, f4, f5, f6, f7, f8, f9, f10, f11, f12, f13, f14, f15, f16, f17, f18, f19, f20, f21, f22, f23, f24, cn⟩ hS hp
      have z2 := f2 (hp 2 (by decide))
      subst z2
      conv => whnf
      exact J63.mk (S := fun j => S j || Nat.beq j 3) x6 x7 (ptr 1 0) (I64 x) x10 x11 x12 x13 x14 x15 x16 x17 x18 x19 x20 x21 x22 x23 x24 x25 x26 x27 x28 x5 y2 q news (fun h => f0 (orF rfl h))
        (fun h => f1 (orF rfl h))
        (fun h => f2 (orF rfl h))
        (fun _ => rfl)
        (fun h => f4 (orF rfl h))
        (fun h => f5 (orF rfl h))
        (fun h => f6 (orF rfl h))
        (fun h => f7 (orF rfl h))
        (fun h => f8 (orF rfl h))
        (fun h => f9 (orF rfl h))
        (fun h => f10 (orF rfl h))
        (fun h => f11 (orF rfl h))
        (fun h => f12 (orF rfl h))
        (fun h => f13 (orF rfl h))
        (fun h => f14 (orF rfl h))
        (fun h => f15 (orF rfl h))
        (fun h => f16 (orF rfl h))
        (fun h => f17 (orF rfl h))
        (fun h => f18 (orF rfl h))
        (fun h => f19 (orF rfl h))
        (fun h => f20 (orF rfl h))
        (fun h => f21 (orF rfl h))
        (fun h => f22 (orF rfl h))
        (⟨fun h => f23.1 (orN0 rfl h), fun h => f23.2 (orF rfl h)⟩)
        (fun h => f24 (orF rfl h))
        (by rw [cn]; simp only [Nat.beq, Bool.or_false])
    conv => whnf
    refine ⟨?_, ?_⟩
    · rintro S s ⟨x6, x7, x8, x9, x10, x11, x12, x13, x14, x15, x16, x17, x18, x19, x20, x21, x22, x23, x24, x25, x26, x27, x28, x5, y2, q, news, f0, f1, f2, f3, f4, f5, f6, f7, f8, f9, f10, f11, f12, f13, f14, f15, f16, f17, f18, f19, f20, f21, f22, f23, f24, cn⟩ hS hp
      have z1 := f1 (hp 1 (by decide))
      subst z1
      have z3 := f3 (hp 3 (by decide))
      subst z3
      conv => whnf
      exact J63.mk (S := fun j => S j || Nat.beq j 4) x6 (I64 a) x8 (I64 x) (I64 (wrapS .i64 (a + x))) x11 x12 x13 x14 x15 x16 x17 x18 x19 x20 x21 x22 x23 x24 x25 x26 x27 x28 x5 y2 q news (fun h => f0 (orF rfl h))
        (fun h => f1 (orF rfl h))
        (fun h => f2 (orF rfl h))
        (fun h => f3 (orF rfl h))
        (fun _ => rfl)
        (fun h => f5 (orF rfl h))
        (fun h => f6 (orF rfl h))
        (fun h => f7 (orF rfl h))
        (fun h => f8 (orF rfl h))
        (fun h => f9 (orF rfl h))
        (fun h => f10 (orF rfl h))
        (fun h => f11 (orF rfl h))
        (fun h => f12 (orF rfl h))
        (fun h => f13 (orF rfl h))
        (fun h => f14 (orF rfl h))
        (fun h => f15 (orF rfl h))
        (fun h => f16 (orF rfl h))
        (fun h => f17 (orF rfl h))
        (fun h => f18 (orF rfl h))
        (fun h => f19 (orF rfl h))
        (fun h => f20 (orF rfl h))
        (fun h => f21 (orF rfl h))
        (fun h => f22 (orF rfl h))
        (⟨fun h => f23.1 (orN0 rfl h), fun h => f23.2 (orF rfl h)⟩)
        (fun h => f24 (orF rfl h))
        (by rw [cn]; simp only [Nat.beq, Bool.or_false])
    conv => whnf
    refine ⟨?_, ?_⟩
    · rintro S s ⟨x6, x7, x8, x9, x10, x11, x12, x13, x14, x15, x16, x17, x18, x19, x20, x21, x22, x23, x24, x25, x26, x27, x28, x5, y2, q, news, f0, f1, f2, f3, f4, f5, f6, f7, f8, f9, f10, f11, f12, f13, f14, f15, f16, f17, f18, f19, f20, f21, f22, f23, f24, cn⟩ hS hp
      conv => whnf
      exact J63.mk (S := fun j => S j || Nat.beq j 5) x6 x7 x8 x9 x10 (ptr 0 1) x12 x13 x14 x15 x16 x17 x18 x19 x20 x21 x22 x23 x24 x25 x26 x27 x28 x5 y2 q news (fun h => f0 (orF rfl h))
        (fun h => f1 (orF rfl h))
        (fun h => f2 (orF rfl h))
        (fun h => f3 (orF rfl h))
        (fun h => f4 (orF rfl h))
        (fun _ => rfl)
        (fun h => f6 (orF rfl h))
        (fun h => f7 (orF rfl h))
        (fun h => f8 (orF rfl h))
        (fun h => f9 (orF rfl h))
        (fun h => f10 (orF rfl h))
        (fun h => f11 (orF rfl h))
        (fun h => f12 (orF rfl h))
        (fun h => f13 (orF rfl h))
        (fun h => f14 (orF rfl h))
        (fun h => f15 (orF rfl h))
        (fun h => f16 (orF rfl h))
        (fun h => f17 (orF rfl h))
        (fun h => f18 (orF rfl h))
        (fun h => f19 (orF rfl h))
        (fun h => f20 (orF rfl h))
        (fun h => f21 (orF rfl h))
        (fun h => f22 (orF rfl h))
        (⟨fun h => f23.1 (orN0 rfl h), fun h => f23.2 (orF rfl h)⟩)
        (fun h => f24 (orF rfl h))
        (by rw [cn]; simp only [Nat.beq, Bool.or_false])
    conv => whnf
    refine ⟨?_, ?_⟩
    · rintro S s ⟨x6, x7, x8, x9, x10, x11, x12, x13, x14, x15, x16, x17, x18, x19, x20, x21, x22, x23, x24, x25, x26, x27, x28, x5, y2, q, news, f0, f1, f2, f3, f4, f5, f6, f7, f8, f9, f10, f11, f12, f13, f14, f15, f16, f17, f18, f19, f20, f21, f22, f23, f24, cn⟩ hS hp
      have z5 := f5 (hp 5 (by decide))
      subst z5
      conv => whnf
      exact J63.mk (S := fun j => S j || Nat.beq j 6) x6 x7 x8 x9 x10 (ptr 0 1) (I64 b) x13 x14 x15 x16 x17 x18 x19 x20 x21 x22 x23 x24 x25 x26 x27 x28 x5 y2 q news (fun h => f0 (orF rfl h))
        (fun h => f1 (orF rfl h))
        (fun h => f2 (orF rfl h))
        (fun h => f3 (orF rfl h))
        (fun h => f4 (orF rfl h))
        (fun h => f5 (orF rfl h))
        (fun _ => rfl)
        (fun h => f7 (orF rfl h))
        (fun h => f8 (orF rfl h))
        (fun h => f9 (orF rfl h))
        (fun h => f10 (orF rfl h))
        (fun h => f11 (orF rfl h))
        (fun h => f12 (orF rfl h))
        (fun h => f13 (orF rfl h))
        (fun h => f14 (orF rfl h))
        (fun h => f15 (orF rfl h))
        (fun h => f16 (orF rfl h))
        (fun h => f17 (orF rfl h))
        (fun h => f18 (orF rfl h))
        (fun h => f19 (orF rfl h))
        (fun h => f20 (orF rfl h))
        (fun h => f21 (orF rfl h))
        (fun h => f22 (orF rfl h))
        (⟨fun h => f23.1 (orN0 rfl h), fun h => f23.2 (orF rfl h)⟩)
        (fun h => f24 (orF rfl h))
        (by rw [cn]; simp only [Nat.beq, Bool.or_false])
    conv => whnf
    refine ⟨?_, ?_⟩
    · rintro S s ⟨x6, x7, x8, x9, x10, x11, x12, x13, x14, x15, x16, x17, x18, x19, x20, x21, x22, x23, x24, x25, x26, x27, x28, x5, y2, q, news, f0, f1, f2, f3, f4, f5, f6, f7, f8, f9, f10, f11, f12, f13, f14, f15, f16, f17, f18, f19, f20, f21, f22, f23, f24, cn⟩ hS hp
      conv => whnf
      exact J63.mk (S := fun j => S j || Nat.beq j 7) x6 x7 x8 x9 x10 x11 x12 (ptr 1 1) x14 x15 x16 x17 x18 x19 x20 x21 x22 x23 x24 x25 x26 x27 x28 x5 y2 q news (fun h => f0 (orF rfl h))
        (fun h => f1 (orF rfl h))
        (fun h => f2 (orF rfl h))
        (fun h => f3 (orF rfl h))
        (fun h => f4 (orF rfl h))
        (fun h => f5 (orF rfl h))
        (fun h => f6 (orF rfl h))
        (fun _ => rfl)
        (fun h => f8 (orF rfl h))
        (fun h => f9 (orF rfl h))
        (fun h => f10 (orF rfl h))
        (fun h => f11 (orF rfl h))
        (fun h => f12 (orF rfl h))
        (fun h => f13 (orF rfl h))
        (fun h => f14 (orF rfl h))
        (fun h => f15 (orF rfl h))
        (fun h => f16 (orF rfl h))
        (fun h => f17 (orF rfl h))
        (fun h => f18 (orF rfl h))
        (fun h => f19 (orF rfl h))
        (fun h => f20 (orF rfl h))
        (fun h => f21 (orF rfl h))
        (fun h => f22 (orF rfl h))
        (⟨fun h => f23.1 (orN0 rfl h), fun h => f23.2 (orF rfl h)⟩)
        (fun h => f24 (orF rfl h))
        (by rw [cn]; simp only [Nat.beq, Bool.or_false])
    conv => whnf
    refine ⟨?_, ?_⟩
    · rintro S s ⟨x6, x7, x8, x9, x10, x11, x12, x13, x14, x15, x16, x17, x18, x19, x20, x21, x22, x23, x24, x25, x26, x27, x28, x5, y2, q, news, f0, f1, f2, f3, f4, f5, f6, f7, f8, f9, f10, f11, f12, f13, f14, f15, f16, f17, f18, f19, f20, f21, f22, f23, f24, cn⟩ hS hp
      have z7 := f7 (hp 7 (by decide))
      subst z7
      conv => whnf
      exact J63.mk (S := fun j => S j || Nat.beq j 8) x6 x7 x8 x9 x10 x11 x12 (ptr 1 1) (I64 y) x15 x16 x17 x18 x19 x20 x21 x22 x23 x24 x25 x26 x27 x28 x5 y2 q news (fun h => f0 (orF rfl h))
        (fun h => f1 (orF rfl h))
        (fun h => f2 (orF rfl h))
        (fun h => f3 (orF rfl h))
        (fun h => f4 (orF rfl h))
        (fun h => f5 (orF rfl h))
        (fun h => f6 (orF rfl h))
        (fun h => f7 (orF rfl h))
        (fun _ => rfl)
        (fun h => f9 (orF rfl h))
        (fun h => f10 (orF rfl h))
        (fun h => f11 (orF rfl h))
        (fun h => f12 (orF rfl h))
        (fun h => f13 (orF rfl h))
        (fun h => f14 (orF rfl h))
        (fun h => f15 (orF rfl h))
        (fun h => f16 (orF rfl h))
        (fun h => f17 (orF rfl h))
        (fun h => f18 (orF rfl h))
        (fun h => f19 (orF rfl h))
        (fun h => f20 (orF rfl h))
        (fun h => f21 (orF rfl h))
        (fun h => f22 (orF rfl h))
        (⟨fun h => f23.1 (orN0 rfl h), fun h => f23.2 (orF rfl h)⟩)
        (fun h => f24 (orF rfl h))
        (by rw [cn]; simp only [Nat.beq, Bool.or_false])
    conv => whnf
    refine ⟨?_, ?_⟩
    · rintro S s ⟨x6, x7, x8, x9, x10, x11, x12, x13, x14, x15, x16, x17, x18, x19, x20, x21, x22, x23, x24, x25, x26, x27, x28, x5, y2, q, news, f0, f1, f2, f3, f4, f5, f6, f7, f8, f9, f10, f11, f12, f13, f14, f15, f16, f17, f18, f19, f20, f21, f22, f23, f24, cn⟩ hS hp
      have z6 := f6 (hp 6 (by decide))
      subst z6
      have z8 := f8 (hp 8 (by decide))
      subst z8
      conv => whnf
      exact J63.mk (S := fun j => S j || Nat.beq j 9) x6 x7 x8 x9 x10 x11 (I64 b) x13 (I64 y) (I64 (wrapS .i64 (b + y))) x16 x17 x18 x19 x20 x21 x22 x23 x24 x25 x26 x27 x28 x5 y2 q news (fun h => f0 (orF rfl h))
        (fun h => f1 (orF rfl h))
        (fun h => f2 (orF rfl h))
        (fun h => f3 (orF rfl h))
        (fun h => f4 (orF rfl h))
        (fun h => f5 (orF rfl h))
        (fun h => f6 (orF rfl h))
        (fun h => f7 (orF rfl h))
        (fun h => f8 (orF rfl h))
        (fun _ => rfl)
        (fun h => f10 (orF rfl h))
        (fun h => f11 (orF rfl h))
        (fun h => f12 (orF rfl h))
        (fun h => f13 (orF rfl h))
        (fun h => f14 (orF rfl h))
        (fun h => f15 (orF rfl h))
        (fun h => f16 (orF rfl h))
        (fun h => f17 (orF rfl h))
        (fun h => f18 (orF rfl h))
        (fun h => f19 (orF rfl h))
        (fun h => f20 (orF rfl h))
        (fun h => f21 (orF rfl h))
        (fun h => f22 (orF rfl h))
        (⟨fun h => f23.1 (orN0 rfl h), fun h => f23.2 (orF rfl h)⟩)
        (fun h => f24 (orF rfl h))
        (by rw [cn]; simp only [Nat.beq, Bool.or_false])
    conv => whnf
    refine ⟨?_, ?_⟩
    · rintro S s ⟨x6, x7, x8, x9, x10, x11, x12, x13, x14, x15, x16, x17, x18, x19, x20, x21, x22, x23, x24, x25, x26, x27, x28, x5, y2, q, news, f0, f1, f2, f3, f4, f5, f6, f7, f8, f9, f10, f11, f12, f13, f14, f15, f16, f17, f18, f19, f20, f21, f22, f23, f24, cn⟩ hS hp
      conv => whnf
      exact J63.mk (S := fun j => S j || Nat.beq j 10) x6 x7 x8 x9 x10 x11 x12 x13 x14 x15 (ptr 0 2) x17 x18 x19 x20 x21 x22 x23 x24 x25 x26 x27 x28 x5 y2 q news (fun h => f0 (orF rfl h))
        (fun h => f1 (orF rfl h))
        (fun h => f2 (orF rfl h))
        (fun h => f3 (orF rfl h))
        (fun h => f4 (orF rfl h))
        (fun h => f5 (orF rfl h))
        (fun h => f6 (orF rfl h))
        (fun h => f7 (orF rfl h))
        (fun h => f8 (orF rfl h))
        (fun h => f9 (orF rfl h))
        (fun _ => rfl)
        (fun h => f11 (orF rfl h))
        (fun h => f12 (orF rfl h))
        (fun h => f13 (orF rfl h))
        (fun h => f14 (orF rfl h))
        (fun h => f15 (orF rfl h))
        (fun h => f16 (orF rfl h))
        (fun h => f17 (orF rfl h))
        (fun h => f18 (orF rfl h))
        (fun h => f19 (orF rfl h))
        (fun h => f20 (orF rfl h))
        (fun h => f21 (orF rfl h))
        (fun h => f22 (orF rfl h))
        (⟨fun h => f23.1 (orN0 rfl h), fun h => f23.2 (orF rfl h)⟩)
        (fun h => f24 (orF rfl h))
        (by rw [cn]; simp only [Nat.beq, Bool.or_false])
    conv => whnf
    refine ⟨?_, ?_⟩
    · rintro S s ⟨x6, x7, x8, x9, x10, x11, x12, x13, x14, x15, x16, x17, x18, x19, x20, x21, x22, x23, x24, x25, x26, x27, x28, x5, y2, q, news, f0, f1, f2, f3, f4, f5, f6, f7, f8, f9, f10, f11, f12, f13, f14, f15, f16, f17, f18, f19, f20, f21, f22, f23, f24, cn⟩ hS hp
      have z10 := f10 (hp 10 (by decide))
      subst z10
      conv => whnf
      exact J63.mk (S := fun j => S j || Nat.beq j 11) x6 x7 x8 x9 x10 x11 x12 x13 x14 x15 (ptr 0 2) (I64 c) x18 x19 x20 x21 x22 x23 x24 x25 x26 x27 x28 x5 y2 q news (fun h => f0 (orF rfl h))
        (fun h => f1 (orF rfl h))
        (fun h => f2 (orF rfl h))
        (fun h => f3 (orF rfl h))
        (fun h => f4 (orF rfl h))
        (fun h => f5 (orF rfl h))
        (fun h => f6 (orF rfl h))
        (fun h => f7 (orF rfl h))
        (fun h => f8 (orF rfl h))
        (fun h => f9 (orF rfl h))
        (fun h => f10 (orF rfl h))
        (fun _ => rfl)
        (fun h => f12 (orF rfl h))
        (fun h => f13 (orF rfl h))
        (fun h => f14 (orF rfl h))
        (fun h => f15 (orF rfl h))
        (fun h => f16 (orF rfl h))
        (fun h => f17 (orF rfl h))
        (fun h => f18 (orF rfl h))
        (fun h => f19 (orF rfl h))
        (fun h => f20 (orF rfl h))
        (fun h => f21 (orF rfl h))
        (fun h => f22 (orF rfl h))
        (⟨fun h => f23.1 (orN0 rfl h), fun h => f23.2 (orF rfl h)⟩)
        (fun h => f24 (orF rfl h))
        (by rw [cn]; simp only [Nat.beq, Bool.or_false])
    conv => whnf
    refine ⟨?_, ?_⟩
    · rintro S s ⟨x6, x7, x8, x9, x10, x11, x12, x13, x14, x15, x16, x17, x18, x19, x20, x21, x22, x23, x24, x25, x26, x27, x28, x5, y2, q, news, f0, f1, f2, f3, f4, f5, f6, f7, f8, f9, f10, f11, f12, f13, f14, f15, f16, f17, f18, f19, f20, f21, f22, f23, f24, cn⟩ hS hp
      conv => whnf
      exact J63.mk (S := fun j => S j || Nat.beq j 12) x6 x7 x8 x9 x10 x11 x12 x13 x14 x15 x16 x17 (ptr 1 2) x19 x20 x21 x22 x23 x24 x25 x26 x27 x28 x5 y2 q news (fun h => f0 (orF rfl h))
        (fun h => f1 (orF rfl h))
        (fun h => f2 (orF rfl h))
        (fun h => f3 (orF rfl h))
        (fun h => f4 (orF rfl h))
        (fun h => f5 (orF rfl h))
        (fun h => f6 (orF rfl h))
        (fun h => f7 (orF rfl h))
        (fun h => f8 (orF rfl h))
        (fun h => f9 (orF rfl h))
        (fun h => f10 (orF rfl h))
        (fun h => f11 (orF rfl h))
        (fun _ => rfl)
        (fun h => f13 (orF rfl h))
        (fun h => f14 (orF rfl h))
        (fun h => f15 (orF rfl h))
        (fun h => f16 (orF rfl h))
        (fun h => f17 (orF rfl h))
        (fun h => f18 (orF rfl h))
        (fun h => f19 (orF rfl h))
        (fun h => f20 (orF rfl h))
        (fun h => f21 (orF rfl h))
        (fun h => f22 (orF rfl h))
        (⟨fun h => f23.1 (orN0 rfl h), fun h => f23.2 (orF rfl h)⟩)
        (fun h => f24 (orF rfl h))
        (by rw [cn]; simp only [Nat.beq, Bool.or_false])
    conv => whnf
    refine ⟨?_, ?_⟩
    · rintro S s ⟨x6, x7, x8, x9, x10, x11, x12, x13, x14, x15, x16, x17, x18, x19, x20, x21, x22, x23, x24, x25, x26, x27, x28, x5, y2, q, news, f0, f1, f2, f3, f4, f5, f6, f7, f8, f9, f10, f11, f12, f13, f14, f15, f16, f17, f18, f19, f20, f21, f22, f23, f24, cn⟩ hS hp
      have z12 := f12 (hp 12 (by decide))
      subst z12
      conv => whnf
      exact J63.mk (S := fun j => S j || Nat.beq j 13) x6 x7 x8 x9 x10 x11 x12 x13 x14 x15 x16 x17 (ptr 1 2) (I64 z) x20 x21 x22 x23 x24 x25 x26 x27 x28 x5 y2 q news (fun h => f0 (orF rfl h))
        (fun h => f1 (orF rfl h))
        (fun h => f2 (orF rfl h))
        (fun h => f3 (orF rfl h))
        (fun h => f4 (orF rfl h))
        (fun h => f5 (orF rfl h))
        (fun h => f6 (orF rfl h))
        (fun h => f7 (orF rfl h))
        (fun h => f8 (orF rfl h))
        (fun h => f9 (orF rfl h))
        (fun h => f10 (orF rfl h))
        (fun h => f11 (orF rfl h))
        (fun h => f12 (orF rfl h))
        (fun _ => rfl)
        (fun h => f14 (orF rfl h))
        (fun h => f15 (orF rfl h))
        (fun h => f16 (orF rfl h))
        (fun h => f17 (orF rfl h))
        (fun h => f18 (orF rfl h))
        (fun h => f19 (orF rfl h))
        (fun h => f20 (orF rfl h))
        (fun h => f21 (orF rfl h))
        (fun h => f22 (orF rfl h))
        (⟨fun h => f23.1 (orN0 rfl h), fun h => f23.2 (orF rfl h)⟩)
        (fun h => f24 (orF rfl h))
        (by rw [cn]; simp only [Nat.beq, Bool.or_false])
    conv => whnf
    refine ⟨?_, ?_⟩
    · rintro S s ⟨x6, x7, x8, x9, x10, x11, x12, x13, x14, x15, x16, x17, x18, x19, x20, x21, x22, x23, x24, x25, x26, x27, x28, x5, y2, q, news, f0, f1, f2, f3, f4, f5, f6, f7, f8, f9, f10, f11, f12, f13, f14, f15, f16, f17, f18, f19, f20, f21, f22, f23, f24, cn⟩ hS hp
      have z11 := f11 (hp 11 (by decide))
      subst z11
      have z13 := f13 (hp 13 (by decide))
      subst z13
      conv => whnf
      exact J63.mk (S := fun j => S j || Nat.beq j 14) x6 x7 x8 x9 x10 x11 x12 x13 x14 x15 x16 (I64 c) x18 (I64 z) (I64 (wrapS .i64 (c + z))) x21 x22 x23 x24 x25 x26 x27 x28 x5 y2 q news (fun h => f0 (orF rfl h))
        (fun h => f1 (orF rfl h))
        (fun h => f2 (orF rfl h))
        (fun h => f3 (orF rfl h))
        (fun h => f4 (orF rfl h))
        (fun h => f5 (orF rfl h))
        (fun h => f6 (orF rfl h))
        (fun h => f7 (orF rfl h))
        (fun h => f8 (orF rfl h))
        (fun h => f9 (orF rfl h))
        (fun h => f10 (orF rfl h))
        (fun h => f11 (orF rfl h))
        (fun h => f12 (orF rfl h))
        (fun h => f13 (orF rfl h))
        (fun _ => rfl)
        (fun h => f15 (orF rfl h))
        (fun h => f16 (orF rfl h))
        (fun h => f17 (orF rfl h))
        (fun h => f18 (orF rfl h))
        (fun h => f19 (orF rfl h))
        (fun h => f20 (orF rfl h))
        (fun h => f21 (orF rfl h))
        (fun h => f22 (orF rfl h))
        (⟨fun h => f23.1 (orN0 rfl h), fun h => f23.2 (orF rfl h)⟩)
        (fun h => f24 (orF rfl h))
        (by rw [cn]; simp only [Nat.beq, Bool.or_false])
    conv => whnf
    refine ⟨?_, ?_⟩
    · rintro S s ⟨x6, x7, x8, x9, x10, x11, x12, x13, x14, x15, x16, x17, x18, x19, x20, x21, x22, x23, x24, x25, x26, x27, x28, x5, y2, q, news, f0, f1, f2, f3, f4, f5, f6, f7, f8, f9, f10, f11, f12, f13, f14, f15, f16, f17, f18, f19, f20, f21, f22, f23, f24, cn⟩ hS hp
      have z4 := f4 (hp 4 (by decide))
      subst z4
      have z9 := f9 (hp 9 (by decide))
      subst z9
      have z14 := f14 (hp 14 (by decide))
      subst z14
      conv => whnf
      exact J63.mk (S := fun j => S j || Nat.beq j 15) x6 x7 x8 x9 (I64 (wrapS .i64 (a + x))) x11 x12 x13 x14 (I64 (wrapS .i64 (b + y))) x16 x17 x18 x19 (I64 (wrapS .i64 (c + z))) (V3 (wrapS .i64 (a + x)) (wrapS .i64 (b + y)) (wrapS .i64 (c + z))) x22 x23 x24 x25 x26 x27 x28 x5 y2 q news (fun h => f0 (orF rfl h))
        (fun h => f1 (orF rfl h))
        (fun h => f2 (orF rfl h))
        (fun h => f3 (orF rfl h))
        (fun h => f4 (orF rfl h))
        (fun h => f5 (orF rfl h))
        (fun h => f6 (orF rfl h))
        (fun h => f7 (orF rfl h))
        (fun h => f8 (orF rfl h))
        (fun h => f9 (orF rfl h))
        (fun h => f10 (orF rfl h))
        (fun h => f11 (orF rfl h))
        (fun h => f12 (orF rfl h))
        (fun h => f13 (orF rfl h))
        (fun h => f14 (orF rfl h))
        (fun _ => rfl)
        (fun h => f16 (orF rfl h))
        (fun h => f17 (orF rfl h))
        (fun h => f18 (orF rfl h))
        (fun h => f19 (orF rfl h))
        (fun h => f20 (orF rfl h))
        (fun h => f21 (orF rfl h))
        (fun h => f22 (orF rfl h))
        (⟨fun h => f23.1 (orN0 rfl h), fun h => f23.2 (orF rfl h)⟩)
        (fun h => f24 (orF rfl h))
        (by rw [cn]; simp only [Nat.beq, Bool.or_false])
    conv => whnf
    refine ⟨?_, ?_⟩
    · rintro S s ⟨x6, x7, x8, x9, x10, x11, x12, x13, x14, x15, x16, x17, x18, x19, x20, x21, x22, x23, x24, x25, x26, x27, x28, x5, y2, q, news, f0, f1, f2, f3, f4, f5, f6, f7, f8, f9, f10, f11, f12, f13, f14, f15, f16, f17, f18, f19, f20, f21, f22, f23, f24, cn⟩ hS hp
      conv => whnf
      exact J63.mk (S := fun j => S j || Nat.beq j 16) x6 x7 x8 x9 x10 x11 x12 x13 x14 x15 x16 x17 x18 x19 x20 x21 (V3 a b c) x23 x24 x25 x26 x27 x28 x5 y2 q news (fun h => f0 (orF rfl h))
        (fun h => f1 (orF rfl h))
        (fun h => f2 (orF rfl h))
        (fun h => f3 (orF rfl h))
        (fun h => f4 (orF rfl h))
        (fun h => f5 (orF rfl h))
        (fun h => f6 (orF rfl h))
        (fun h => f7 (orF rfl h))
        (fun h => f8 (orF rfl h))
        (fun h => f9 (orF rfl h))
        (fun h => f10 (orF rfl h))
        (fun h => f11 (orF rfl h))
        (fun h => f12 (orF rfl h))
        (fun h => f13 (orF rfl h))
        (fun h => f14 (orF rfl h))
        (fun h => f15 (orF rfl h))
        (fun _ => rfl)
        (fun h => f17 (orF rfl h))
        (fun h => f18 (orF rfl h))
        (fun h => f19 (orF rfl h))
        (fun h => f20 (orF rfl h))
        (fun h => f21 (orF rfl h))
        (fun h => f22 (orF rfl h))
        (⟨fun h => f23.1 (orN0 rfl h), fun h => f23.2 (orF rfl h)⟩)
        (fun h => f24 (orF rfl h))
        (by rw [cn]; simp only [Nat.beq, Bool.or_false])
    conv => whnf
    refine ⟨?_, ?_⟩
    · rintro S s ⟨x6, x7, x8, x9, x10, x11, x12, x13, x14, x15, x16, x17, x18, x19, x20, x21, x22, x23, x24, x25, x26, x27, x28, x5, y2, q, news, f0, f1, f2, f3, f4, f5, f6, f7, f8, f9, f10, f11, f12, f13, f14, f15, f16, f17, f18, f19, f20, f21, f22, f23, f24, cn⟩ hS hp
      conv => whnf
      exact J63.mk (S := fun j => S j || Nat.beq j 17) x6 x7 x8 x9 x10 x11 x12 x13 x14 x15 x16 x17 x18 x19 x20 x21 x22 (V3 x y z) x24 x25 x26 x27 x28 x5 y2 q news (fun h => f0 (orF rfl h))
        (fun h => f1 (orF rfl h))
        (fun h => f2 (orF rfl h))
        (fun h => f3 (orF rfl h))
        (fun h => f4 (orF rfl h))
        (fun h => f5 (orF rfl h))
        (fun h => f6 (orF rfl h))
        (fun h => f7 (orF rfl h))
        (fun h => f8 (orF rfl h))
        (fun h => f9 (orF rfl h))
        (fun h => f10 (orF rfl h))
        (fun h => f11 (orF rfl h))
        (fun h => f12 (orF rfl h))
        (fun h => f13 (orF rfl h))
        (fun h => f14 (orF rfl h))
        (fun h => f15 (orF rfl h))
        (fun h => f16 (orF rfl h))
        (fun _ => rfl)
        (fun h => f18 (orF rfl h))
        (fun h => f19 (orF rfl h))
        (fun h => f20 (orF rfl h))
        (fun h => f21 (orF rfl h))
        (fun h => f22 (orF rfl h))
        (⟨fun h => f23.1 (orN0 rfl h), fun h => f23.2 (orF rfl h)⟩)
        (fun h => f24 (orF rfl h))
        (by rw [cn]; simp only [Nat.beq, Bool.or_false])
    conv => whnf
    refine ⟨?_, ?_⟩
    · rintro S s ⟨x6, x7, x8, x9, x10, x11, x12, x13, x14, x15, x16, x17, x18, x19, x20, x21, x22, x23, x24, x25, x26, x27, x28, x5, y2, q, news, f0, f1, f2, f3, f4, f5, f6, f7, f8, f9, f10, f11, f12, f13, f14, f15, f16, f17, f18, f19, f20, f21, f22, f23, f24, cn⟩ hS hp
      have z16 := f16 (hp 16 (by decide))
      subst z16
      have z17 := f17 (hp 17 (by decide))
      subst z17
      conv => whnf
      refine cnt_of ?_
      conv => whnf
      refine app_of ?_
      conv => whnf
      have hn0 : news = [] := List.length_eq_zero_iff.1 (by rw [cn]; have e : S 18 = false := hS; rw [e]; rfl)
      subst hn0
      exact J63.mk (S := fun j => S j || Nat.beq j 18) x6 x7 x8 x9 x10 x11 x12 x13 x14 x15 x16 x17 x18 x19 x20 x21 (V3 a b c) (V3 x y z) (slc (0 + 3) 0 2 2) x25 x26 x27 x28 x5 y2 0 [.cells #[I64 a, I64 b, I64 c, I64 x, I64 y, I64 z] 59] (fun h => f0 (orF rfl h))
        (fun h => f1 (orF rfl h))
        (fun h => f2 (orF rfl h))
        (fun h => f3 (orF rfl h))
        (fun h => f4 (orF rfl h))
        (fun h => f5 (orF rfl h))
        (fun h => f6 (orF rfl h))
        (fun h => f7 (orF rfl h))
        (fun h => f8 (orF rfl h))
        (fun h => f9 (orF rfl h))
        (fun h => f10 (orF rfl h))
        (fun h => f11 (orF rfl h))
        (fun h => f12 (orF rfl h))
        (fun h => f13 (orF rfl h))
        (fun h => f14 (orF rfl h))
        (fun h => f15 (orF rfl h))
        (fun h => f16 (orF rfl h))
        (fun h => f17 (orF rfl h))
        (fun _ => ⟨rfl, rfl⟩)
        (fun h => f19 (orF rfl h))
        (fun h => f20 (orF rfl h))
        (fun h => f21 (orF rfl h))
        (fun h => f22 (orF rfl h))
        (⟨fun h => f23.1 (orN0 rfl h), fun h => f23.2 (orF rfl h)⟩)
        (fun h => f24 (orF rfl h))
        (by have e : S 18 = false := hS; simp only [Nat.beq, Bool.or_true, Bool.toNat_true, List.length_singleton])
    conv => whnf
    refine ⟨?_, ?_⟩
    · rintro S s ⟨x6, x7, x8, x9, x10, x11, x12, x13, x14, x15, x16, x17, x18, x19, x20, x21, x22, x23, x24, x25, x26, x27, x28, x5, y2, q, news, f0, f1, f2, f3, f4, f5, f6, f7, f8, f9, f10, f11, f12, f13, f14, f15, f16, f17, f18, f19, f20, f21, f22, f23, f24, cn⟩ hS hp
      obtain ⟨z18, hm⟩ := f18 (hp 18 (by decide))
      subst z18
      conv => whnf
      refine ac_read [q + 3] (RFine2 G a b c x y z) (by simp [r3, r2, r1, r0, rA, nu]) rfl ⟨⟨by decide, rfl, _, hm⟩, trivial⟩ ?_
      rintro v h' ⟨rfl, rfl⟩
      refine ⟨rfl, rfl, ?_⟩
      conv => whnf
      exact J63.mk (S := fun j => S j || Nat.beq j 19) x6 x7 x8 x9 x10 x11 x12 x13 x14 x15 x16 x17 x18 x19 x20 x21 x22 x23 (slc (q + 3) 0 2 2) (.bool (ok6 a b c x y z)) x26 x27 x28 x5 y2 q news (fun h => f0 (orF rfl h))
        (fun h => f1 (orF rfl h))
        (fun h => f2 (orF rfl h))
        (fun h => f3 (orF rfl h))
        (fun h => f4 (orF rfl h))
        (fun h => f5 (orF rfl h))
        (fun h => f6 (orF rfl h))
        (fun h => f7 (orF rfl h))
        (fun h => f8 (orF rfl h))
        (fun h => f9 (orF rfl h))
        (fun h => f10 (orF rfl h))
        (fun h => f11 (orF rfl h))
        (fun h => f12 (orF rfl h))
        (fun h => f13 (orF rfl h))
        (fun h => f14 (orF rfl h))
        (fun h => f15 (orF rfl h))
        (fun h => f16 (orF rfl h))
        (fun h => f17 (orF rfl h))
        (fun h => f18 (orF rfl h))
        (fun _ => rfl)
        (fun h => f20 (orF rfl h))
        (fun h => f21 (orF rfl h))
        (fun h => f22 (orF rfl h))
        (⟨fun h => f23.1 (orN0 rfl h), fun h => f23.2 (orF rfl h)⟩)
        (fun h => f24 (orF rfl h))
        (by rw [cn]; simp only [Nat.beq, Bool.or_false])
    conv => whnf
    refine ⟨?_, ?_⟩
    · rintro S s ⟨x6, x7, x8, x9, x10, x11, x12, x13, x14, x15, x16, x17, x18, x19, x20, x21, x22, x23, x24, x25, x26, x27, x28, x5, y2, q, news, f0, f1, f2, f3, f4, f5, f6, f7, f8, f9, f10, f11, f12, f13, f14, f15, f16, f17, f18, f19, f20, f21, f22, f23, f24, cn⟩ hS hp
      have z15 := f15 (hp 15 (by decide))
      subst z15
      have z19 := f19 (hp 19 (by decide))
      subst z19
      conv => whnf
      refine ac_pure (Rtold_c G (wrapS .i64 (a + x)) (wrapS .i64 (b + y)) (wrapS .i64 (c + z)) (ok6 a b c x y z)) rfl ?_
      rintro v h' ⟨rfl, rfl⟩
      refine ⟨rfl, rfl, ?_⟩
      conv => whnf
      exact J63.mk (S := fun j => S j || Nat.beq j 20) x6 x7 x8 x9 x10 x11 x12 x13 x14 x15 x16 x17 x18 x19 x20 (V3 (wrapS .i64 (a + x)) (wrapS .i64 (b + y)) (wrapS .i64 (c + z))) x22 x23 x24 (.bool (ok6 a b c x y z)) (.tuple #[V3 (sel (ok6 a b c x y z && okS (wrapS .i64 (a + x)) (wrapS .i64 (b + y)) (wrapS .i64 (c + z))) (wrapS .i64 (a + x))) (sel (ok6 a b c x y z && okS (wrapS .i64 (a + x)) (wrapS .i64 (b + y)) (wrapS .i64 (c + z))) (wrapS .i64 (b + y))) (sel (ok6 a b c x y z && okS (wrapS .i64 (a + x)) (wrapS .i64 (b + y)) (wrapS .i64 (c + z))) (wrapS .i64 (c + z))), I64 (err (ok6 a b c x y z && okS (wrapS .i64 (a + x)) (wrapS .i64 (b + y)) (wrapS .i64 (c + z))))]) x27 x28 x5 y2 q news (fun h => f0 (orF rfl h))
        (fun h => f1 (orF rfl h))
        (fun h => f2 (orF rfl h))
        (fun h => f3 (orF rfl h))
        (fun h => f4 (orF rfl h))
        (fun h => f5 (orF rfl h))
        (fun h => f6 (orF rfl h))
        (fun h => f7 (orF rfl h))
        (fun h => f8 (orF rfl h))
        (fun h => f9 (orF rfl h))
        (fun h => f10 (orF rfl h))
        (fun h => f11 (orF rfl h))
        (fun h => f12 (orF rfl h))
        (fun h => f13 (orF rfl h))
        (fun h => f14 (orF rfl h))
        (fun h => f15 (orF rfl h))
        (fun h => f16 (orF rfl h))
        (fun h => f17 (orF rfl h))
        (fun h => f18 (orF rfl h))
        (fun h => f19 (orF rfl h))
        (fun _ => rfl)
        (fun h => f21 (orF rfl h))
        (fun h => f22 (orF rfl h))
        (⟨fun h => f23.1 (orN0 rfl h), fun h => f23.2 (orF rfl h)⟩)
        (fun h => f24 (orF rfl h))
        (by rw [cn]; simp only [Nat.beq, Bool.or_false])
    conv => whnf
    refine ⟨?_, ?_⟩
    · rintro S s ⟨x6, x7, x8, x9, x10, x11, x12, x13, x14, x15, x16, x17, x18, x19, x20, x21, x22, x23, x24, x25, x26, x27, x28, x5, y2, q, news, f0, f1, f2, f3, f4, f5, f6, f7, f8, f9, f10, f11, f12, f13, f14, f15, f16, f17, f18, f19, f20, f21, f22, f23, f24, cn⟩ hS hp
      have z20 := f20 (hp 20 (by decide))
      subst z20
      conv => whnf
      exact J63.mk (S := fun j => S j || Nat.beq j 21) x6 x7 x8 x9 x10 x11 x12 x13 x14 x15 x16 x17 x18 x19 x20 x21 x22 x23 x24 x25 (.tuple #[V3 (sel (ok6 a b c x y z && okS (wrapS .i64 (a + x)) (wrapS .i64 (b + y)) (wrapS .i64 (c + z))) (wrapS .i64 (a + x))) (sel (ok6 a b c x y z && okS (wrapS .i64 (a + x)) (wrapS .i64 (b + y)) (wrapS .i64 (c + z))) (wrapS .i64 (b + y))) (sel (ok6 a b c x y z && okS (wrapS .i64 (a + x)) (wrapS .i64 (b + y)) (wrapS .i64 (c + z))) (wrapS .i64 (c + z))), I64 (err (ok6 a b c x y z && okS (wrapS .i64 (a + x)) (wrapS .i64 (b + y)) (wrapS .i64 (c + z))))]) (V3 (sel (ok6 a b c x y z && okS (wrapS .i64 (a + x)) (wrapS .i64 (b + y)) (wrapS .i64 (c + z))) (wrapS .i64 (a + x))) (sel (ok6 a b c x y z && okS (wrapS .i64 (a + x)) (wrapS .i64 (b + y)) (wrapS .i64 (c + z))) (wrapS .i64 (b + y))) (sel (ok6 a b c x y z && okS (wrapS .i64 (a + x)) (wrapS .i64 (b + y)) (wrapS .i64 (c + z))) (wrapS .i64 (c + z)))) x28 x5 y2 q news (fun h => f0 (orF rfl h))
        (fun h => f1 (orF rfl h))
        (fun h => f2 (orF rfl h))
        (fun h => f3 (orF rfl h))
        (fun h => f4 (orF rfl h))
        (fun h => f5 (orF rfl h))
        (fun h => f6 (orF rfl h))
        (fun h => f7 (orF rfl h))
        (fun h => f8 (orF rfl h))
        (fun h => f9 (orF rfl h))
        (fun h => f10 (orF rfl h))
        (fun h => f11 (orF rfl h))
        (fun h => f12 (orF rfl h))
        (fun h => f13 (orF rfl h))
        (fun h => f14 (orF rfl h))
        (fun h => f15 (orF rfl h))
        (fun h => f16 (orF rfl h))
        (fun h => f17 (orF rfl h))
        (fun h => f18 (orF rfl h))
        (fun h => f19 (orF rfl h))
        (fun h => f20 (orF rfl h))
        (fun _ => rfl)
        (fun h => f22 (orF rfl h))
        (⟨fun h => f23.1 (orN0 rfl h), fun h => f23.2 (orF rfl h)⟩)
        (fun h => f24 (orF rfl h))
        (by rw [cn]; simp only [Nat.beq, Bool.or_false])
    conv => whnf
    refine ⟨?_, ?_⟩
    · rintro S s ⟨x6, x7, x8, x9, x10, x11, x12, x13, x14, x15, x16, x17, x18, x19, x20, x21, x22, x23, x24, x25, x26, x27, x28, x5, y2, q, news, f0, f1, f2, f3, f4, f5, f6, f7, f8, f9, f10, f11, f12, f13, f14, f15, f16, f17, f18, f19, f20, f21, f22, f23, f24, cn⟩ hS hp
      have z20 := f20 (hp 20 (by decide))
      subst z20
      conv => whnf
      exact J63.mk (S := fun j => S j || Nat.beq j 22) x6 x7 x8 x9 x10 x11 x12 x13 x14 x15 x16 x17 x18 x19 x20 x21 x22 x23 x24 x25 (.tuple #[V3 (sel (ok6 a b c x y z && okS (wrapS .i64 (a + x)) (wrapS .i64 (b + y)) (wrapS .i64 (c + z))) (wrapS .i64 (a + x))) (sel (ok6 a b c x y z && okS (wrapS .i64 (a + x)) (wrapS .i64 (b + y)) (wrapS .i64 (c + z))) (wrapS .i64 (b + y))) (sel (ok6 a b c x y z && okS (wrapS .i64 (a + x)) (wrapS .i64 (b + y)) (wrapS .i64 (c + z))) (wrapS .i64 (c + z))), I64 (err (ok6 a b c x y z && okS (wrapS .i64 (a + x)) (wrapS .i64 (b + y)) (wrapS .i64 (c + z))))]) x27 (I64 (err (ok6 a b c x y z && okS (wrapS .i64 (a + x)) (wrapS .i64 (b + y)) (wrapS .i64 (c + z))))) x5 y2 q news (fun h => f0 (orF rfl h))
        (fun h => f1 (orF rfl h))
        (fun h => f2 (orF rfl h))
        (fun h => f3 (orF rfl h))
        (fun h => f4 (orF rfl h))
        (fun h => f5 (orF rfl h))
        (fun h => f6 (orF rfl h))
        (fun h => f7 (orF rfl h))
        (fun h => f8 (orF rfl h))
        (fun h => f9 (orF rfl h))
        (fun h => f10 (orF rfl h))
        (fun h => f11 (orF rfl h))
        (fun h => f12 (orF rfl h))
        (fun h => f13 (orF rfl h))
        (fun h => f14 (orF rfl h))
        (fun h => f15 (orF rfl h))
        (fun h => f16 (orF rfl h))
        (fun h => f17 (orF rfl h))
        (fun h => f18 (orF rfl h))
        (fun h => f19 (orF rfl h))
        (fun h => f20 (orF rfl h))
        (fun h => f21 (orF rfl h))
        (fun _ => rfl)
        (⟨fun h => f23.1 (orN0 rfl h), fun h => f23.2 (orF rfl h)⟩)
        (fun h => f24 (orF rfl h))
        (by rw [cn]; simp only [Nat.beq, Bool.or_false])
    conv => whnf
    refine ⟨?_, ?_⟩
    · rintro S s ⟨x6, x7, x8, x9, x10, x11, x12, x13, x14, x15, x16, x17, x18, x19, x20, x21, x22, x23, x24, x25, x26, x27, x28, x5, y2, q, news, f0, f1, f2, f3, f4, f5, f6, f7, f8, f9, f10, f11, f12, f13, f14, f15, f16, f17, f18, f19, f20, f21, f22, f23, f24, cn⟩ hS hp
      have z21 := f21 (hp 21 (by decide))
      subst z21
      have y0 := f23.1 hS
      subst y0
      conv => whnf
      exact J63.mk (S := fun j => S j || Nat.beq j 23) x6 x7 x8 x9 x10 x11 x12 x13 x14 x15 x16 x17 x18 x19 x20 x21 x22 x23 x24 x25 x26 (V3 (sel (ok6 a b c x y z && okS (wrapS .i64 (a + x)) (wrapS .i64 (b + y)) (wrapS .i64 (c + z))) (wrapS .i64 (a + x))) (sel (ok6 a b c x y z && okS (wrapS .i64 (a + x)) (wrapS .i64 (b + y)) (wrapS .i64 (c + z))) (wrapS .i64 (b + y))) (sel (ok6 a b c x y z && okS (wrapS .i64 (a + x)) (wrapS .i64 (b + y)) (wrapS .i64 (c + z))) (wrapS .i64 (c + z)))) x28 x5 (#[I64 (sel (ok6 a b c x y z && okS (wrapS .i64 (a + x)) (wrapS .i64 (b + y)) (wrapS .i64 (c + z))) (wrapS .i64 (a + x))), I64 (sel (ok6 a b c x y z && okS (wrapS .i64 (a + x)) (wrapS .i64 (b + y)) (wrapS .i64 (c + z))) (wrapS .i64 (b + y))), I64 (sel (ok6 a b c x y z && okS (wrapS .i64 (a + x)) (wrapS .i64 (b + y)) (wrapS .i64 (c + z))) (wrapS .i64 (c + z)))]) q news (fun h => f0 (orF rfl h))
        (fun h => f1 (orF rfl h))
        (fun h => f2 (orF rfl h))
        (fun h => f3 (orF rfl h))
        (fun h => f4 (orF rfl h))
        (fun h => f5 (orF rfl h))
        (fun h => f6 (orF rfl h))
        (fun h => f7 (orF rfl h))
        (fun h => f8 (orF rfl h))
        (fun h => f9 (orF rfl h))
        (fun h => f10 (orF rfl h))
        (fun h => f11 (orF rfl h))
        (fun h => f12 (orF rfl h))
        (fun h => f13 (orF rfl h))
        (fun h => f14 (orF rfl h))
        (fun h => f15 (orF rfl h))
        (fun h => f16 (orF rfl h))
        (fun h => f17 (orF rfl h))
        (fun h => f18 (orF rfl h))
        (fun h => f19 (orF rfl h))
        (fun h => f20 (orF rfl h))
        (fun h => f21 (orF rfl h))
        (fun h => f22 (orF rfl h))
        (⟨fun h => (noT (Bool.or_true _) h).elim, fun _ => rfl⟩)
        (fun h => f24 (orF rfl h))
        (by rw [cn]; simp only [Nat.beq, Bool.or_false])
    conv => whnf
    refine ⟨?_, ?_⟩
    · rintro S s ⟨x6, x7, x8, x9, x10, x11, x12, x13, x14, x15, x16, x17, x18, x19, x20, x21, x22, x23, x24, x25, x26, x27, x28, x5, y2, q, news, f0, f1, f2, f3, f4, f5, f6, f7, f8, f9, f10, f11, f12, f13, f14, f15, f16, f17, f18, f19, f20, f21, f22, f23, f24, cn⟩ hS hp
      have z22 := f22 (hp 22 (by decide))
      subst z22
      conv => whnf
      exact J63.mk (S := fun j => S j || Nat.beq j 24) x6 x7 x8 x9 x10 x11 x12 x13 x14 x15 x16 x17 x18 x19 x20 x21 x22 x23 x24 x25 x26 x27 (I64 (err (ok6 a b c x y z && okS (wrapS .i64 (a + x)) (wrapS .i64 (b + y)) (wrapS .i64 (c + z))))) (I64 (err (ok6 a b c x y z && okS (wrapS .i64 (a + x)) (wrapS .i64 (b + y)) (wrapS .i64 (c + z))))) y2 q news (fun h => f0 (orF rfl h))
        (fun h => f1 (orF rfl h))
        (fun h => f2 (orF rfl h))
        (fun h => f3 (orF rfl h))
        (fun h => f4 (orF rfl h))
        (fun h => f5 (orF rfl h))
        (fun h => f6 (orF rfl h))
        (fun h => f7 (orF rfl h))
        (fun h => f8 (orF rfl h))
        (fun h => f9 (orF rfl h))
        (fun h => f10 (orF rfl h))
        (fun h => f11 (orF rfl h))
        (fun h => f12 (orF rfl h))
        (fun h => f13 (orF rfl h))
        (fun h => f14 (orF rfl h))
        (fun h => f15 (orF rfl h))
        (fun h => f16 (orF rfl h))
        (fun h => f17 (orF rfl h))
        (fun h => f18 (orF rfl h))
        (fun h => f19 (orF rfl h))
        (fun h => f20 (orF rfl h))
        (fun h => f21 (orF rfl h))
        (fun h => f22 (orF rfl h))
        (⟨fun h => f23.1 (orN0 rfl h), fun h => f23.2 (orF rfl h)⟩)
        (fun _ => rfl)
        (by rw [cn]; simp only [Nat.beq, Bool.or_false])
    conv => whnf
    trivial
  rintro S s hall ⟨x6, x7, x8, x9, x10, x11, x12, x13, x14, x15, x16, x17, x18, x19, x20, x21, x22, x23, x24, x25, x26, x27, x28, x5, y2, q, news, f0, f1, f2, f3, f4, f5, f6, f7, f8, f9, f10, f11, f12, f13, f14, f15, f16, f17, f18, f19, f20, f21, f22, f23, f24, cn⟩ _
  have z0 := f0 (hall 0 (by decide))
  subst z0
  have z1 := f1 (hall 1 (by decide))
  subst z1
  have z2 := f2 (hall 2 (by decide))
  subst z2
  have z3 := f3 (hall 3 (by decide))
  subst z3
  have z4 := f4 (hall 4 (by decide))
  subst z4
  have z5 := f5 (hall 5 (by decide))
  subst z5
  have z6 := f6 (hall 6 (by decide))
  subst z6
  have z7 := f7 (hall 7 (by decide))
  subst z7
  have z8 := f8 (hall 8 (by decide))
  subst z8
  have z9 := f9 (hall 9 (by decide))
  subst z9
  have z10 := f10 (hall 10 (by decide))
  subst z10
  have z11 := f11 (hall 11 (by decide))
  subst z11
  have z12 := f12 (hall 12 (by decide))
  subst z12
  have z13 := f13 (hall 13 (by decide))
  subst z13
  have z14 := f14 (hall 14 (by decide))
  subst z14
  have z15 := f15 (hall 15 (by decide))
  subst z15
  have z16 := f16 (hall 16 (by decide))
  subst z16
  have z17 := f17 (hall 17 (by decide))
  subst z17
  obtain ⟨z18, hm⟩ := f18 (hall 18 (by decide))
  subst z18
  have z19 := f19 (hall 19 (by decide))
  subst z19
  have z20 := f20 (hall 20 (by decide))
  subst z20
  have z21 := f21 (hall 21 (by decide))
  subst z21
  have z22 := f22 (hall 22 (by decide))
  subst z22
  have z23 := f23.2 (hall 23 (by decide))
  subst z23
  have z24 := f24 (hall 24 (by decide))
  subst z24
  rw [show S 18 = true from hall 18 (by decide)] at cn
  obtain ⟨nb, hnb⟩ := List.length_eq_one_iff.1 cn
  subst hnb
  obtain rfl : q = 0 := by have := (List.getElem?_eq_some_iff.1 hm).1; simp at this; exact this
  cases hm
  refine ⟨tq 3 [0], ⟨[[V3 a b c, V3 x y z, ptr 0 0, ptr 1 0, ptr 2 0, I64 (err (ok6 a b c x y z && okS (wrapS .i64 (a + x)) (wrapS .i64 (b + y)) (wrapS .i64 (c + z)))), ptr 0 0, I64 a, ptr 1 0, I64 x, I64 (wrapS .i64 (a + x)), ptr 0 1, I64 b, ptr 1 1, I64 y, I64 (wrapS .i64 (b + y))],
      [ptr 0 2, I64 c, ptr 1 2, I64 z, I64 (wrapS .i64 (c + z)), V3 (wrapS .i64 (a + x)) (wrapS .i64 (b + y)) (wrapS .i64 (c + z)), V3 a b c, V3 x y z, slc (3) 0 2 2, .bool (ok6 a b c x y z), .tuple #[V3 (sel (ok6 a b c x y z && okS (wrapS .i64 (a + x)) (wrapS .i64 (b + y)) (wrapS .i64 (c + z))) (wrapS .i64 (a + x))) (sel (ok6 a b c x y z && okS (wrapS .i64 (a + x)) (wrapS .i64 (b + y)) (wrapS .i64 (c + z))) (wrapS .i64 (b + y))) (sel (ok6 a b c x y z && okS (wrapS .i64 (a + x)) (wrapS .i64 (b + y)) (wrapS .i64 (c + z))) (wrapS .i64 (c + z))), I64 (err (ok6 a b c x y z && okS (wrapS .i64 (a + x)) (wrapS .i64 (b + y)) (wrapS .i64 (c + z))))], V3 (sel (ok6 a b c x y z && okS (wrapS .i64 (a + x)) (wrapS .i64 (b + y)) (wrapS .i64 (c + z))) (wrapS .i64 (a + x))) (sel (ok6 a b c x y z && okS (wrapS .i64 (a + x)) (wrapS .i64 (b + y)) (wrapS .i64 (c + z))) (wrapS .i64 (b + y))) (sel (ok6 a b c x y z && okS (wrapS .i64 (a + x)) (wrapS .i64 (b + y)) (wrapS .i64 (c + z))) (wrapS .i64 (c + z))), I64 (err (ok6 a b c x y z && okS (wrapS .i64 (a + x)) (wrapS .i64 (b + y)) (wrapS .i64 (c + z))))]],
    [.cells #[I64 a, I64 b, I64 c] 59, .cells #[I64 x, I64 y, I64 z] 59, .cells #[I64 (sel (ok6 a b c x y z && okS (wrapS .i64 (a + x)) (wrapS .i64 (b + y)) (wrapS .i64 (c + z))) (wrapS .i64 (a + x))), I64 (sel (ok6 a b c x y z && okS (wrapS .i64 (a + x)) (wrapS .i64 (b + y)) (wrapS .i64 (c + z))) (wrapS .i64 (b + y))), I64 (sel (ok6 a b c x y z && okS (wrapS .i64 (a + x)) (wrapS .i64 (b + y)) (wrapS .i64 (c + z))) (wrapS .i64 (c + z)))] 59, .cells #[I64 a, I64 b, I64 c, I64 x, I64 y, I64 z] 59], []⟩, ?_, ?_⟩
  · refine ren_list2 (base := [.cells #[I64 a, I64 b, I64 c] 59, .cells #[I64 x, I64 y, I64 z] 59, .cells #[I64 (sel (ok6 a b c x y z && okS (wrapS .i64 (a + x)) (wrapS .i64 (b + y)) (wrapS .i64 (c + z))) (wrapS .i64 (a + x))), I64 (sel (ok6 a b c x y z && okS (wrapS .i64 (a + x)) (wrapS .i64 (b + y)) (wrapS .i64 (c + z))) (wrapS .i64 (b + y))), I64 (sel (ok6 a b c x y z && okS (wrapS .i64 (a + x)) (wrapS .i64 (b + y)) (wrapS .i64 (c + z))) (wrapS .i64 (c + z)))] 59]) (us := [.cells #[I64 a, I64 b, I64 c, I64 x, I64 y, I64 z] 59]) (Nat.le_refl _) rfl (by simp) ?_ ?_ ?_ (by simp [r3, r2, r1, r0, rA, tq, Nat.blt, undef]) (by simp [isMark, scop3, scop2, scop1, scop0, scopA, undef])
    · intro j o hj
      match j, hj with
      | 0, hj => cases hj; rw [rO_cl (fun u hu => List.all_eq_true.1 (by rfl : ([I64 a, I64 b, I64 c, I64 x, I64 y, I64 z] : List Value).all cleanV = true) u hu)]; rfl
      | j + 1, hj => simp at hj
    · intro o ho v hv
      refine scop1_ok (List.all_eq_true.1 (List.all_eq_true.1 (by rfl : ([.cells #[I64 a, I64 b, I64 c, I64 x, I64 y, I64 z] 59] : List Obj).all (fun o => (cellsOf o).all (scop1 4)) = true) o ho) v hv)
    · intro o ho v hv
      refine scop1_ok (List.all_eq_true.1 (List.all_eq_true.1 (by rfl : ([.cells #[I64 a, I64 b, I64 c] 59, .cells #[I64 x, I64 y, I64 z] 59, .cells #[I64 (sel (ok6 a b c x y z && okS (wrapS .i64 (a + x)) (wrapS .i64 (b + y)) (wrapS .i64 (c + z))) (wrapS .i64 (a + x))), I64 (sel (ok6 a b c x y z && okS (wrapS .i64 (a + x)) (wrapS .i64 (b + y)) (wrapS .i64 (c + z))) (wrapS .i64 (b + y))), I64 (sel (ok6 a b c x y z && okS (wrapS .i64 (a + x)) (wrapS .i64 (b + y)) (wrapS .i64 (c + z))) (wrapS .i64 (c + z)))] 59] : List Obj).all (fun o => (cellsOf o).all (scop1 3)) = true) o ho) v hv)
  conv => whnf
  refine ⟨rfl, fin_turnedK rfl ?_⟩
  conv => whnf
  exact ⟨rfl, rfl⟩
end Go.Proofs.YtjpjnjidchdlbaaDoor
