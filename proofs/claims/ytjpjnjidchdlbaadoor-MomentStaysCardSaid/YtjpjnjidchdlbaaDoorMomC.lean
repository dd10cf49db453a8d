/-
  conf.Why, conf.Check: whether a configuration may be (no condition).
-/
import Derived.Test.YtjpjnjidchdlbaaDoorMomB
namespace Go.Proofs.YtjpjnjidchdlbaaDoor
set_option linter.unusedSimpArgs false
set_option linter.unusedVariables false
open Go
set_option maxRecDepth 100000
set_option maxHeartbeats 4000000
def okConf (n : Int) (l : List Int) (g b tp nr me : Int) : Bool := win n 1 4 && (!l.any badM && (win g 1 1048576 && (win b 1 1048576 && (win tp 1 65536 && (win nr 1 (wrapS .i64 (2 * b)) && win me 0 4)))))
def WhyIs (ok : Bool) (v : Value) : Prop := (ok = true ∧ v = .string ByteArray.empty) ∨ (ok = false ∧ ∃ a l, v = .string ⟨⟨a :: l⟩⟩)
theorem str_eq : (!(ByteArray.empty.toList == ({ data := #[] } : ByteArray).toList)) = false := by
  show (!((⟨([] : List UInt8).toArray⟩ : ByteArray).toList == (⟨([] : List UInt8).toArray⟩ : ByteArray).toList)) = false
  rw [toList_mk]
  rfl
theorem str_ne (a : UInt8) (l : List UInt8) : (!(({ data := ⟨a :: l⟩ } : ByteArray).toList == ({ data := #[] } : ByteArray).toList)) = true := by
  show (!((⟨(a :: l).toArray⟩ : ByteArray).toList == (⟨([] : List UInt8).toArray⟩ : ByteArray).toList)) = true
  rw [toList_mk, toList_mk]
  rfl
theorem has70 : Has Tryd.prog 70 Tryd.f70 := ⟨Tryd.func70, by kernel_rfl, by kernel_rfl⟩
theorem has59 : Has Tryd.prog 59 Tryd.f59 := ⟨Tryd.func59, by kernel_rfl, by kernel_rfl⟩
theorem cold_r (c0 : Array Value) (t0 : TypeId) (off l cap : Nat) (g b tp nr me : Int) (news : List Obj) : ∀ (i : Nat) (o : Obj), [Obj.pending c0 t0, .cells (confC (slc 0 off l cap) g b tp nr me) 39 (1, 0)][i]? = some o →
    hot o = false ∧ (∀ v ∈ cellsOf o, s1 2 v) ∧ ∃ o', (Obj.pending c0 t0 :: .cells (confC (slc 0 off l cap) g b tp nr me) 39 :: .cells (confC (slc 0 off l cap) g b tp nr me) 39 :: news)[[0, 2].getD i 0]? = some o' ∧
      ObjLe (rO (nu 2 (Obj.pending c0 t0 :: .cells (confC (slc 0 off l cap) g b tp nr me) 39 :: .cells (confC (slc 0 off l cap) g b tp nr me) 39 :: news).length [0, 2]) o) o' := by
  intro i o hi
  match i, hi with
  | 0, hi => cases hi; exact ⟨rfl, fun v hv => by simp [cellsOf] at hv, _, rfl, .inl rfl⟩
  | 1, hi =>
    cases hi
    refine ⟨rfl, fun v hv => ?_, _, rfl, .inr (.inl ⟨_, _, _, (0, 0), rfl, by decide, ?_⟩)⟩
    · simp [cellsOf] at hv
      rcases hv with rfl | rfl | rfl | rfl | rfl | rfl <;> first | trivial | (intro s hs; exact (by decide : 0 < 2))
    · simp [r1, r0, rA, nu]
  | i + 2, hi => simp at hi
theorem cold_n (g b tp nr me : Int) (news : List Obj) : ∀ (i : Nat) (o : Obj), [Obj.cells (confC (.slice none 0 0) g b tp nr me) 39 (1, 0)][i]? = some o →
    hot o = false ∧ (∀ v ∈ cellsOf o, s1 1 v) ∧ ∃ o', (Obj.cells (confC (.slice none 0 0) g b tp nr me) 39 :: .cells (confC (.slice none 0 0) g b tp nr me) 39 :: news)[[1].getD i 0]? = some o' ∧
      ObjLe (rO (nu 1 (Obj.cells (confC (.slice none 0 0) g b tp nr me) 39 :: .cells (confC (.slice none 0 0) g b tp nr me) 39 :: news).length [1]) o) o' := by
  intro i o hi
  match i, hi with
  | 0, hi =>
    cases hi
    refine ⟨rfl, fun v hv => ?_, _, rfl, .inr (.inl ⟨_, _, _, (0, 0), rfl, by decide, ?_⟩)⟩
    · simp [cellsOf] at hv
      rcases hv with rfl | rfl | rfl | rfl | rfl | rfl <;> trivial
    · simp [r1, r0]
  | i + 1, hi => simp at hi
theorem Why_r (tt : TypeId) (c0 : Array Value) (t0 : TypeId) (off cap : Nat) (l : List Int) (hw : WinI c0 off l) (hl : l.length ≤ 1000000000000) (g b tp nr me : Int) :
    AC Tryd.prog (GM tt) 70 [.agg (confC (slc 0 off l.length cap) g b tp nr me)] [.pending c0 t0] (fun v h => WhyIs (okConf (l.length : Int) l g b tp nr me) v ∧ h = [.pending c0 t0]) := by
  refine ac_of_body tabOk has70 ?_
  unfold BodyOk
  conv => whnf
  refine ac_mono (musts_r tt c0 t0 off l.length cap g b tp nr me) ?_
  rintro v h' ⟨p, news, es, c, f, rfl, rfl, hm, hf, ⟨v0, l0, k0⟩, ⟨v1, l1, k1⟩, ⟨v2, l2, k2⟩, ⟨v3, l3, k3⟩, ⟨v4, l4, k4⟩, ⟨v5, l5, k5⟩, ⟨v6, l6, k6⟩⟩
  have hm2 : ((.pending c0 t0) :: (.cells (confC (slc 0 off l.length cap) g b tp nr me) 39) :: (.cells (confC (slc 0 off l.length cap) g b tp nr me) 39) :: news)[p + 3]? = some (.map es c) := hm
  conv => whnf
  refine aw_rounds tabOk 8 ?_
  conv => whnf
  obtain ⟨q0, rfl, q0a, q0b⟩ := k0
  refine ao_lookup tabOk rfl (m := p + 3) (q := ⟨#[98, 111, 100, 105, 101, 115]⟩) (v := (.func (.func 87) #[] #[ptr q0 0, ptr (q0 + 1) 0])) (by conv => whnf) (by conv => whnf) (i := ti99) (j := ti9) (k := 9) (e := 24) rfl rfl rfl rfl rfl rfl (es := es) (n := c) hm2 hf l0 ?_
  conv => whnf
  refine ac_read [q0, q0 + 1] (number_c (GM tt) (l.length : Int) 4) (by simp [r3, r2, r1, r0, rA, nu]) rfl ⟨⟨by decide, rfl, _, q0a⟩, ⟨by decide, rfl, _, q0b⟩, trivial⟩ ?_
  rintro v h' ⟨rfl, rfl⟩
  refine ⟨rfl, rfl, ?_⟩
  conv => whnf
  refine ways (fun b0 => ?_) (fun b0 => ?_) <;> conv => whnf
  · refine ⟨rfl, fin_turnedK rfl ?_⟩
    conv => whnf
    refine ⟨.inr ⟨?_, _, _, rfl⟩, rfl⟩
    rw [Bool.not_eq_true'] at b0
    unfold okConf
    simp only [b0, Bool.false_and, Bool.and_false]
  rw [Bool.not_eq_false'] at b0
  subst k1
  refine ao_lookup tabOk rfl (m := p + 3) (q := ⟨#[109, 97, 115, 115]⟩) (v := (.func (.func 89) #[] #[ptr 2 0])) (by conv => whnf) (by conv => whnf) (i := ti99) (j := ti9) (k := 9) (e := 24) rfl rfl rfl rfl rfl rfl (es := es) (n := c) hm2 hf l1 ?_
  conv => whnf
  refine ac_readF [0, 2] (masses_r (GM tt) c0 t0 off cap l hw hl g b tp nr me) (by simp [r3, r2, r1, r0, rA, nu]) rfl (cold_r c0 t0 off l.length cap g b tp nr me news) ?_
  rintro v h' ⟨rfl, rfl⟩
  refine ⟨rfl, rfl, ?_⟩
  conv => whnf
  refine ways (fun b1 => ?_) (fun b1 => ?_) <;> conv => whnf
  · refine ⟨rfl, fin_turnedK rfl ?_⟩
    conv => whnf
    refine ⟨.inr ⟨?_, _, _, rfl⟩, rfl⟩
    rw [Bool.not_eq_true'] at b1
    unfold okConf
    simp only [b1, Bool.false_and, Bool.and_false]
  rw [Bool.not_eq_false'] at b1
  obtain ⟨q2, rfl, q2a, q2b⟩ := k2
  refine ao_lookup tabOk rfl (m := p + 3) (q := ⟨#[99, 111, 110, 115, 116, 97, 110, 116]⟩) (v := (.func (.func 87) #[] #[ptr q2 0, ptr (q2 + 1) 0])) (by conv => whnf) (by conv => whnf) (i := ti99) (j := ti9) (k := 9) (e := 24) rfl rfl rfl rfl rfl rfl (es := es) (n := c) hm2 hf l2 ?_
  conv => whnf
  refine ac_read [q2, q2 + 1] (number_c (GM tt) g 1048576) (by simp [r3, r2, r1, r0, rA, nu]) rfl ⟨⟨by decide, rfl, _, q2a⟩, ⟨by decide, rfl, _, q2b⟩, trivial⟩ ?_
  rintro v h' ⟨rfl, rfl⟩
  refine ⟨rfl, rfl, ?_⟩
  conv => whnf
  refine ways (fun b2 => ?_) (fun b2 => ?_) <;> conv => whnf
  · refine ⟨rfl, fin_turnedK rfl ?_⟩
    conv => whnf
    refine ⟨.inr ⟨?_, _, _, rfl⟩, rfl⟩
    rw [Bool.not_eq_true'] at b2
    unfold okConf
    simp only [b2, Bool.false_and, Bool.and_false]
  rw [Bool.not_eq_false'] at b2
  obtain ⟨q3, rfl, q3a, q3b⟩ := k3
  refine ao_lookup tabOk rfl (m := p + 3) (q := ⟨#[98, 111, 120]⟩) (v := (.func (.func 87) #[] #[ptr q3 0, ptr (q3 + 1) 0])) (by conv => whnf) (by conv => whnf) (i := ti99) (j := ti9) (k := 9) (e := 24) rfl rfl rfl rfl rfl rfl (es := es) (n := c) hm2 hf l3 ?_
  conv => whnf
  refine ac_read [q3, q3 + 1] (number_c (GM tt) b 1048576) (by simp [r3, r2, r1, r0, rA, nu]) rfl ⟨⟨by decide, rfl, _, q3a⟩, ⟨by decide, rfl, _, q3b⟩, trivial⟩ ?_
  rintro v h' ⟨rfl, rfl⟩
  refine ⟨rfl, rfl, ?_⟩
  conv => whnf
  refine ways (fun b3 => ?_) (fun b3 => ?_) <;> conv => whnf
  · refine ⟨rfl, fin_turnedK rfl ?_⟩
    conv => whnf
    refine ⟨.inr ⟨?_, _, _, rfl⟩, rfl⟩
    rw [Bool.not_eq_true'] at b3
    unfold okConf
    simp only [b3, Bool.false_and, Bool.and_false]
  rw [Bool.not_eq_false'] at b3
  obtain ⟨q4, rfl, q4a, q4b⟩ := k4
  refine ao_lookup tabOk rfl (m := p + 3) (q := ⟨#[116, 111, 112]⟩) (v := (.func (.func 87) #[] #[ptr q4 0, ptr (q4 + 1) 0])) (by conv => whnf) (by conv => whnf) (i := ti99) (j := ti9) (k := 9) (e := 24) rfl rfl rfl rfl rfl rfl (es := es) (n := c) hm2 hf l4 ?_
  conv => whnf
  refine ac_read [q4, q4 + 1] (number_c (GM tt) tp 65536) (by simp [r3, r2, r1, r0, rA, nu]) rfl ⟨⟨by decide, rfl, _, q4a⟩, ⟨by decide, rfl, _, q4b⟩, trivial⟩ ?_
  rintro v h' ⟨rfl, rfl⟩
  refine ⟨rfl, rfl, ?_⟩
  conv => whnf
  refine ways (fun b4 => ?_) (fun b4 => ?_) <;> conv => whnf
  · refine ⟨rfl, fin_turnedK rfl ?_⟩
    conv => whnf
    refine ⟨.inr ⟨?_, _, _, rfl⟩, rfl⟩
    rw [Bool.not_eq_true'] at b4
    unfold okConf
    simp only [b4, Bool.false_and, Bool.and_false]
  rw [Bool.not_eq_false'] at b4
  obtain ⟨q5, rfl, q5a, q5b⟩ := k5
  refine ao_lookup tabOk rfl (m := p + 3) (q := ⟨#[110, 101, 97, 114]⟩) (v := (.func (.func 87) #[] #[ptr q5 0, ptr (q5 + 1) 0])) (by conv => whnf) (by conv => whnf) (i := ti99) (j := ti9) (k := 9) (e := 24) rfl rfl rfl rfl rfl rfl (es := es) (n := c) hm2 hf l5 ?_
  conv => whnf
  refine ac_read [q5, q5 + 1] (number_c (GM tt) nr (wrapS .i64 (2 * b))) (by simp [r3, r2, r1, r0, rA, nu]) rfl ⟨⟨by decide, rfl, _, q5a⟩, ⟨by decide, rfl, _, q5b⟩, trivial⟩ ?_
  rintro v h' ⟨rfl, rfl⟩
  refine ⟨rfl, rfl, ?_⟩
  conv => whnf
  refine ways (fun b5 => ?_) (fun b5 => ?_) <;> conv => whnf
  · refine ⟨rfl, fin_turnedK rfl ?_⟩
    conv => whnf
    refine ⟨.inr ⟨?_, _, _, rfl⟩, rfl⟩
    rw [Bool.not_eq_true'] at b5
    unfold okConf
    simp only [b5, Bool.false_and, Bool.and_false]
  rw [Bool.not_eq_false'] at b5
  subst k6
  refine ao_lookup tabOk rfl (m := p + 3) (q := ⟨#[109, 101, 116, 104, 111, 100]⟩) (v := (.func (.func 92) #[] #[ptr 2 0])) (by conv => whnf) (by conv => whnf) (i := ti99) (j := ti9) (k := 9) (e := 24) rfl rfl rfl rfl rfl rfl (es := es) (n := c) hm2 hf l6 ?_
  conv => whnf
  refine ac_readF [0, 2] (method_r (GM tt) c0 t0 off l.length cap g b tp nr me) (by simp [r3, r2, r1, r0, rA, nu]) rfl (cold_r c0 t0 off l.length cap g b tp nr me news) ?_
  rintro v h' ⟨rfl, rfl⟩
  refine ⟨rfl, rfl, ?_⟩
  conv => whnf
  refine ways (fun b6 => ?_) (fun b6 => ?_) <;> conv => whnf
  · refine ⟨rfl, fin_turnedK rfl ?_⟩
    conv => whnf
    refine ⟨.inr ⟨?_, _, _, rfl⟩, rfl⟩
    rw [Bool.not_eq_true'] at b6
    unfold okConf
    simp only [b6, Bool.false_and, Bool.and_false]
  rw [Bool.not_eq_false'] at b6
  refine ⟨rfl, fin_turnedK rfl ?_⟩
  conv => whnf
  refine ⟨.inl ⟨?_, rfl⟩, rfl⟩
  unfold okConf
  simp only [b0, b1, b2, b3, b4, b5, b6, List.any_nil, Bool.not_false, Bool.and_self]
theorem Check_r (tt : TypeId) (c0 : Array Value) (t0 : TypeId) (off cap : Nat) (l : List Int) (hw : WinI c0 off l) (hl : l.length ≤ 1000000000000) (g b tp nr me : Int) :
    AC Tryd.prog (GM tt) 59 [.agg (confC (slc 0 off l.length cap) g b tp nr me)] [.pending c0 t0] (fun v h => v = I64 (if okConf (l.length : Int) l g b tp nr me then 0 else 110) ∧ h = [.pending c0 t0]) := by
  refine ac_of_body tabOk has59 ?_
  unfold BodyOk
  conv => whnf
  refine ac_readF [0] (Why_r tt c0 t0 off cap l hw hl g b tp nr me) (by simp [r3, r2, r1, r0, rA, nu]) rfl (by
    intro i o hi
    match i, hi with
    | 0, hi => cases hi; exact ⟨rfl, fun v hv => by simp [cellsOf] at hv, _, rfl, .inl rfl⟩
    | i + 1, hi => simp at hi) ?_
  rintro v h' ⟨⟨h1, rfl⟩ | ⟨h1, a, l, rfl⟩, rfl⟩
  · refine ⟨rfl, rfl, ?_⟩
    conv => whnf
    refine way0 str_eq ?_
    conv => whnf
    refine ⟨rfl, fin_turnedK rfl ?_⟩
    conv => whnf
    rw [h1]
    exact ⟨rfl, rfl⟩
  · refine ⟨rfl, rfl, ?_⟩
    conv => whnf
    refine way1 (str_ne a l) ?_
    conv => whnf
    refine ⟨rfl, fin_turnedK rfl ?_⟩
    conv => whnf
    rw [h1]
    exact ⟨rfl, rfl⟩
theorem Why_n (tt : TypeId)  (g b tp nr me : Int) :
    AC Tryd.prog (GM tt) 70 [.agg (confC (.slice none 0 0) g b tp nr me)] [] (fun v h => WhyIs (okConf 0 ([] : List Int) g b tp nr me) v ∧ h = []) := by
  refine ac_of_body tabOk has70 ?_
  unfold BodyOk
  conv => whnf
  refine ac_mono (musts_n tt  g b tp nr me) ?_
  rintro v h' ⟨p, news, es, c, f, rfl, rfl, hm, hf, ⟨v0, l0, k0⟩, ⟨v1, l1, k1⟩, ⟨v2, l2, k2⟩, ⟨v3, l3, k3⟩, ⟨v4, l4, k4⟩, ⟨v5, l5, k5⟩, ⟨v6, l6, k6⟩⟩
  have hm2 : ((.cells (confC (.slice none 0 0) g b tp nr me) 39) :: (.cells (confC (.slice none 0 0) g b tp nr me) 39) :: news)[p + 2]? = some (.map es c) := hm
  conv => whnf
  refine aw_rounds tabOk 8 ?_
  conv => whnf
  obtain ⟨q0, rfl, q0a, q0b⟩ := k0
  refine ao_lookup tabOk rfl (m := p + 2) (q := ⟨#[98, 111, 100, 105, 101, 115]⟩) (v := (.func (.func 87) #[] #[ptr q0 0, ptr (q0 + 1) 0])) (by conv => whnf) (by conv => whnf) (i := ti99) (j := ti9) (k := 9) (e := 24) rfl rfl rfl rfl rfl rfl (es := es) (n := c) hm2 hf l0 ?_
  conv => whnf
  refine ac_read [q0, q0 + 1] (number_c (GM tt) 0 4) (by simp [r3, r2, r1, r0, rA, nu]) rfl ⟨⟨by decide, rfl, _, q0a⟩, ⟨by decide, rfl, _, q0b⟩, trivial⟩ ?_
  rintro v h' ⟨rfl, rfl⟩
  refine ⟨rfl, rfl, ?_⟩
  conv => whnf
  refine ⟨rfl, fin_turnedK rfl ?_⟩
  conv => whnf
  exact ⟨.inr ⟨rfl, _, _, rfl⟩, rfl⟩
theorem Check_n (tt : TypeId)  (g b tp nr me : Int) :
    AC Tryd.prog (GM tt) 59 [.agg (confC (.slice none 0 0) g b tp nr me)] [] (fun v h => v = I64 (if okConf 0 ([] : List Int) g b tp nr me then 0 else 110) ∧ h = []) := by
  refine ac_of_body tabOk has59 ?_
  unfold BodyOk
  conv => whnf
  refine ac_readF [] (Why_n tt  g b tp nr me) (by simp [r3, r2, r1, r0, rA, nu]) rfl (by
    intro i o hi
    match i, hi with
    
    | i, hi => simp at hi) ?_
  rintro v h' ⟨⟨h1, rfl⟩ | ⟨h1, a, l, rfl⟩, rfl⟩
  · refine ⟨rfl, rfl, ?_⟩
    conv => whnf
    refine way0 str_eq ?_
    conv => whnf
    refine ⟨rfl, fin_turnedK rfl ?_⟩
    conv => whnf
    rw [h1]
    exact ⟨rfl, rfl⟩
  · refine ⟨rfl, rfl, ?_⟩
    conv => whnf
    refine way1 (str_ne a l) ?_
    conv => whnf
    refine ⟨rfl, fin_turnedK rfl ?_⟩
    conv => whnf
    rw [h1]
    exact ⟨rfl, rfl⟩
end Go.Proofs.YtjpjnjidchdlbaaDoor
