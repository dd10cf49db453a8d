/-
  The reference's conf: Why, Check, Great; masses alike; what is lost (no condition).
-/
import Derived.Test.YtjpjnjidchdlbaaDoorMomC
namespace Go.Proofs.YtjpjnjidchdlbaaDoor
set_option linter.unusedSimpArgs false
set_option linter.unusedVariables false
open Go
set_option maxRecDepth 100000
set_option maxHeartbeats 4000000
/-- v is a slice of the numbers l -/
def SlI (h : List Obj) (v : Value) (l : List Int) : Prop := (v = .slice none 0 0 ∧ l = []) ∨
  ∃ (m off cap : Nat) (c : Array Value) (t : TypeId), v = slc m off l.length cap ∧ (h[m]? = some (.pending c t) ∨ ((∀ x ∈ c.toList, cleanV x = true) ∧ ∃ g, h[m]? = some (.cells c t g))) ∧ WinI c off l ∧ l.length ≤ cap
theorem SlI.pre {h0 h : List Obj} {v : Value} {l : List Int} (H : SlI h0 v l) (hp : Pre h0 h) : SlI h v l := by
  rcases H with H | ⟨m, off, cap, c, t, h1, h2 | ⟨h2, g, h3⟩, h4⟩
  · exact .inl H
  · exact .inr ⟨m, off, cap, c, t, h1, .inl (hp _ _ h2 trivial), h4⟩
  · exact .inr ⟨m, off, cap, c, t, h1, .inr ⟨h2, g, hp _ _ h3 trivial⟩, h4⟩
theorem SlI.app {h : List Obj} {v : Value} {l : List Int} (H : SlI h v l) (news : List Obj) : SlI (h ++ news) v l :=
  H.pre fun b o hb _ => by rw [List.getElem?_append_left (List.getElem?_eq_some_iff.1 hb).1]; exact hb
theorem cold_p {h : List Obj} {m : Nat} {c : Array Value} {t : TypeId} (h2 : h[m]? = some (.pending c t) ∨ ((∀ x ∈ c.toList, cleanV x = true) ∧ ∃ g, h[m]? = some (.cells c t g))) :
    ∀ (i : Nat) (o : Obj), [Obj.pending c t][i]? = some o → hot o = false ∧ (∀ v ∈ cellsOf o, s1 1 v) ∧ ∃ o', h[[m].getD i 0]? = some o' ∧ ObjLe (rO (nu 1 h.length [m]) o) o' := by
  intro i o hi
  have := cold_le (h := h) (sg := [m]) (h0 := [.pending c t]) (show ColdOk h [m] [.pending c t] from ⟨h2, trivial⟩) hi
  exact this
theorem cold_0 {h : List Obj} : ∀ (i : Nat) (o : Obj), ([] : List Obj)[i]? = some o → hot o = false ∧ (∀ v ∈ cellsOf o, s1 0 v) ∧ ∃ o', h[([] : List Nat).getD i 0]? = some o' ∧ ObjLe (rO (nu 0 h.length []) o) o' := by
  intro i o hi
  simp at hi
theorem has24 : Has Tryd.prog 24 Tryd.f24 := ⟨Tryd.func24, by kernel_rfl, by kernel_rfl⟩
theorem has33 : Has Tryd.prog 33 Tryd.f33 := ⟨Tryd.func33, by kernel_rfl, by kernel_rfl⟩
theorem has34 : Has Tryd.prog 34 Tryd.f34 := ⟨Tryd.func34, by kernel_rfl, by kernel_rfl⟩
theorem has35 : Has Tryd.prog 35 Tryd.f35 := ⟨Tryd.func35, by kernel_rfl, by kernel_rfl⟩
theorem has36 : Has Tryd.prog 36 Tryd.f36 := ⟨Tryd.func36, by kernel_rfl, by kernel_rfl⟩
theorem has47 : Has Tryd.prog 47 Tryd.f47 := ⟨Tryd.func47, by kernel_rfl, by kernel_rfl⟩
theorem has54 : Has Tryd.prog 54 Tryd.f54 := ⟨Tryd.func54, by kernel_rfl, by kernel_rfl⟩
theorem has64 : Has Tryd.prog 64 Tryd.f64 := ⟨Tryd.func64, by kernel_rfl, by kernel_rfl⟩
theorem has75 : Has Tryd.prog 75 Tryd.f75 := ⟨Tryd.func75, by kernel_rfl, by kernel_rfl⟩
theorem rwithin_c (G) (n lo hi : Int) : AC Tryd.prog G 75 [I64 n, I64 lo, I64 hi] [] (fun v h => v = .bool (win n lo hi) ∧ h = []) := by
  refine ac_of_body tabOk has75 ?_
  unfold BodyOk
  conv => whnf
  unfold win
  refine ways (fun h1 => ?_) (fun h1 => ?_) <;> conv => whnf
  · refine ⟨rfl, fin_turnedK rfl ?_⟩
    conv => whnf
    exact ⟨by rw [h1]; rfl, rfl⟩
  · refine ⟨rfl, fin_turnedK rfl ?_⟩
    conv => whnf
    exact ⟨by rw [h1]; rfl, rfl⟩
theorem RWhy_r (tt : TypeId) (c0 : Array Value) (t0 : TypeId) (off cap : Nat) (l : List Int) (hw : WinI c0 off l) (hl : l.length ≤ 1000000000000) (g b tp nr me : Int) :
    AC Tryd.prog (GM tt) 64 [.agg (confC (slc 0 off l.length cap) g b tp nr me)] [.pending c0 t0] (fun v h => WhyIs (okConf (l.length : Int) l g b tp nr me) v ∧ h = [.pending c0 t0]) := by
  refine ac_of_body tabOk has64 ?_
  unfold BodyOk
  conv => whnf
  refine ac_pure (rwithin_c (GM tt) (l.length : Int) 1 4) rfl ?_
  rintro v h' ⟨rfl, rfl⟩
  refine ⟨rfl, rfl, ?_⟩
  conv => whnf
  refine ways (fun b0 => ?_) (fun b0 => ?_) <;> conv => whnf
  · refine ⟨rfl, fin_turnedK rfl ?_⟩
    conv => whnf
    refine ⟨.inr ⟨?_, _, _, rfl⟩, rfl⟩
    rw [Bool.not_eq_true'] at b0
    unfold okConf
    simp only [b0, Bool.false_and, Bool.and_false]
  rw [Bool.not_eq_false'] at b0
  refine aw_inv tabOk [[false, true, false, true, false, false, false, false, false, false, false, false, false, false, false, false], [false, false, false, false, false, false, false, false, false, false, false, false, false, false, false, false], [false, false, false, false, false, false, false, false, false, false, false, false, false, false]] (fun m s' => ∃ (i : Nat), m = l.length - i ∧ i ≤ l.length ∧ (l.take i).any badM = false ∧
    s' = ⟨[[.chan none, ptr 1 0, .chan none, I64 (i : Int), .chan none, .chan none, .chan none, .chan none, .chan none, .chan none, .chan none, .chan none, .chan none, .chan none, .chan none, .chan none],
      [.chan none, .chan none, .chan none, .chan none, .chan none, .chan none, .chan none, .chan none, .chan none, .chan none, .chan none, .chan none, .chan none, .chan none, .chan none, .chan none],
      [.chan none, .chan none, .chan none, .chan none, .chan none, .chan none, .chan none, .chan none, .chan none, .chan none, .chan none, .chan none, .chan none, .chan none]],
      [.pending c0 t0, .cells (confC (slc 0 off l.length cap) g b tp nr me) 39], []⟩) l.length ?_ ⟨0, rfl, Nat.zero_le _, rfl, rfl⟩
  rintro m s' ⟨i, rfl, hi, ha, rfl⟩
  conv => whnf
  refine ways (fun h1 => ?_) (fun h1 => ?_) <;> conv => whnf
  · have hlt : i < l.length := by have := of_decide_eq_true h1; omega
    obtain ⟨x, hx⟩ : ∃ x, l[i]? = some x := ⟨_, List.getElem?_eq_getElem hlt⟩
    have hxe : l[i] = x := (List.getElem?_eq_some_iff.1 hx).2
    refine way1 (by rw [decide_eq_true_iff]; omega) ?_
    conv => whnf
    refine nthK_of (l := c0.toList) (hw.at hx) ?_
    conv => whnf
    refine ac_pure (rwithin_c (GM tt) x 1 1024) rfl ?_
    rintro v h' ⟨rfl, rfl⟩
    refine ⟨rfl, rfl, ?_⟩
    conv => whnf
    refine ways (fun h2 => ?_) (fun h2 => ?_) <;> conv => whnf
    · refine ⟨rfl, fin_turnedK rfl ?_⟩
      conv => whnf
      refine ⟨.inr ⟨?_, _, _, rfl⟩, rfl⟩
      have h3 : l.any badM = true := List.any_eq_true.2 ⟨x, List.mem_of_getElem? hx, h2⟩
      unfold okConf
      rw [h3]
      simp only [Bool.not_true, Bool.false_and, Bool.and_false]
    · rw [show wrapS .i64 ((i : Int) + 1) = ((i + 1 : Nat) : Int) by rw [wrapI (by omega) (by omega)]; omega]
      refine ⟨l.length - (i + 1), by omega, i + 1, rfl, by omega, ?_, rfl⟩
      have h2' : badM x = false := h2
      rw [List.take_succ_eq_append_getElem hlt, List.any_append, ha, hxe]
      simp [h2']
  have hin : i = l.length := by have := of_decide_eq_false h1; omega
  subst hin
  rw [List.take_length] at ha
  refine ac_pure (rwithin_c (GM tt) g 1 1048576) rfl ?_
  rintro v h' ⟨rfl, rfl⟩
  refine ⟨rfl, rfl, ?_⟩
  conv => whnf
  refine ways (fun b1 => ?_) (fun b1 => ?_) <;> conv => whnf
  · refine ⟨rfl, fin_turnedK rfl ?_⟩
    conv => whnf
    refine ⟨.inr ⟨?_, _, _, rfl⟩, rfl⟩
    rw [Bool.not_eq_true'] at b1
    unfold okConf
    simp only [b1, Bool.false_and, Bool.and_false]
  rw [Bool.not_eq_false'] at b1
  refine ac_pure (rwithin_c (GM tt) b 1 1048576) rfl ?_
  rintro v h' ⟨rfl, rfl⟩
  refine ⟨rfl, rfl, ?_⟩
  conv => whnf
  refine ways (fun b2 => ?_) (fun b2 => ?_) <;> conv => whnf
  · refine ⟨rfl, fin_turnedK rfl ?_⟩
    conv => whnf
    refine ⟨.inr ⟨?_, _, _, rfl⟩, rfl⟩
    rw [Bool.not_eq_true'] at b2
    unfold okConf
    simp only [b2, Bool.false_and, Bool.and_false]
  rw [Bool.not_eq_false'] at b2
  refine ac_pure (rwithin_c (GM tt) tp 1 65536) rfl ?_
  rintro v h' ⟨rfl, rfl⟩
  refine ⟨rfl, rfl, ?_⟩
  conv => whnf
  refine ways (fun b3 => ?_) (fun b3 => ?_) <;> conv => whnf
  · refine ⟨rfl, fin_turnedK rfl ?_⟩
    conv => whnf
    refine ⟨.inr ⟨?_, _, _, rfl⟩, rfl⟩
    rw [Bool.not_eq_true'] at b3
    unfold okConf
    simp only [b3, Bool.false_and, Bool.and_false]
  rw [Bool.not_eq_false'] at b3
  refine ac_pure (rwithin_c (GM tt) nr 1 (wrapS .i64 (2 * b))) rfl ?_
  rintro v h' ⟨rfl, rfl⟩
  refine ⟨rfl, rfl, ?_⟩
  conv => whnf
  refine ways (fun b4 => ?_) (fun b4 => ?_) <;> conv => whnf
  · refine ⟨rfl, fin_turnedK rfl ?_⟩
    conv => whnf
    refine ⟨.inr ⟨?_, _, _, rfl⟩, rfl⟩
    rw [Bool.not_eq_true'] at b4
    unfold okConf
    simp only [b4, Bool.false_and, Bool.and_false]
  rw [Bool.not_eq_false'] at b4
  refine ac_pure (rwithin_c (GM tt) me 0 4) rfl ?_
  rintro v h' ⟨rfl, rfl⟩
  refine ⟨rfl, rfl, ?_⟩
  conv => whnf
  refine ways (fun b5 => ?_) (fun b5 => ?_) <;> conv => whnf
  · refine ⟨rfl, fin_turnedK rfl ?_⟩
    conv => whnf
    refine ⟨.inr ⟨?_, _, _, rfl⟩, rfl⟩
    rw [Bool.not_eq_true'] at b5
    unfold okConf
    simp only [b5, Bool.false_and, Bool.and_false]
  rw [Bool.not_eq_false'] at b5
  refine ⟨rfl, fin_turnedK rfl ?_⟩
  conv => whnf
  refine ⟨.inl ⟨?_, rfl⟩, rfl⟩
  unfold okConf
  simp only [ha, b0, b1, b2, b3, b4, b5, Bool.not_false, Bool.and_self]
theorem RCheck_r (tt : TypeId) (c0 : Array Value) (t0 : TypeId) (off cap : Nat) (l : List Int) (hw : WinI c0 off l) (hl : l.length ≤ 1000000000000) (g b tp nr me : Int) :
    AC Tryd.prog (GM tt) 47 [.agg (confC (slc 0 off l.length cap) g b tp nr me)] [.pending c0 t0] (fun v h => v = I64 (if okConf (l.length : Int) l g b tp nr me then 0 else 110) ∧ h = [.pending c0 t0]) := by
  refine ac_of_body tabOk has47 ?_
  unfold BodyOk
  conv => whnf
  refine ac_readF [0] (RWhy_r tt c0 t0 off cap l hw hl g b tp nr me) (by simp [r3, r2, r1, r0, rA, nu]) rfl (cold_p (.inl rfl)) ?_
  rintro v h' ⟨⟨h1, rfl⟩ | ⟨h1, a, l, rfl⟩, rfl⟩
  · refine ⟨rfl, rfl, ?_⟩
    conv => whnf
    refine way0 str_eq ?_
    conv => whnf
    refine ⟨rfl, fin_turnedK rfl ?_⟩
    conv => whnf
    rw [h1]
    exact ⟨rfl, rfl⟩
  · refine ⟨rfl, rfl, ?_⟩
    conv => whnf
    refine way1 (str_ne a l) ?_
    conv => whnf
    refine ⟨rfl, fin_turnedK rfl ?_⟩
    conv => whnf
    rw [h1]
    exact ⟨rfl, rfl⟩
theorem Great_r (tt : TypeId) (c0 : Array Value) (t0 : TypeId) (off cap : Nat) (l : List Int) (hw : WinI c0 off l) (hl : l.length ≤ 1000000000000) (g b tp nr me : Int) :
    AC Tryd.prog (GM tt) 24 [.agg (confC (slc 0 off l.length cap) g b tp nr me)] [.pending c0 t0] (fun v h => v = .bool (decide ((l.length : Int) > 60)) ∧ h = [.pending c0 t0]) := by
  refine ac_of_body tabOk has24 ?_
  unfold BodyOk
  conv => whnf
  refine ⟨rfl, fin_turnedK rfl ?_⟩
  conv => whnf
  exact ⟨rfl, rfl⟩
theorem RWhy_n (tt : TypeId)  (g b tp nr me : Int) :
    AC Tryd.prog (GM tt) 64 [.agg (confC (.slice none 0 0) g b tp nr me)] [] (fun v h => WhyIs (okConf 0 ([] : List Int) g b tp nr me) v ∧ h = []) := by
  refine ac_of_body tabOk has64 ?_
  unfold BodyOk
  conv => whnf
  refine ac_pure (rwithin_c (GM tt) 0 1 4) rfl ?_
  rintro v h' ⟨rfl, rfl⟩
  refine ⟨rfl, rfl, ?_⟩
  conv => whnf
  refine ⟨rfl, fin_turnedK rfl ?_⟩
  conv => whnf
  exact ⟨.inr ⟨rfl, _, _, rfl⟩, rfl⟩
theorem RCheck_n (tt : TypeId)  (g b tp nr me : Int) :
    AC Tryd.prog (GM tt) 47 [.agg (confC (.slice none 0 0) g b tp nr me)] [] (fun v h => v = I64 (if okConf 0 ([] : List Int) g b tp nr me then 0 else 110) ∧ h = []) := by
  refine ac_of_body tabOk has47 ?_
  unfold BodyOk
  conv => whnf
  refine ac_readF [] (RWhy_n tt  g b tp nr me) (by simp [r3, r2, r1, r0, rA, nu]) rfl cold_0 ?_
  rintro v h' ⟨⟨h1, rfl⟩ | ⟨h1, a, l, rfl⟩, rfl⟩
  · refine ⟨rfl, rfl, ?_⟩
    conv => whnf
    refine way0 str_eq ?_
    conv => whnf
    refine ⟨rfl, fin_turnedK rfl ?_⟩
    conv => whnf
    rw [h1]
    exact ⟨rfl, rfl⟩
  · refine ⟨rfl, rfl, ?_⟩
    conv => whnf
    refine way1 (str_ne a l) ?_
    conv => whnf
    refine ⟨rfl, fin_turnedK rfl ?_⟩
    conv => whnf
    rw [h1]
    exact ⟨rfl, rfl⟩
theorem Great_n (tt : TypeId)  (g b tp nr me : Int) :
    AC Tryd.prog (GM tt) 24 [.agg (confC (.slice none 0 0) g b tp nr me)] [] (fun v h => v = .bool (decide (0 > 60)) ∧ h = []) := by
  refine ac_of_body tabOk has24 ?_
  unfold BodyOk
  conv => whnf
  refine ⟨rfl, fin_turnedK rfl ?_⟩
  conv => whnf
  exact ⟨rfl, rfl⟩
theorem Check_s (tt : TypeId) {h : List Obj} {ms : Value} {l : List Int} (hs : SlI h ms l) (hl : l.length ≤ 1000000000000) (g b tp nr me : Int) :
    AC Tryd.prog (GM tt) 59 [.agg (confC ms g b tp nr me)] h (fun v h' => v = I64 (if okConf (l.length : Int) l g b tp nr me then 0 else 110) ∧ h' = h) := by
  rcases hs with ⟨rfl, rfl⟩ | ⟨m, off, cap, c, t, rfl, h2, h4, h5⟩
  · refine ac_readF [] (Check_n tt g b tp nr me) (by simp [r3, r2, r1, r0]) rfl cold_0 ?_
    rintro v h' ⟨rfl, rfl⟩
    exact ⟨rfl, rfl, rfl, rfl⟩
  · refine ac_readF [m] (Check_r tt c t off cap l h4 hl g b tp nr me) (by simp [r3, r2, r1, r0, rA, nu]) rfl (cold_p h2) ?_
    rintro v h' ⟨rfl, rfl⟩
    exact ⟨rfl, rfl, rfl, rfl⟩
theorem RCheck_s (tt : TypeId) {h : List Obj} {ms : Value} {l : List Int} (hs : SlI h ms l) (hl : l.length ≤ 1000000000000) (g b tp nr me : Int) :
    AC Tryd.prog (GM tt) 47 [.agg (confC ms g b tp nr me)] h (fun v h' => v = I64 (if okConf (l.length : Int) l g b tp nr me then 0 else 110) ∧ h' = h) := by
  rcases hs with ⟨rfl, rfl⟩ | ⟨m, off, cap, c, t, rfl, h2, h4, h5⟩
  · refine ac_readF [] (RCheck_n tt g b tp nr me) (by simp [r3, r2, r1, r0]) rfl cold_0 ?_
    rintro v h' ⟨rfl, rfl⟩
    exact ⟨rfl, rfl, rfl, rfl⟩
  · refine ac_readF [m] (RCheck_r tt c t off cap l h4 hl g b tp nr me) (by simp [r3, r2, r1, r0, rA, nu]) rfl (cold_p h2) ?_
    rintro v h' ⟨rfl, rfl⟩
    exact ⟨rfl, rfl, rfl, rfl⟩
theorem Great_s (tt : TypeId) {h : List Obj} {ms : Value} {l : List Int} (hs : SlI h ms l) (hl : l.length ≤ 1000000000000) (g b tp nr me : Int) :
    AC Tryd.prog (GM tt) 24 [.agg (confC ms g b tp nr me)] h (fun v h' => v = .bool (decide ((l.length : Int) > 60)) ∧ h' = h) := by
  rcases hs with ⟨rfl, rfl⟩ | ⟨m, off, cap, c, t, rfl, h2, h4, h5⟩
  · refine ac_readF [] (Great_n tt g b tp nr me) (by simp [r3, r2, r1, r0]) rfl cold_0 ?_
    rintro v h' ⟨rfl, rfl⟩
    exact ⟨rfl, rfl, rfl, rfl⟩
  · refine ac_readF [m] (Great_r tt c t off cap l h4 hl g b tp nr me) (by simp [r3, r2, r1, r0, rA, nu]) rfl (cold_p h2) ?_
    rintro v h' ⟨rfl, rfl⟩
    exact ⟨rfl, rfl, rfl, rfl⟩
theorem GreatU_r (tt : TypeId) (c0 : Array Value) (t0 : TypeId) (off cap l : Nat) (g b tp nr me : Int) :
    AC Tryd.prog (GM tt) 24 [.agg (confC (slc 0 off l cap) g b tp nr me)] [.pending c0 t0] (fun v h => v = .bool (decide ((l : Int) > 60)) ∧ h = [.pending c0 t0]) := by
  refine ac_of_body tabOk has24 ?_
  unfold BodyOk
  conv => whnf
  refine ⟨rfl, fin_turnedK rfl ?_⟩
  conv => whnf
  exact ⟨rfl, rfl⟩
/-- are all masses the first one? -/
def alikeF (l : List Int) : Bool := l.all fun x => x == l.headD 0
theorem okConf_len {n : Int} {l : List Int} {g b tp nr me : Int} (h : okConf n l g b tp nr me = true) : 1 ≤ n ∧ n ≤ 4 := by
  unfold okConf win at h
  simp only [Bool.and_eq_true, decide_eq_true_eq] at h
  exact ⟨h.1.1, h.1.2⟩
theorem chk_ne (b : Bool) : (((if b = true then 0 else 110 : Int)) != 0) = !b := by cases b <;> rfl
theorem Alike_r (tt : TypeId) (c0 : Array Value) (t0 : TypeId) (off cap : Nat) (l : List Int) (hw : WinI c0 off l) (hl : l.length ≤ 1000000000000) (g b tp nr me : Int) :
    AC Tryd.prog (GM tt) 35 [.agg (confC (slc 0 off l.length cap) g b tp nr me)] [.pending c0 t0] (fun v h => v = .bool (okConf (l.length : Int) l g b tp nr me && alikeF l) ∧ h = [.pending c0 t0]) := by
  refine ac_of_body tabOk has35 ?_
  unfold BodyOk
  conv => whnf
  refine ac_readF [0] (Check_r tt c0 t0 off cap l hw hl g b tp nr me) (by simp [r3, r2, r1, r0, rA, nu]) rfl (cold_p (.inl rfl)) ?_
  rintro v h' ⟨rfl, rfl⟩
  refine ⟨rfl, rfl, ?_⟩
  conv => whnf
  rw [chk_ne]
  refine ways (fun b0 => ?_) (fun b0 => ?_) <;> conv => whnf
  · refine ⟨rfl, fin_turnedK rfl ?_⟩
    conv => whnf
    rw [Bool.not_eq_true'] at b0
    exact ⟨by rw [b0]; rfl, rfl⟩
  rw [Bool.not_eq_false'] at b0
  obtain ⟨hn1, hn4⟩ := okConf_len b0
  obtain ⟨y, hy⟩ : ∃ y, l[0]? = some y := ⟨_, List.getElem?_eq_getElem (by omega)⟩
  have hhd : l.headD 0 = y := by cases l with | nil => simp at hy | cons a t => simpa using hy
  refine aw_inv tabOk [[false, true, false, false, false, false, false, false, false, true, true, true, false, false, false, false], [false, false, false, false, false, false, false, false]] (fun m s' => ∃ (i : Nat), m = l.length - i ∧ i ≤ l.length ∧ (l.take i).all (fun x => x == y) = true ∧
    s' = ⟨[[.chan none, ptr 1 0, .chan none, .chan none, .chan none, .chan none, .chan none, .chan none, .chan none, (slc 0 off l.length cap), I64 (l.length : Int), I64 (i : Int), .chan none, .chan none, .chan none, .chan none],
      [.chan none, .chan none, .chan none, .chan none, .chan none, .chan none, .chan none, .chan none]],
      [.pending c0 t0, .cells (confC (slc 0 off l.length cap) g b tp nr me) 39], []⟩) l.length ?_ ⟨0, rfl, Nat.zero_le _, rfl, rfl⟩
  rintro m s' ⟨i, rfl, hi, ha, rfl⟩
  conv => whnf
  refine ways (fun h1 => ?_) (fun h1 => ?_) <;> conv => whnf
  · have hlt : i < l.length := by have := of_decide_eq_true h1; omega
    obtain ⟨x, hx⟩ : ∃ x, l[i]? = some x := ⟨_, List.getElem?_eq_getElem hlt⟩
    have hxe : l[i] = x := (List.getElem?_eq_some_iff.1 hx).2
    refine way1 (by rw [decide_eq_true_iff]; omega) ?_
    conv => whnf
    refine nthK_of (l := c0.toList) (hw.at hx) ?_
    conv => whnf
    refine way1 (by rw [decide_eq_true_iff]; omega) ?_
    conv => whnf
    refine nthK_of (l := c0.toList) (hw.at hy) ?_
    conv => whnf
    refine ways (fun h2 => ?_) (fun h2 => ?_) <;> conv => whnf
    · refine ⟨rfl, fin_turnedK rfl ?_⟩
      conv => whnf
      refine ⟨?_, rfl⟩
      have h3 : (x == y) = false := by simpa using h2
      have h4 : alikeF l = false := by
        unfold alikeF
        rw [hhd]
        exact List.all_eq_false.2 ⟨x, List.mem_of_getElem? hx, by simp [h3]⟩
      rw [h4, Bool.and_false]
    · rw [show wrapS .i64 ((i : Int) + 1) = ((i + 1 : Nat) : Int) by rw [wrapI (by omega) (by omega)]; omega]
      refine ⟨l.length - (i + 1), by omega, i + 1, rfl, by omega, ?_, rfl⟩
      have h3 : (x == y) = true := by simpa using h2
      rw [List.take_succ_eq_append_getElem hlt, List.all_append, ha, hxe]
      simp [h3]
  · have hin : i = l.length := by have := of_decide_eq_false h1; omega
    subst hin
    rw [List.take_length] at ha
    refine ⟨rfl, fin_turnedK rfl ?_⟩
    conv => whnf
    refine ⟨?_, rfl⟩
    have h4 : alikeF l = true := by
      unfold alikeF
      rw [hhd]; exact ha
    rw [b0, h4]
    rfl
theorem Alike_n (tt : TypeId)  (g b tp nr me : Int) :
    AC Tryd.prog (GM tt) 35 [.agg (confC (.slice none 0 0) g b tp nr me)] [] (fun v h => v = .bool (okConf 0 ([] : List Int) g b tp nr me && alikeF ([] : List Int)) ∧ h = []) := by
  refine ac_of_body tabOk has35 ?_
  unfold BodyOk
  conv => whnf
  refine ac_readF [] (Check_n tt  g b tp nr me) (by simp [r3, r2, r1, r0, rA, nu]) rfl cold_0 ?_
  rintro v h' ⟨rfl, rfl⟩
  refine ⟨rfl, rfl, ?_⟩
  conv => whnf
  refine ⟨rfl, fin_turnedK rfl ?_⟩
  conv => whnf
  exact ⟨rfl, rfl⟩
theorem Alike_s (tt : TypeId) {h : List Obj} {ms : Value} {l : List Int} (hs : SlI h ms l) (hl : l.length ≤ 1000000000000) (g b tp nr me : Int) :
    AC Tryd.prog (GM tt) 35 [.agg (confC ms g b tp nr me)] h (fun v h' => v = .bool (okConf (l.length : Int) l g b tp nr me && alikeF l) ∧ h' = h) := by
  rcases hs with ⟨rfl, rfl⟩ | ⟨m, off, cap, c, t, rfl, h2, h4, h5⟩
  · refine ac_readF [] (Alike_n tt g b tp nr me) (by simp [r3, r2, r1, r0]) rfl cold_0 ?_
    rintro v h' ⟨rfl, rfl⟩
    exact ⟨rfl, rfl, rfl, rfl⟩
  · refine ac_readF [m] (Alike_r tt c t off cap l h4 hl g b tp nr me) (by simp [r3, r2, r1, r0, rA, nu]) rfl (cold_p h2) ?_
    rintro v h' ⟨rfl, rfl⟩
    exact ⟨rfl, rfl, rfl, rfl⟩
theorem RAlike_r (tt : TypeId) (c0 : Array Value) (t0 : TypeId) (off cap : Nat) (l : List Int) (hw : WinI c0 off l) (hl : l.length ≤ 1000000000000) (g b tp nr me : Int) :
    AC Tryd.prog (GM tt) 36 [.agg (confC (slc 0 off l.length cap) g b tp nr me)] [.pending c0 t0] (fun v h => v = .bool (okConf (l.length : Int) l g b tp nr me && alikeF l) ∧ h = [.pending c0 t0]) := by
  refine ac_of_body tabOk has36 ?_
  unfold BodyOk
  conv => whnf
  refine ac_readF [0] (RCheck_r tt c0 t0 off cap l hw hl g b tp nr me) (by simp [r3, r2, r1, r0, rA, nu]) rfl (cold_p (.inl rfl)) ?_
  rintro v h' ⟨rfl, rfl⟩
  refine ⟨rfl, rfl, ?_⟩
  conv => whnf
  rw [chk_ne]
  refine ways (fun b0 => ?_) (fun b0 => ?_) <;> conv => whnf
  · refine ⟨rfl, fin_turnedK rfl ?_⟩
    conv => whnf
    rw [Bool.not_eq_true'] at b0
    exact ⟨by rw [b0]; rfl, rfl⟩
  rw [Bool.not_eq_false'] at b0
  obtain ⟨hn1, hn4⟩ := okConf_len b0
  obtain ⟨y, hy⟩ : ∃ y, l[0]? = some y := ⟨_, List.getElem?_eq_getElem (by omega)⟩
  have hhd : l.headD 0 = y := by cases l with | nil => simp at hy | cons a t => simpa using hy
  refine aw_inv tabOk [[false, true, false, true, false, false, false, false, false, false, false, false, false, false, false, false], [false, false, false, false, false, false, false, false]] (fun m s' => ∃ (i : Nat), m = l.length - i ∧ i ≤ l.length ∧ (l.take i).all (fun x => x == y) = true ∧
    s' = ⟨[[.chan none, ptr 1 0, .chan none, I64 (i : Int), .chan none, .chan none, .chan none, .chan none, .chan none, .chan none, .chan none, .chan none, .chan none, .chan none, .chan none, .chan none],
      [.chan none, .chan none, .chan none, .chan none, .chan none, .chan none, .chan none, .chan none]],
      [.pending c0 t0, .cells (confC (slc 0 off l.length cap) g b tp nr me) 39], []⟩) l.length ?_ ⟨0, rfl, Nat.zero_le _, rfl, rfl⟩
  rintro m s' ⟨i, rfl, hi, ha, rfl⟩
  conv => whnf
  refine ways (fun h1 => ?_) (fun h1 => ?_) <;> conv => whnf
  · have hlt : i < l.length := by have := of_decide_eq_true h1; omega
    obtain ⟨x, hx⟩ : ∃ x, l[i]? = some x := ⟨_, List.getElem?_eq_getElem hlt⟩
    have hxe : l[i] = x := (List.getElem?_eq_some_iff.1 hx).2
    refine ad_of tabOk (by kernel_rfl) [(0, false), (1, false), (2, false), (3, false), (4, false), (5, false), (6, false), (7, false), (8, false), (9, false)] (by kernel_rfl) ?_
    conv => whnf
    refine way1 (by rw [decide_eq_true_iff]; omega) ?_
    conv => whnf
    refine nthK_of (l := c0.toList) (hw.at hx) ?_
    conv => whnf
    refine way1 (by rw [decide_eq_true_iff]; omega) ?_
    conv => whnf
    refine nthK_of (l := c0.toList) (hw.at hy) ?_
    conv => whnf
    refine ways (fun h2 => ?_) (fun h2 => ?_) <;> conv => whnf
    · refine ⟨rfl, fin_turnedK rfl ?_⟩
      conv => whnf
      refine ⟨?_, rfl⟩
      have h3 : (x == y) = false := by simpa using h2
      have h4 : alikeF l = false := by
        unfold alikeF
        rw [hhd]
        exact List.all_eq_false.2 ⟨x, List.mem_of_getElem? hx, by simp [h3]⟩
      rw [h4, Bool.and_false]
    · rw [show wrapS .i64 ((i : Int) + 1) = ((i + 1 : Nat) : Int) by rw [wrapI (by omega) (by omega)]; omega]
      refine ⟨l.length - (i + 1), by omega, i + 1, rfl, by omega, ?_, rfl⟩
      have h3 : (x == y) = true := by simpa using h2
      rw [List.take_succ_eq_append_getElem hlt, List.all_append, ha, hxe]
      simp [h3]
  · have hin : i = l.length := by have := of_decide_eq_false h1; omega
    subst hin
    rw [List.take_length] at ha
    refine ⟨rfl, fin_turnedK rfl ?_⟩
    conv => whnf
    refine ⟨?_, rfl⟩
    have h4 : alikeF l = true := by
      unfold alikeF
      rw [hhd]; exact ha
    rw [b0, h4]
    rfl
theorem RAlike_n (tt : TypeId)  (g b tp nr me : Int) :
    AC Tryd.prog (GM tt) 36 [.agg (confC (.slice none 0 0) g b tp nr me)] [] (fun v h => v = .bool (okConf 0 ([] : List Int) g b tp nr me && alikeF ([] : List Int)) ∧ h = []) := by
  refine ac_of_body tabOk has36 ?_
  unfold BodyOk
  conv => whnf
  refine ac_readF [] (RCheck_n tt  g b tp nr me) (by simp [r3, r2, r1, r0, rA, nu]) rfl cold_0 ?_
  rintro v h' ⟨rfl, rfl⟩
  refine ⟨rfl, rfl, ?_⟩
  conv => whnf
  refine ⟨rfl, fin_turnedK rfl ?_⟩
  conv => whnf
  exact ⟨rfl, rfl⟩
theorem RAlike_s (tt : TypeId) {h : List Obj} {ms : Value} {l : List Int} (hs : SlI h ms l) (hl : l.length ≤ 1000000000000) (g b tp nr me : Int) :
    AC Tryd.prog (GM tt) 36 [.agg (confC ms g b tp nr me)] h (fun v h' => v = .bool (okConf (l.length : Int) l g b tp nr me && alikeF l) ∧ h' = h) := by
  rcases hs with ⟨rfl, rfl⟩ | ⟨m, off, cap, c, t, rfl, h2, h4, h5⟩
  · refine ac_readF [] (RAlike_n tt g b tp nr me) (by simp [r3, r2, r1, r0]) rfl cold_0 ?_
    rintro v h' ⟨rfl, rfl⟩
    exact ⟨rfl, rfl, rfl, rfl⟩
  · refine ac_readF [m] (RAlike_r tt c t off cap l h4 hl g b tp nr me) (by simp [r3, r2, r1, r0, rA, nu]) rfl (cold_p h2) ?_
    rintro v h' ⟨rfl, rfl⟩
    exact ⟨rfl, rfl, rfl, rfl⟩
abbrev A3 (a b c : Int) : Value := .agg #[I64 a, I64 b, I64 c]
theorem Lost_c (G) (a b c x y z : Int) : AC Tryd.prog G 33 [A3 a b c, A3 x y z] [] (fun v h => v = A3 (wrapS .i64 (x - a)) (wrapS .i64 (y - b)) (wrapS .i64 (z - c)) ∧ h = []) := by
  refine ac_of_body tabOk has33 ?_
  unfold BodyOk
  conv => whnf
  refine aw_rounds tabOk 4 ?_
  conv => whnf
  refine ad_of tabOk (by kernel_rfl) [(0, false), (1, false), (2, false), (3, false), (4, false), (5, false), (6, false), (7, false), (8, false), (9, true)] (by kernel_rfl) ?_
  conv => whnf
  refine ad_of tabOk (by kernel_rfl) [(0, false), (1, false), (2, false), (3, false), (4, false), (5, false), (6, false), (7, false), (8, false), (9, true)] (by kernel_rfl) ?_
  conv => whnf
  refine ad_of tabOk (by kernel_rfl) [(0, false), (1, false), (2, false), (3, false), (4, false), (5, false), (6, false), (7, false), (8, false), (9, true)] (by kernel_rfl) ?_
  conv => whnf
  refine ⟨rfl, fin_turnedK rfl ?_⟩
  conv => whnf
  exact ⟨rfl, rfl⟩
theorem plus_c (G) (a b c n x y z : Int) : AC Tryd.prog G 54 [A3 a b c, I64 n, A3 x y z] [] (fun v h => v = A3 (wrapS .i64 (a + wrapS .i64 (n * x))) (wrapS .i64 (b + wrapS .i64 (n * y))) (wrapS .i64 (c + wrapS .i64 (n * z))) ∧ h = []) := by
  refine ac_of_body tabOk has54 ?_
  unfold BodyOk
  conv => whnf
  refine ⟨rfl, fin_turnedK rfl ?_⟩
  conv => whnf
  exact ⟨rfl, rfl⟩
theorem wrap_sub (a x : Int) : wrapS .i64 (x + wrapS .i64 (-1 * a)) = wrapS .i64 (x - a) := by
  rw [wrapS_eq, wrapS_eq, wrapS_eq]; simp [IntKind.wrap, IntKind.signed, IntKind.bits]; omega
theorem RLost_c (G) (a b c x y z : Int) : AC Tryd.prog G 34 [A3 a b c, A3 x y z] [] (fun v h => v = A3 (wrapS .i64 (x - a)) (wrapS .i64 (y - b)) (wrapS .i64 (z - c)) ∧ h = []) := by
  refine ac_of_body tabOk has34 ?_
  unfold BodyOk
  conv => whnf
  refine ac_pure (plus_c G x y z (-1) a b c) rfl ?_
  rintro v h' ⟨rfl, rfl⟩
  refine ⟨rfl, rfl, ?_⟩
  conv => whnf
  refine ⟨rfl, fin_turnedK rfl ?_⟩
  conv => whnf
  rw [wrap_sub, wrap_sub, wrap_sub]
  exact ⟨rfl, rfl⟩
end Go.Proofs.YtjpjnjidchdlbaaDoor
