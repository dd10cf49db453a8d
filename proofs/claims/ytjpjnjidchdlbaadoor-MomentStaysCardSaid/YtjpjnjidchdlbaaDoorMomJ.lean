/-
  The reference's Own and Same; calls in drawing regions (no condition).
-/
import Derived.Test.YtjpjnjidchdlbaaDoorMomI
namespace Go.Proofs.YtjpjnjidchdlbaaDoor
set_option linter.unusedSimpArgs false
set_option linter.unusedVariables false
open Go
set_option maxRecDepth 100000
set_option maxHeartbeats 4000000
theorem has42 : Has Tryd.prog 42 Tryd.f42 := ⟨Tryd.func42, by kernel_rfl, by kernel_rfl⟩
theorem has48 : Has Tryd.prog 48 Tryd.f48 := ⟨Tryd.func48, by kernel_rfl, by kernel_rfl⟩
/-- the body keeps one new block of clean cells; what it hands back is u, told over it -/
theorem fin_oneM {h0 : List Obj} {k : Value → List Obj → Prop} {v u : Value} {s : St} (m : Nat) {c : Array Value} {t : TypeId} {f : Nat × Nat} (hp : ∃ rest, s.h = h0 ++ rest) (hm : h0.length ≤ m) (hob : s.h[m]? = some (.cells c t f))
    (hc : ∀ x ∈ c.toList, cleanV x = true) (hv : v = r3 (tau h0.length [m]) u) (hu : scop3 (h0.length + 1) u = true) (hk : k u (h0 ++ [.cells c t f])) : Fin h0 k v s := by
  obtain ⟨rest, hp⟩ := hp
  have hrO : rO (tau h0.length [m]) (.cells c t f) = .cells c t f := by
    simp only [rO]
    rw [map_self _ _ fun x hx => (clean_s1 (hc x hx) 0).2 _]
  refine ⟨h0, [m], u, [.cells c t f], hv, (scop3_ok hu).1, rfl, fun i o hi => .inl ⟨hi, ?_⟩, rfl, fun j o hj => ?_, by simp, hk⟩
  · have : i < h0.length := (List.getElem?_eq_some_iff.1 hi).1
    rw [hp, List.getElem?_append_left this]; exact hi
  · cases j with
    | succ j => simp at hj
    | zero =>
      simp at hj
      subst hj
      refine ⟨.inl ⟨c, t, f, rfl⟩, fun x hx => ?_, hm, ?_⟩
      · exact clean_sc (hc x hx) _
      · rw [hrO]; exact hob
theorem zeros_cleanI (z : Array Value) (hz : z.toList.all cleanV = true) (n : Nat) : ∀ x ∈ (Builtin.zeroCells z n).toList, cleanV x = true := by
  intro x hx
  simp only [Builtin.zeroCells, Array.toList_map, List.mem_map] at hx
  obtain ⟨q, hq, rfl⟩ := hx
  by_cases h0 : z.size = 0
  · rw [h0] at hq; simp at hq
  · have hlt : q % z.size < z.size := Nat.mod_lt _ (by omega)
    rw [getElem!_pos (c := z) (i := q % z.size) (h := hlt)]
    exact List.all_eq_true.1 hz _ (by simp)
theorem cI_clean (l : List Int) : ∀ x ∈ l.map I64, cleanV x = true := fun x hx => by
  obtain ⟨y, _, rfl⟩ := List.mem_map.1 hx
  rfl
theorem winI_row {h : List Obj} {m off cap : Nat} {c : Array Value} {t : TypeId} {l : List Int} (hb : h[m]? = some (.pending c t)) (hw : WinI c off l) : RowIs h 1 (slc m off l.length cap) l.length (l.map I64) := by
  refine .row hb ?_ (by simp) (cI_clean l)
  show ∀ j x, (l.map I64)[j]? = some x → c[off + j]? = some x
  intro j x hj
  rw [List.getElem?_map] at hj
  cases hl : l[j]? with
  | none => rw [hl] at hj; cases hj
  | some y =>
    rw [hl] at hj
    cases hj
    exact hw j y hl
/-- a new row of the numbers l, with room behind -/
def RowI (l : List Int) (cp : Nat) (rest : List Value) : Prop := l.length + rest.length = cp ∧ ∀ x ∈ rest, cleanV x = true
theorem rowI_clean {l : List Int} {cp : Nat} {rest : List Value} (h : RowI l cp rest) : ∀ x ∈ (⟨l.map I64 ++ rest⟩ : Array Value).toList, cleanV x = true := by
  intro x hx
  rcases List.mem_append.1 hx with hx | hx
  · exact cI_clean l x hx
  · exact h.2 x hx
theorem winI_own {l : List Int} {rest : List Value} : WinI ⟨l.map I64 ++ rest⟩ 0 l := by
  intro j b hj
  show (l.map I64 ++ rest).toArray[0 + j]? = some (I64 b)
  have hlt := (List.getElem?_eq_some_iff.1 hj).1
  rw [Nat.zero_add, List.getElem?_toArray, List.getElem?_append_left (by simpa using hlt), List.getElem?_map, hj]
  rfl
theorem Own_r (G) (c0 : Array Value) (t0 : TypeId) (off cap : Nat) (l : List Int) (hw : WinI c0 off l) (hl : l.length ≤ 1000000000000) (g b tp nr me : Int) :
    AC Tryd.prog G 42 [.agg (confC (slc 0 off l.length cap) g b tp nr me)] [.pending c0 t0] (fun v h => ∃ cp rest, v = .agg (confC (slc 1 0 l.length cp) g b tp nr me) ∧ h = [.pending c0 t0, .cells ⟨l.map I64 ++ rest⟩ 3] ∧ RowI l cp rest) := by
  refine ac_of_body tabOk has42 ?_
  unfold BodyOk
  conv => whnf
  by_cases h0 : l.length = 0
  · have h1 : l = [] := List.length_eq_zero_iff.1 h0
    subst h1
    refine ao_room (b := 3) (off := 0) (lx := 0) (cx := 0) (ly := 0) (vy := slc 0 off ([] : List Int).length cap) (i := ti37) (j := ti3) (e := 3) tabOk rfl (by conv => whnf) (by conv => whnf) rfl rfl rfl rfl rfl rfl rfl (winI_row rfl hw) (by decide) (by decide) ?_
    conv => whnf
    refine ⟨rfl, fin_oneM 3 ⟨[_, _, _], rfl⟩ (by simp) rfl (by simp) (u := .agg (confC (slc 1 0 0 0) g b tp nr me)) ?_ rfl ⟨0, [], rfl, rfl, rfl, by simp⟩⟩
    simp [r3, r2, r1, r0, rA, tau]
  · refine ao_grow (lx := 0) (cx := 0) (ly := l.length) (olds := []) (news := l.map I64) (px := some ⟨3, 0, some 0⟩) (vx := slc 3 0 0 0) (vy := slc 0 off l.length cap) (i := ti37) (j := ti3) (e := 3) tabOk rfl (by conv => whnf) (by conv => whnf) rfl rfl rfl rfl rfl rfl
      (.row (ob := .cells ⟨[]⟩ 3) rfl (fun j x hj => by simp at hj) rfl (by simp)) (winI_row rfl hw) (by omega) (by show (0 + l.length) * 8 ≤ _; omega) (by omega) ?_
    intro cp hcp
    conv => whnf
    refine ⟨rfl, fin_oneM 4 ⟨[_, _, _, _], rfl⟩ (by simp) rfl ?_ (u := .agg (confC (slc 1 0 (0 + l.length) cp) g b tp nr me)) ?_ rfl ⟨cp, (Builtin.zeroCells ti3.zero.cells (cp - (0 + l.length))).toList, by rw [Nat.zero_add], rfl, ?_, zeros_cleanI ti3.zero.cells rfl _⟩⟩
    · intro x hx
      rcases List.mem_append.1 hx with hx | hx
      · exact cI_clean l x (by simpa using hx)
      · exact zeros_cleanI ti3.zero.cells rfl _ x hx
    · simp [r3, r2, r1, r0, rA, tau]
    · simp [Builtin.zeroCells]
      have : ti3.zero.cells.size = 1 := rfl
      rw [this]
      omega
theorem Own_n (G) (g b tp nr me : Int) :
    AC Tryd.prog G 42 [.agg (confC (.slice none 0 0) g b tp nr me)] [] (fun v h => ∃ cp rest, v = .agg (confC (slc 0 0 ([] : List Int).length cp) g b tp nr me) ∧ h = [.cells ⟨([] : List Int).map I64 ++ rest⟩ 3] ∧ RowI ([] : List Int) cp rest) := by
  refine ac_of_body tabOk has42 ?_
  unfold BodyOk
  conv => whnf
  refine ao_room (b := 2) (off := 0) (lx := 0) (cx := 0) (ly := 0) (vy := .slice none 0 0) (i := ti37) (j := ti3) (e := 3) tabOk rfl (by conv => whnf) (by conv => whnf) rfl rfl rfl rfl rfl rfl rfl (.nil 0) (by decide) (by decide) ?_
  conv => whnf
  refine ⟨rfl, fin_oneM 2 ⟨[_, _, _], rfl⟩ (by simp) rfl (by simp) (u := .agg (confC (slc 0 0 0 0) g b tp nr me)) ?_ rfl ⟨0, [], rfl, rfl, rfl, by simp⟩⟩
  simp [r3, r2, r1, r0, rA, tau]
theorem Own_s (G) {h : List Obj} {m : Nat} (hm : h.length = m) {ms : Value} {l : List Int} (hs : SlI h ms l) (hl : l.length ≤ 1000000000000) (g b tp nr me : Int) :
    AC Tryd.prog G 42 [.agg (confC ms g b tp nr me)] h (fun v h' => ∃ cp rest, v = .agg (confC (slc m 0 l.length cp) g b tp nr me) ∧ h' = h ++ [.cells ⟨l.map I64 ++ rest⟩ 3] ∧ RowI l cp rest) := by
  subst hm
  have hrO : ∀ (t : Ren) (l : List Int) (cp : Nat) (rest : List Value), RowI l cp rest → rO t (.cells ⟨l.map I64 ++ rest⟩ 3) = .cells ⟨l.map I64 ++ rest⟩ 3 := fun t l cp rest hr => by
    simp only [rO]
    rw [map_self _ _ fun x hx => (clean_s1 (rowI_clean hr x hx) 0).2 _]
  have hsc : ∀ (n : Nat) (x : Nat) (y : Nat) (cp : Nat), x < n → scop3 n (.agg (confC (slc x 0 y cp) g b tp nr me)) = true := by
    intro n x y cp hx
    simp [scop3, scop2, scop1, scop0, scopA]
    exact hx
  rcases hs with ⟨rfl, rfl⟩ | ⟨m, off, cap, c, t, rfl, h2, h4, h5⟩
  · refine ac_frame [] (Own_n G g b tp nr me) (by simp [r3, r2, r1, r0]) (fun v hv => ?_) cold_0 ?_
    · rcases List.mem_singleton.1 hv with rfl
      exact (scop3_ok (n := 0) (by rfl)).1
    · rintro v h' ⟨cp, rest, rfl, rfl, hr⟩
      refine ⟨_, rfl, cp, rest, ?_, ?_, hr⟩
      · simp [r3, r2, r1, r0, rA, nu]
      · rw [List.map_cons, hrO _ _ _ _ hr]; rfl
  · refine ac_frame [m] (Own_r G c t off cap l h4 hl g b tp nr me) (by simp [r3, r2, r1, r0, rA, nu]) (fun v hv => ?_) (cold_p h2) ?_
    · rcases List.mem_singleton.1 hv with rfl
      exact (scop3_ok (n := 1) (by rfl)).1
    · rintro v h' ⟨cp, rest, rfl, rfl, hr⟩
      refine ⟨_, rfl, cp, rest, ?_, ?_, hr⟩
      · simp [r3, r2, r1, r0, rA, nu]
      · rw [List.map_cons, hrO _ _ _ _ hr]; rfl
theorem Same_rr (G) (c0 : Array Value) (t0 : TypeId) (off cap : Nat) (l : List Int) (hw : WinI c0 off l) (hl : l.length ≤ 1000000000000) (c1 : Array Value) (t1 : TypeId) (off1 cap1 : Nat) (k : List Int) (hw1 : WinI c1 off1 k) (g b tp nr me : Int) :
    AC Tryd.prog G 48 [.agg (confC (slc 0 off l.length cap) g b tp nr me), .agg (confC (slc 1 off1 k.length cap1) g b tp nr me)] [.pending c0 t0, .pending c1 t1] (fun v h => v = .bool (decide (l = k)) ∧ h = [.pending c0 t0, .pending c1 t1]) := by
  refine ac_of_body tabOk has48 ?_
  unfold BodyOk
  conv => whnf
  refine ways (fun h1 => ?_) (fun h1 => ?_) <;> conv => whnf
  · refine ⟨rfl, fin_turnedK rfl ?_⟩
    conv => whnf
    refine ⟨?_, rfl⟩
    have hne : ¬ l = k := by
      intro h
      rw [h] at h1
      simp at h1
    rw [decide_eq_false hne]
  have hlen : l.length = k.length := by
    have : ¬ ((l.length : Int) ≠ ((k.length : Nat) : Int)) := by simpa using h1
    omega
  refine way0 (by simp) ?_
  conv => whnf
  refine way0 (by simp) ?_
  conv => whnf
  refine way0 (by simp) ?_
  conv => whnf
  refine way0 (by simp) ?_
  conv => whnf
  refine way0 (by simp) ?_
  conv => whnf
  refine aw_inv tabOk [[false, false, true, true, false, true, false, false, false, false, false, false, false, false, false, false], [false, false, false, false, false, false, false, false, false, false, false, false, false, false, false, false], [false, false, false, false, false, false, false, false, false, false, false, false, false, false, false, false], [false, false, false, false, false, false, false, false, false, false, false, false, false, false, false, false], [false, false]] (fun m s' => ∃ (i : Nat), m = l.length - i ∧ i ≤ l.length ∧ l.take i = k.take i ∧
    s' = ⟨[[.chan none, .chan none, ptr 2 0, ptr 3 0, .chan none, I64 (i : Int), .chan none, .chan none, .chan none, .chan none, .chan none, .chan none, .chan none, .chan none, .chan none, .chan none],
      [.chan none, .chan none, .chan none, .chan none, .chan none, .chan none, .chan none, .chan none, .chan none, .chan none, .chan none, .chan none, .chan none, .chan none, .chan none, .chan none],
      [.chan none, .chan none, .chan none, .chan none, .chan none, .chan none, .chan none, .chan none, .chan none, .chan none, .chan none, .chan none, .chan none, .chan none, .chan none, .chan none],
      [.chan none, .chan none, .chan none, .chan none, .chan none, .chan none, .chan none, .chan none, .chan none, .chan none, .chan none, .chan none, .chan none, .chan none, .chan none, .chan none],
      [.chan none, .chan none]],
      [.pending c0 t0, .pending c1 t1, .cells (confC (slc 0 off l.length cap) g b tp nr me) 39, .cells (confC (slc 1 off1 k.length cap1) g b tp nr me) 39], []⟩) l.length ?_ ⟨0, rfl, Nat.zero_le _, rfl, rfl⟩
  rintro m s' ⟨i, rfl, hi, ha, rfl⟩
  conv => whnf
  refine ways (fun h2 => ?_) (fun h2 => ?_) <;> conv => whnf
  · have hlt : i < l.length := by have := of_decide_eq_true h2; omega
    obtain ⟨x, hx⟩ : ∃ x, l[i]? = some x := ⟨_, List.getElem?_eq_getElem hlt⟩
    obtain ⟨y, hy⟩ : ∃ y, k[i]? = some y := ⟨_, List.getElem?_eq_getElem (by omega)⟩
    refine ad_of tabOk (by kernel_rfl) [(0, false), (1, false), (2, false), (3, false), (4, false), (5, false), (6, false), (7, false), (8, false), (9, false), (10, false)] (by kernel_rfl) ?_
    conv => whnf
    refine way1 (by rw [decide_eq_true_iff]; omega) ?_
    conv => whnf
    refine nthK_of (l := c0.toList) (hw.at hx) ?_
    conv => whnf
    refine way1 (by rw [decide_eq_true_iff]; omega) ?_
    conv => whnf
    refine nthK_of (l := c1.toList) (hw1.at hy) ?_
    conv => whnf
    refine ways (fun h3 => ?_) (fun h3 => ?_) <;> conv => whnf
    · refine ⟨rfl, fin_turnedK rfl ?_⟩
      conv => whnf
      refine ⟨?_, rfl⟩
      have hne : ¬ l = k := by
        intro h
        rw [h, hy] at hx
        have hxy : y = x := Option.some.inj hx
        rw [hxy] at h3
        simp at h3
      rw [decide_eq_false hne]
    · rw [show wrapS .i64 ((i : Int) + 1) = ((i + 1 : Nat) : Int) by rw [wrapI (by omega) (by omega)]; omega]
      refine ⟨l.length - (i + 1), by omega, i + 1, rfl, by omega, ?_, rfl⟩
      have hxe : l[i] = x := (List.getElem?_eq_some_iff.1 hx).2
      have hye : k[i]'(by omega) = y := (List.getElem?_eq_some_iff.1 hy).2
      have hxy : x = y := by simpa using h3
      rw [List.take_succ_eq_append_getElem hlt, List.take_succ_eq_append_getElem (by omega : i < k.length), ha, hxe, hye, hxy]
  · have hin : i = l.length := by have := of_decide_eq_false h2; omega
    subst hin
    rw [List.take_length, hlen, List.take_length] at ha
    refine ⟨rfl, fin_turnedK rfl ?_⟩
    conv => whnf
    exact ⟨by rw [decide_eq_true ha], rfl⟩
theorem Same_rn (G) (c0 : Array Value) (t0 : TypeId) (off cap : Nat) (l : List Int) (hw : WinI c0 off l) (hl : l.length ≤ 1000000000000) (g b tp nr me : Int) :
    AC Tryd.prog G 48 [.agg (confC (slc 0 off l.length cap) g b tp nr me), .agg (confC (.slice none 0 0) g b tp nr me)] [.pending c0 t0] (fun v h => v = .bool (decide (l = ([] : List Int))) ∧ h = [.pending c0 t0]) := by
  refine ac_of_body tabOk has48 ?_
  unfold BodyOk
  conv => whnf
  refine ways (fun h1 => ?_) (fun h1 => ?_) <;> conv => whnf
  · refine ⟨rfl, fin_turnedK rfl ?_⟩
    conv => whnf
    refine ⟨?_, rfl⟩
    have hne : ¬ l = ([] : List Int) := by
      intro h
      rw [h] at h1
      simp at h1
    rw [decide_eq_false hne]
  have hlen : l.length = ([] : List Int).length := by
    have : ¬ ((l.length : Int) ≠ ((([] : List Int).length : Nat) : Int)) := by simpa using h1
    omega
  refine way0 (by simp) ?_
  conv => whnf
  refine way0 (by simp) ?_
  conv => whnf
  refine way0 (by simp) ?_
  conv => whnf
  refine way0 (by simp) ?_
  conv => whnf
  refine way0 (by simp) ?_
  conv => whnf
  have h0 : l = [] := List.length_eq_zero_iff.1 hlen
  subst h0
  refine aw_rounds tabOk 1 ?_
  conv => whnf
  refine ⟨rfl, fin_turnedK rfl ?_⟩
  conv => whnf
  exact ⟨rfl, rfl⟩
theorem Same_s (G) {h : List Obj} {ms ks : Value} {l k : List Int} (hs : ∃ (m off cap : Nat) (c : Array Value) (t : TypeId), ms = slc m off l.length cap ∧ (h[m]? = some (.pending c t) ∨ ((∀ x ∈ c.toList, cleanV x = true) ∧ ∃ g, h[m]? = some (.cells c t g))) ∧ WinI c off l)
    (hk : SlI h ks k) (hl : l.length ≤ 1000000000000) (g b tp nr me : Int) :
    AC Tryd.prog G 48 [.agg (confC ms g b tp nr me), .agg (confC ks g b tp nr me)] h (fun v h' => v = .bool (decide (l = k)) ∧ h' = h) := by
  obtain ⟨m, off, cap, c, t, rfl, h2, h4⟩ := hs
  rcases hk with ⟨rfl, rfl⟩ | ⟨m1, off1, cap1, c1, t1, rfl, k2, k4, k5⟩
  · refine ac_readF [m] (Same_rn G c t off cap l h4 hl g b tp nr me) (by simp [r3, r2, r1, r0, rA, nu]) rfl (cold_p h2) ?_
    rintro v h' ⟨rfl, rfl⟩
    exact ⟨rfl, rfl, rfl, rfl⟩
  · refine ac_readF [m, m1] (Same_rr G c t off cap l h4 hl c1 t1 off1 cap1 k k4 g b tp nr me) (by simp [r3, r2, r1, r0, rA, nu]) rfl (cold_2 h2 k2) ?_
    rintro v h' ⟨rfl, rfl⟩
    exact ⟨rfl, rfl, rfl, rfl⟩
/-! ## In drawing regions -/
theorem Alike_q (tt : TypeId) {h0 : List Obj} {s : St} {d : Option Nat} {K : St → Prop} {ms : Value} {l : List Int} (hs : SlI h0 ms l) (hl : l.length ≤ 1000000000000) (g b tp nr me : Int) (hk : putK s d (.bool (okConf (l.length : Int) l g b tp nr me && alikeF l)) K) :
    Quiet Tryd.prog (GM tt) h0 35 [.agg (confC ms g b tp nr me)] fun v => putK s d v K := by
  intro h hp
  refine ac_mono (Alike_s tt (hs.pre hp) hl g b tp nr me) ?_
  rintro v h' ⟨rfl, rfl⟩
  exact ⟨rfl, rfl, hk⟩
theorem RCheck_q (tt : TypeId) {h0 : List Obj} {s : St} {d : Option Nat} {K : St → Prop} {ms : Value} {l : List Int} (hs : SlI h0 ms l) (hl : l.length ≤ 1000000000000) (g b tp nr me : Int) (hk : putK s d (I64 (if okConf (l.length : Int) l g b tp nr me then 0 else 110)) K) :
    Quiet Tryd.prog (GM tt) h0 47 [.agg (confC ms g b tp nr me)] fun v => putK s d v K := by
  intro h hp
  refine ac_mono (RCheck_s tt (hs.pre hp) hl g b tp nr me) ?_
  rintro v h' ⟨rfl, rfl⟩
  exact ⟨rfl, rfl, hk⟩
theorem Same_q (G) {h0 : List Obj} {s : St} {d : Option Nat} {K : St → Prop} {m cap : Nat} {c : Array Value} {t : TypeId} {ks : Value} {l k : List Int} {n : Nat} (hn : l.length = n) (hc : ∀ x ∈ c.toList, cleanV x = true) (hm : h0[m]? = some (.cells c t)) (hw : WinI c 0 l)
    (hs : SlI h0 ks k) (hl : l.length ≤ 1000000000000) (g b tp nr me : Int) (hk : putK s d (.bool (decide (l = k))) K) :
    Quiet Tryd.prog G h0 48 [.agg (confC (slc m 0 n cap) g b tp nr me), .agg (confC ks g b tp nr me)] fun v => putK s d v K := by
  subst hn
  intro h hp
  refine ac_mono (Same_s G ⟨m, 0, cap, c, t, rfl, .inr ⟨hc, _, hp _ _ hm trivial⟩, hw⟩ (hs.pre hp) hl g b tp nr me) ?_
  rintro v h' ⟨rfl, rfl⟩
  exact ⟨rfl, rfl, hk⟩
theorem Mwakes_q (tt : TypeId) {h0 : List Obj} {s : St} {d : Option Nat} {K : St → Prop} (hk : putK s d (.bool true) K) : Quiet Tryd.prog (GM tt) h0 26 [] fun v => putK s d v K := by
  refine quiet_of (Mwakes_c tt) rfl ?_
  rintro v h' ⟨rfl, rfl⟩
  exact ⟨rfl, rfl, hk⟩
end Go.Proofs.YtjpjnjidchdlbaaDoor
