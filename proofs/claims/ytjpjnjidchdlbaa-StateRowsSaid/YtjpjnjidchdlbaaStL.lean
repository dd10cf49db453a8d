/-
  state.Of in whatever heap; wakes (no condition).
-/
import Derived.Test.YtjpjnjidchdlbaaStK
namespace Go.Proofs.Ytjpjnjidchdlbaa
set_option linter.unusedSimpArgs false
set_option linter.unusedVariables false
open Go
set_option maxRecDepth 100000
set_option maxHeartbeats 4000000
theorem Of26_n (G) : AC Try.prog G 26 [.slice none 0 0] [] (OfPost [] 0 []) := by
  refine ac_of_body tabOk has26 ?_
  unfold BodyOk
  conv => whnf
  refine aw_scope tabOk 0 rfl ?_
  conv => whnf
  refine And.intro rfl ?_
  conv => whnf
  refine ⟨rfl, fin_turnedK rfl ?_⟩
  conv => whnf
  exact .inl ⟨rfl, rfl, rfl⟩
theorem Of26_s (G) {h : List Obj} {m : Nat} (hm : h.length = m) {v : Value} {l : List Int} (hs : SlI h v l) (hl : l.length ≤ 1000000000000) : AC Try.prog G 26 [v] h (OfPost l m h) := by
  subst hm
  rcases hs with ⟨rfl, rfl⟩ | ⟨m, off, cap, c, t, rfl, h2, h4, h5⟩
  · refine ac_frame [] (Of26_n G) (by simp [r3, r2, r1, r0]) (fun v hv => ?_) cold_0 ?_
    · rcases List.mem_singleton.1 hv with rfl
      exact (scop3_ok (n := 0) (by rfl)).1
    · rintro v h' (⟨q1, rfl, rfl⟩ | ⟨q1, _⟩)
      · exact ⟨[], by simp, .inl ⟨q1, by simp [r3, r2, r1, r0], by simp⟩⟩
      · cases q1
  · refine ac_frame [m] (Of26_r G c t off cap l h4 h5 hl) (by simp [r3, r2, r1, r0, rA, nu]) (fun v hv => ?_) (cold_p h2) ?_
    · rcases List.mem_singleton.1 hv with rfl
      exact (scop3_ok (n := 1) (by rfl)).1
    · rintro v h' (⟨q1, rfl, rfl⟩ | ⟨q1, c, cp, rfl, rfl, q2, q3, q4⟩)
      · exact ⟨[], by simp, .inl ⟨q1, by simp [r3, r2, r1, r0], by simp⟩⟩
      · refine ⟨[.cells c 56], rfl, .inr ⟨q1, c, cp, ?_, ?_, q2, q3, q4⟩⟩
        · simp [r3, r2, r1, r0, rA, nu]
        · rw [List.map_cons, rO_cl q2]; rfl
theorem take_eqI {l l1 : List Int} (hlen : l.length = l1.length) {i : Nat} {x y : Int} (hx : l[i]? = some x) (hy : l1[i]? = some y) (he : l.take i = l1.take i) (hxy : x = y) : l.take (i + 1) = l1.take (i + 1) := by
  have h1 : i < l.length := (List.getElem?_eq_some_iff.1 hx).1
  have h2 : i < l1.length := (List.getElem?_eq_some_iff.1 hy).1
  rw [List.take_succ_eq_append_getElem h1, List.take_succ_eq_append_getElem h2, he, (List.getElem?_eq_some_iff.1 hx).2, (List.getElem?_eq_some_iff.1 hy).2, hxy]
theorem ints_rr (G) (c0 : Array Value) (t0 : TypeId) (off cap : Nat) (l : List Int) (hw : WinI c0 off l) (hl : l.length ≤ 1000000000000) (c1 : Array Value) (t1 : TypeId) (off1 cap1 : Nat) (l1 : List Int) (hw1 : WinI c1 off1 l1) :
    AC Try.prog G 28 [slc 0 off l.length cap, slc 1 off1 l1.length cap1] [.pending c0 t0, .pending c1 t1] (fun v h => ∃ b, v = .bool b ∧ (b = true ↔ l = l1) ∧ h = [.pending c0 t0, .pending c1 t1]) := by
  refine ac_of_body tabOk has28 ?_
  unfold BodyOk
  conv => whnf
  refine ways (fun h2 => ?_) (fun h2 => ?_) <;> conv => whnf
  · refine ⟨rfl, fin_turnedK rfl ?_⟩
    conv => whnf
    refine ⟨false, rfl, ⟨fun h => absurd h Bool.false_ne_true, fun h => ?_⟩, rfl⟩
    rw [h] at h2
    simp at h2
  have hlen : l.length = l1.length := by have h3 : (l.length : Int) = (l1.length : Int) := (by simpa using h2); omega
  refine aw_inv tabOk [[true, true, false, false, false, true, false, false, false, false, false, false, false, false, false, false], [false, false, false, false, false, false, false, false, false, false]] (fun m s' => ∃ (i : Nat), m = l.length - i ∧ i ≤ l.length ∧ l.take i = l1.take i ∧
    s' = ⟨[[slc 0 off l.length cap, slc 1 off1 l1.length cap1, .chan none, .chan none, .chan none, I64 (i : Int), .chan none, .chan none, .chan none, .chan none, .chan none, .chan none, .chan none, .chan none, .chan none, .chan none],
      [.chan none, .chan none, .chan none, .chan none, .chan none, .chan none, .chan none, .chan none, .chan none, .chan none]],
      [.pending c0 t0, .pending c1 t1], []⟩) l.length ?_ ⟨0, rfl, Nat.zero_le _, rfl, rfl⟩
  rintro m s' ⟨i, rfl, hi, hti, rfl⟩
  conv => whnf
  refine ways (fun h3 => ?_) (fun h3 => ?_) <;> conv => whnf
  · have hlt : i < l.length := by have := of_decide_eq_true h3; omega
    obtain ⟨x, hx⟩ : ∃ x, l[i]? = some x := ⟨_, List.getElem?_eq_getElem hlt⟩
    obtain ⟨y, hy⟩ : ∃ y, l1[i]? = some y := ⟨_, List.getElem?_eq_getElem (by omega)⟩
    refine ad_of tabOk (by kernel_rfl) [(0, false), (1, false), (2, false), (3, false), (4, false), (5, false), (6, false), (7, false), (8, false)] (by kernel_rfl) ?_
    conv => whnf
    refine way1 (by rw [decide_eq_true_iff]; omega) ?_
    conv => whnf
    refine nthK_of (l := c0.toList) (hw.at hx) ?_
    conv => whnf
    refine way1 (by rw [decide_eq_true_iff]; omega) ?_
    conv => whnf
    refine nthK_of (l := c1.toList) (hw1.at hy) ?_
    conv => whnf
    refine ways (fun h4 => ?_) (fun h4 => ?_) <;> conv => whnf
    · refine ⟨rfl, fin_turnedK rfl ?_⟩
      conv => whnf
      refine ⟨false, rfl, ⟨fun h => absurd h Bool.false_ne_true, fun h => ?_⟩, rfl⟩
      have : x = y := by
        subst h
        rw [hx] at hy
        exact Option.some.inj hy
      rw [this] at h4
      simp at h4
    · have hxy : x = y := by simpa using h4
      rw [show wrapS .i64 ((i : Int) + 1) = ((i + 1 : Nat) : Int) by rw [wrapI (by omega) (by omega)]; omega]
      exact ⟨l.length - (i + 1), by omega, i + 1, rfl, by omega, take_eqI hlen hx hy hti hxy, rfl⟩
  have hin : i = l.length := by have := of_decide_eq_false h3; omega
  subst hin
  rw [List.take_length, hlen, List.take_length] at hti
  refine ⟨rfl, fin_turnedK rfl ?_⟩
  conv => whnf
  exact ⟨true, rfl, ⟨fun _ => hti, fun _ => rfl⟩, rfl⟩
def RowsI (h : List Obj) (v : Value) (l : List Int) : Prop := ∃ (m off cap : Nat) (c : Array Value) (t : TypeId), v = slc m off l.length cap ∧ (h[m]? = some (.pending c t) ∨ ((∀ x ∈ c.toList, cleanV x = true) ∧ ∃ g, h[m]? = some (.cells c t g))) ∧ WinI c off l
theorem ints_s (G) {h : List Obj} {v v1 : Value} {l l1 : List Int} (hs : RowsI h v l) (hs1 : RowsI h v1 l1) (hl : l.length ≤ 1000000000000) :
    AC Try.prog G 28 [v, v1] h (fun v h' => ∃ b, v = .bool b ∧ (b = true ↔ l = l1) ∧ h' = h) := by
  obtain ⟨m, off, cap, c, t, rfl, h2, h4⟩ := hs
  obtain ⟨m1, off1, cap1, c1, t1, rfl, k2, k4⟩ := hs1
  refine ac_readF [m, m1] (ints_rr G c t off cap l h4 hl c1 t1 off1 cap1 l1 k4) (by simp [r3, r2, r1, r0, rA, nu]) rfl (cold_2 h2 k2) ?_
  rintro v h' ⟨b, rfl, hb, rfl⟩
  exact ⟨rfl, rfl, b, rfl, hb, rfl⟩
end Go.Proofs.Ytjpjnjidchdlbaa
