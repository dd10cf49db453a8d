/-
  The reference's Open.
-/
import Derived.Test.YtjpjnjidchdlbaaDoorCrcP
namespace Go.Proofs.YtjpjnjidchdlbaaDoor
set_option linter.unusedSimpArgs false
set_option linter.unusedVariables false
open Go
set_option maxRecDepth 100000
set_option maxHeartbeats 4000000
theorem has14 : Has Tryd.prog 14 Tryd.f14 := ⟨Tryd.func14, by kernel_rfl, by kernel_rfl⟩
theorem RefOpen_nil (tt : TypeId) : AC Tryd.prog (GC tt) 14 [.slice none 0 0] [] (fun v h => v = .tuple #[.slice none 0 0, .bool false] ∧ h = []) := by
  refine ac_of_body tabOk has14 ?_
  unfold BodyOk
  conv => whnf
  refine ad_fresh [14, 15] tabOk (by kernel_rfl) [(0, false), (1, false), (2, false), (3, false), (4, false), (5, false), (8, false), (9, false), (6, false), (7, false), (10, false), (11, false)] (by kernel_rfl) ?_
  conv => whnf
  refine ⟨rfl, fin_turnedK rfl ?_⟩
  conv => whnf
  exact ⟨rfl, rfl⟩
theorem RefOpen_row (tt : TypeId) (c : Array Value) (t : TypeId) (off cap : Nat) (l : List UInt8) (hw : Win c off l) (hl : l.length ≤ 100000000000) (hcap : l.length ≤ cap) :
    AC Tryd.prog (GC tt) 14 [slc 0 off l.length cap] [.pending c t] (OpenPost l [.pending c t]) := by
  refine ac_of_body tabOk has14 ?_
  unfold BodyOk
  conv => whnf
  refine ad_fresh [14, 15] tabOk (by kernel_rfl) [(0, false), (1, false), (2, false), (3, false), (4, false), (5, false), (8, false), (9, false), (6, false), (7, false), (10, false), (11, false)] (by kernel_rfl) ?_
  conv => whnf
  by_cases h4 : l.length < 4
  · refine way1 (by rw [wrap64 (by omega) (by omega)]; simp; omega) ?_
    conv => whnf
    refine ⟨rfl, fin_turnedK rfl ?_⟩
    conv => whnf
    exact .inl ⟨by simp [okF]; omega, rfl, rfl⟩
  · obtain ⟨n, hn⟩ : ∃ n, l.length = n + 4 := ⟨l.length - 4, by omega⟩
    have en : wrapS .i64 ((l.length : Int) - 4) = (n : Int) := by rw [wrap64 (by omega) (by omega)]; omega
    rw [en]
    conv => whnf
    repeat (refine way1 (by simp; omega) ?_; conv => whnf)
    refine ⟨l, rfl, win_at hw, ?_⟩
    conv => whnf
    have ht : (l.take n).length = n := by simp; omega
    have s1 := sl_take (m := 0) (t := t) (h := [.pending c t]) (.inl rfl) hw hcap (q := n) (by omega)
    refine RefClose_f tt (l := l.take n) s1 (by omega) ?_
    intro cp rest hr
    conv => whnf
    have hcp : n + 4 ≤ cp := by have := hr.1; rw [closeF_length, ht] at this; omega
    refine ⟨closeF (l.take n), by rw [closeF_length], win_at win_own, ?_⟩
    conv => whnf
    have hp : payF l = l.take n := by unfold payF; rw [hn]; rfl
    have hd : l.drop (l.length - 4) = l.drop n := by rw [hn]; rfl
    have hq : (closeF (l.take n) == l) = okF l := by
      have h4' : decide (4 ≤ l.length) = true := by simp; omega
      unfold okF
      rw [h4', hp, hd, Bool.true_and, Bool.eq_iff_iff, beq_iff_eq, beq_iff_eq]
      constructor
      · intro h
        have h2 := congrArg (List.drop n) h
        unfold closeF at h2
        rw [List.drop_left' ht] at h2
        exact h2
      · intro h
        unfold closeF
        rw [h, List.take_append_drop]
    refine ways (fun h1 => ?_) (fun h1 => ?_) <;> conv => whnf
    · have h2 : okF l = false := by
        rw [← hq]
        simpa only [toList_mk, Bool.not_eq_true'] using h1
      refine ⟨rfl, fin_turnedK rfl ?_⟩
      conv => whnf
      exact .inl ⟨h2, rfl, rfl⟩
    · have h2 : okF l = true := by
        rw [← hq]
        simpa only [toList_mk, Bool.not_eq_false'] using h1
      repeat (refine way1 (by simp; omega) ?_; conv => whnf)
      by_cases h0 : n = 0
      · have h00 : (l.take n) = [] := by rw [h0]; rfl
        refine ao_room (b := 2) (off := 0) (lx := 0) (cx := 0) (ly := (l.take n).length) (vy := slc 0 off (l.take n).length cap) (news := (l.take n).map cU8) (i := ti23) (j := ti5) (e := 5) tabOk rfl (by conv => whnf) (by (conv => whnf); rw [sliceAddr0, ht]; rfl) rfl rfl rfl rfl rfl rfl rfl (win_row rfl (hw.take n)) (by rw [ht, h0]; decide) (by rw [ht, h0]; decide) ?_
        rw [h00]
        conv => whnf
        refine ⟨rfl, fin_one 2 ⟨[_, _], rfl⟩ (by simp) rfl (by simp) (u := .tuple #[slc 1 0 0 0, .bool true]) ?_ rfl (.inr ⟨h2, 0, [], ?_, ?_, ?_⟩)⟩
        · simp [r3, r2, r1, r0, rA, tau]
        · rw [hp, h00]; rfl
        · rw [hp, h00]; rfl
        · rw [hp, h00]; exact ⟨rfl, by simp⟩
      · refine ao_grow (lx := 0) (cx := 0) (ly := (l.take n).length) (olds := []) (news := (l.take n).map cU8) (px := some ⟨2, 0, some 0⟩) (vx := slc 2 0 0 0) (vy := slc 0 off (l.take n).length cap) (i := ti23) (j := ti5) (e := 5) tabOk rfl (by conv => whnf) (by (conv => whnf); rw [sliceAddr0, ht]; rfl) rfl rfl rfl rfl rfl rfl
          (.row (ob := .cells ⟨[]⟩ 5) rfl (fun j x hj => by simp at hj) rfl (by simp)) (win_row rfl (hw.take n)) (by rw [ht]; omega) (by show (0 + (l.take n).length) * 1 ≤ _; omega) (by omega) ?_
        intro cp2 hcp2
        conv => whnf
        refine ⟨rfl, fin_one 3 ⟨[_, _, _], rfl⟩ (by simp) rfl ?_ (u := .tuple #[slc 1 0 (0 + (l.take n).length) cp2, .bool true]) ?_ rfl (.inr ⟨h2, cp2, (Builtin.zeroCells ti5.zero.cells (cp2 - (0 + (l.take n).length))).toList, ?_, ?_, ?_, zeros_clean ti5.zero.cells rfl _⟩)⟩
        · intro x hx
          replace hx : x ∈ [] ++ (l.take n).map cU8 ++ (Builtin.zeroCells ti5.zero.cells (cp2 - (0 + (l.take n).length))).toList := hx
          rw [List.nil_append] at hx
          rcases List.mem_append.1 hx with hx | hx
          · exact cU8_clean _ x hx
          · exact zeros_clean ti5.zero.cells rfl _ x hx
        · simp [r3, r2, r1, r0, rA, tau]
        · rw [hp, Nat.zero_add]; rfl
        · rw [hp]; rfl
        · rw [hp]
          simp [Builtin.zeroCells]
          have : ti5.zero.cells.size = 1 := rfl
          rw [this]
          omega
theorem RefOpen_s (tt : TypeId) {h : List Obj} {v : Value} {l : List UInt8} (hs : Sl h v l) (hl : l.length ≤ 100000000000) : AC Tryd.prog (GC tt) 14 [v] h (OpenPost l h) := by
  rcases hs with ⟨rfl, rfl⟩ | ⟨m, off, cap, c, t, rfl, h2, h4, h5⟩
  · refine ac_read [] (RefOpen_nil tt) rfl rfl trivial ?_
    rintro v h' ⟨rfl, rfl⟩
    exact ⟨rfl, rfl, .inl ⟨rfl, rfl, rfl⟩⟩
  · refine ac_frame [m] (RefOpen_row tt c t off cap l h4 hl h5) rfl (fun v hv => ?_) (fun i o hi => cold_le (show ColdOk h [m] [.pending c t] from ⟨h2, trivial⟩) hi) ?_
    · exact (scop3_ok (List.all_eq_true.1 (by rfl : [slc 0 off l.length cap].all (scop3 1) = true) v hv)).1
    · rintro v h' (⟨h1, rfl, rfl⟩ | ⟨h1, cp, rest, rfl, rfl, hr⟩)
      · exact ⟨[], rfl, .inl ⟨h1, by simp [r3, r2, r1, r0], by simp⟩⟩
      · refine ⟨[.cells ⟨(payF l).map cU8 ++ rest⟩ 5], rfl, .inr ⟨h1, cp, rest, by simp [r3, r2, r1, r0, rA, nu], ?_, hr⟩⟩
        have hcl : ∀ x ∈ (⟨(payF l).map cU8 ++ rest⟩ : Array Value).toList, cleanV x = true := by
          intro x hx
          rcases List.mem_append.1 hx with hx | hx
          · exact cU8_clean _ x hx
          · exact hr.2 x hx
        have : ∀ t, rO t (.cells ⟨(payF l).map cU8 ++ rest⟩ 5) = .cells ⟨(payF l).map cU8 ++ rest⟩ 5 := fun t => by
          simp only [rO]
          rw [map_self _ _ fun x hx => (clean_s1 (hcl x hx) 0).2 _]
        simp [this]
end Go.Proofs.YtjpjnjidchdlbaaDoor
