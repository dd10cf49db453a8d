/-
  CrcParts: the walks where a slice is nil.
-/
import Derived.Test.YtjpjnjidchdlbaaDoorCrcK
namespace Go.Proofs.YtjpjnjidchdlbaaDoor
set_option linter.unusedSimpArgs false
set_option linter.unusedVariables false
open Go
set_option maxRecDepth 100000
set_option maxHeartbeats 4000000
theorem Parts_nn (tt : TypeId) (k : Int) (s t : BitVec 32) :
    AC Tryd.prog (GC tt) 5 [.slice none 0 0, .slice none 0 0, .int .i64 k, W32 s, W32 t] [] (fun v h => v = .bool true ∧ h = []) := by
  refine ac_of_body tabOk has5 ?_
  unfold BodyOk
  conv => whnf
  obtain ⟨q, hq, eq⟩ := cut_ok (n := 0) (by simp) k
  repeat (refine way1 (by first | rfl | (simp; done)) ?_; conv => whnf)
  refine ao_make tabOk rfl (l := 0) (c := 0) (by conv => whnf) (by conv => whnf) (i := ti23) (j := ti5) (e := 5) rfl rfl rfl rfl rfl (Nat.le_refl _) (by decide) (by decide) rfl ?_
  conv => whnf
  rw [eq]
  refine aw_rounds tabOk 1 ?_
  conv => whnf
  obtain rfl : q = 0 := by omega
  refine ac_mono (Go_s tt s (l := []) (.inl ⟨rfl, rfl⟩) (by simp)) ?_
  rintro v h' ⟨rfl, rfl⟩
  conv => whnf
  refine ad_of tabOk (by kernel_rfl) [(0, false), (1, false), (2, false), (3, false), (4, false), (5, false), (6, false), (7, false), (9, false), (10, false), (11, false), (13, false), (8, false), (12, false), (14, false), (15, false), (16, false), (17, false), (18, false), (19, false), (20, false), (22, false), (23, false), (24, false), (21, false), (25, false), (26, false), (27, false), (28, false), (29, false), (30, false), (32, false), (31, false), (33, false), (34, false), (35, false), (36, false), (38, false), (37, false), (39, false), (40, false), (41, false), (42, false), (43, false), (44, false), (45, false), (46, false)] (by kernel_rfl) ?_
  conv => whnf
  have sx : Sl [.cells (madeCells ti5.zero.cells 0) 5] (slc 0 0 0 0) [] := .inr ⟨0, 0, 0, madeCells ti5.zero.cells 0, 5, rfl, .inr ⟨made_clean 0, _, rfl⟩, fun j u hj => by simp at hj, Nat.le_refl _⟩
  refine way1 (by simp [goF]) ?_
  conv => whnf
  repeat (refine way1 (by first | rfl | (simp; done)) ?_; conv => whnf)
  refine Go_q tt (l := []) (.inl ⟨rfl, rfl⟩) (by simp) ?_
  conv => whnf
  repeat (refine way1 (by first | rfl | (simp; done)) ?_; conv => whnf)
  refine Go_q tt (l := []) (.inl ⟨rfl, rfl⟩) (by simp) ?_
  conv => whnf
  refine way1 (by simp [goF]) ?_
  conv => whnf
  rw [xor_w]
  refine Go_q tt sx (by simp) ?_
  conv => whnf
  refine Go_q tt (l := []) (.inl ⟨rfl, rfl⟩) (by simp) ?_
  conv => whnf
  refine way1 (by rw [xor_w, w32_beq]; simp [goF]) ?_
  conv => whnf
  refine Go_q tt (l := []) (.inl ⟨rfl, rfl⟩) (by simp) ?_
  conv => whnf
  refine way1 (by rw [w32_beq]; simp [goF]) ?_
  conv => whnf
  refine Seal_q tt (l := []) (.inl ⟨rfl, rfl⟩) (by simp) ?_
  conv => whnf
  refine Go_q tt (st := 4294967295#32) (l := []) (.inl ⟨rfl, rfl⟩) (by simp) ?_
  conv => whnf
  first
    | (refine way1 (by rw [not_w, w32_beq]; simp [sealF]) ?_; conv => whnf)
    | skip
  refine wakes_q tt ?_
  conv => whnf
  refine ⟨rfl, fin_turnedK rfl ?_⟩
  conv => whnf
  exact ⟨rfl, rfl⟩
theorem Parts_rn (tt : TypeId) (x : Array Value) (tx : TypeId) (ox cx : Nat) (a : List UInt8) (hx : Win x ox a) (hcx : a.length ≤ cx) (ha : a.length ≤ 9223372036854775807) (k : Int) (s t : BitVec 32) :
    AC Tryd.prog (GC tt) 5 [slc 0 ox a.length cx, .slice none 0 0, .int .i64 k, W32 s, W32 t] [.pending x tx] (fun v h => v = .bool true ∧ h = [.pending x tx]) := by
  refine ac_of_body tabOk has5 ?_
  unfold BodyOk
  conv => whnf
  refine ways (fun h1 => ?_) (fun h1 => ?_) <;> conv => whnf
  · refine ac_pure (wakes_c tt) rfl ?_
    rintro v h' ⟨rfl, rfl⟩
    refine ⟨rfl, rfl, ?_⟩
    conv => whnf
    refine ⟨rfl, fin_turnedK rfl ?_⟩
    conv => whnf
    exact ⟨rfl, rfl⟩
  refine ways (fun h2 => ?_) (fun h2 => ?_) <;> conv => whnf
  · refine ac_pure (wakes_c tt) rfl ?_
    rintro v h' ⟨rfl, rfl⟩
    refine ⟨rfl, rfl, ?_⟩
    conv => whnf
    refine ⟨rfl, fin_turnedK rfl ?_⟩
    conv => whnf
    exact ⟨rfl, rfl⟩
  have h0 : a.length = 0 := by
    have : ¬ ((0 : Int) ≠ (a.length : Int)) := by simpa using h2
    omega
  obtain rfl : a = [] := List.length_eq_zero_iff.1 h0
  obtain ⟨q, hq, eq⟩ := cut_ok (n := ([] : List UInt8).length) (by simp) k
  repeat (refine way1 (by first | rfl | (simp; done)) ?_; conv => whnf)
  refine ao_make tabOk rfl (l := ([] : List UInt8).length) (c := ([] : List UInt8).length) (by conv => whnf) (by conv => whnf) (i := ti23) (j := ti5) (e := 5) rfl rfl rfl rfl rfl (Nat.le_refl _) (by decide) (by decide) rfl ?_
  conv => whnf
  rw [eq]
  refine aw_rounds tabOk 1 ?_
  conv => whnf
  obtain rfl : q = 0 := by omega
  have s1 := sl_take (q := 0) (m := 0) (t := tx) (l := []) (h := [.pending x tx, .cells (madeCells ti5.zero.cells 0) 5]) (.inl rfl) hx hcx (Nat.le_refl _)
  have s2 := sl_drop (q := 0) (m := 0) (t := tx) (l := []) (h := [.pending x tx, .cells (madeCells ti5.zero.cells 0) 5]) (.inl rfl) hx hcx (Nat.le_refl _)
  refine ac_mono (Go_s tt s (l := []) (.inr ⟨0, ox, cx, x, tx, rfl, .inl rfl, hx, hcx⟩) (by simp)) ?_
  rintro v h' ⟨rfl, rfl⟩
  conv => whnf
  refine ad_of tabOk (by kernel_rfl) [(0, false), (1, false), (2, false), (3, false), (4, false), (5, false), (6, false), (7, false), (9, false), (10, false), (11, false), (13, false), (8, false), (12, false), (14, false), (15, false), (16, false), (17, false), (18, false), (19, false), (20, false), (22, false), (23, false), (24, false), (21, false), (25, false), (26, false), (27, false), (28, false), (29, false), (30, false), (32, false), (31, false), (33, false), (34, false), (35, false), (36, false), (38, false), (37, false), (39, false), (40, false), (41, false), (42, false), (43, false), (44, false), (45, false), (46, false)] (by kernel_rfl) ?_
  conv => whnf
  have sx : Sl [.pending x tx, .cells (madeCells ti5.zero.cells 0) 5] (slc 1 0 0 0) [] := .inr ⟨1, 0, 0, madeCells ti5.zero.cells 0, 5, rfl, .inr ⟨made_clean 0, _, rfl⟩, fun j u hj => by simp at hj, Nat.le_refl _⟩
  refine way1 (by simp [goF]) ?_
  conv => whnf
  repeat (refine way1 (by first | rfl | (simp; done)) ?_; conv => whnf)
  refine Go_q tt (l := []) s1 (by simp) ?_
  conv => whnf
  repeat (refine way1 (by first | rfl | (simp; done)) ?_; conv => whnf)
  refine Go_q tt (l := []) s2 (by simp) ?_
  conv => whnf
  refine way1 (by simp [goF]) ?_
  conv => whnf
  rw [xor_w]
  refine Go_q tt sx (by simp) ?_
  conv => whnf
  refine Go_q tt (l := []) (.inl ⟨rfl, rfl⟩) (by simp) ?_
  conv => whnf
  refine way1 (by rw [xor_w, w32_beq]; simp [goF]) ?_
  conv => whnf
  refine Go_q tt (l := []) (.inl ⟨rfl, rfl⟩) (by simp) ?_
  conv => whnf
  refine way1 (by rw [w32_beq]; simp [goF]) ?_
  conv => whnf
  refine Seal_q tt (l := []) (.inr ⟨0, ox, cx, x, tx, rfl, .inl rfl, hx, hcx⟩) (by simp) ?_
  conv => whnf
  refine Go_q tt (st := 4294967295#32) (l := []) (.inr ⟨0, ox, cx, x, tx, rfl, .inl rfl, hx, hcx⟩) (by simp) ?_
  conv => whnf
  first
    | (refine way1 (by rw [not_w, w32_beq]; simp [sealF]) ?_; conv => whnf)
    | skip
  refine wakes_q tt ?_
  conv => whnf
  refine ⟨rfl, fin_turnedK rfl ?_⟩
  conv => whnf
  exact ⟨rfl, rfl⟩
theorem Parts_nr (tt : TypeId) (y : Array Value) (ty : TypeId) (oy cy : Nat) (b : List UInt8) (hy : Win y oy b) (hcy : b.length ≤ cy) (hb : b.length ≤ 9223372036854775807) (k : Int) (s t : BitVec 32) :
    AC Tryd.prog (GC tt) 5 [.slice none 0 0, slc 0 oy b.length cy, .int .i64 k, W32 s, W32 t] [.pending y ty] (fun v h => v = .bool true ∧ h = [.pending y ty]) := by
  refine ac_of_body tabOk has5 ?_
  unfold BodyOk
  conv => whnf
  refine ways (fun h2 => ?_) (fun h2 => ?_) <;> conv => whnf
  · refine ac_pure (wakes_c tt) rfl ?_
    rintro v h' ⟨rfl, rfl⟩
    refine ⟨rfl, rfl, ?_⟩
    conv => whnf
    refine ⟨rfl, fin_turnedK rfl ?_⟩
    conv => whnf
    exact ⟨rfl, rfl⟩
  have h0 : b.length = 0 := by
    have : ¬ ((b.length : Int) ≠ (0 : Int)) := by simpa using h2
    omega
  obtain rfl : b = [] := List.length_eq_zero_iff.1 h0
  obtain ⟨q, hq, eq⟩ := cut_ok (n := 0) (by simp) k
  repeat (refine way1 (by first | rfl | (simp; done)) ?_; conv => whnf)
  refine ao_make tabOk rfl (l := 0) (c := 0) (by conv => whnf) (by conv => whnf) (i := ti23) (j := ti5) (e := 5) rfl rfl rfl rfl rfl (Nat.le_refl _) (by decide) (by decide) rfl ?_
  conv => whnf
  rw [eq]
  refine aw_rounds tabOk 1 ?_
  conv => whnf
  obtain rfl : q = 0 := by omega
  refine ac_mono (Go_s tt s (l := []) (.inl ⟨rfl, rfl⟩) (by simp)) ?_
  rintro v h' ⟨rfl, rfl⟩
  conv => whnf
  refine ad_of tabOk (by kernel_rfl) [(0, false), (1, false), (2, false), (3, false), (4, false), (5, false), (6, false), (7, false), (9, false), (10, false), (11, false), (13, false), (8, false), (12, false), (14, false), (15, false), (16, false), (17, false), (18, false), (19, false), (20, false), (22, false), (23, false), (24, false), (21, false), (25, false), (26, false), (27, false), (28, false), (29, false), (30, false), (32, false), (31, false), (33, false), (34, false), (35, false), (36, false), (38, false), (37, false), (39, false), (40, false), (41, false), (42, false), (43, false), (44, false), (45, false), (46, false)] (by kernel_rfl) ?_
  conv => whnf
  have sx : Sl [.pending y ty, .cells (madeCells ti5.zero.cells 0) 5] (slc 1 0 0 0) [] := .inr ⟨1, 0, 0, madeCells ti5.zero.cells 0, 5, rfl, .inr ⟨made_clean 0, _, rfl⟩, fun j u hj => by simp at hj, Nat.le_refl _⟩
  refine way1 (by simp [goF]) ?_
  conv => whnf
  repeat (refine way1 (by first | rfl | (simp; done)) ?_; conv => whnf)
  refine Go_q tt (l := []) (.inl ⟨rfl, rfl⟩) (by simp) ?_
  conv => whnf
  repeat (refine way1 (by first | rfl | (simp; done)) ?_; conv => whnf)
  refine Go_q tt (l := []) (.inl ⟨rfl, rfl⟩) (by simp) ?_
  conv => whnf
  refine way1 (by simp [goF]) ?_
  conv => whnf
  rw [xor_w]
  refine Go_q tt sx (by simp) ?_
  conv => whnf
  refine Go_q tt (l := []) (.inr ⟨0, oy, cy, y, ty, rfl, .inl rfl, hy, hcy⟩) (by simp) ?_
  conv => whnf
  refine way1 (by rw [xor_w, w32_beq]; simp [goF]) ?_
  conv => whnf
  refine Go_q tt (l := []) (.inl ⟨rfl, rfl⟩) (by simp) ?_
  conv => whnf
  refine way1 (by rw [w32_beq]; simp [goF]) ?_
  conv => whnf
  refine Seal_q tt (l := []) (.inl ⟨rfl, rfl⟩) (by simp) ?_
  conv => whnf
  refine Go_q tt (st := 4294967295#32) (l := []) (.inl ⟨rfl, rfl⟩) (by simp) ?_
  conv => whnf
  first
    | (refine way1 (by rw [not_w, w32_beq]; simp [sealF]) ?_; conv => whnf)
    | skip
  refine wakes_q tt ?_
  conv => whnf
  refine ⟨rfl, fin_turnedK rfl ?_⟩
  conv => whnf
  exact ⟨rfl, rfl⟩
end Go.Proofs.YtjpjnjidchdlbaaDoor
