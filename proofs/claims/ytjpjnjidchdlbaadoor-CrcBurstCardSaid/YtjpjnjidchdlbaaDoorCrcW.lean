/-
  CrcBurst: the walk.
-/
import Derived.Test.YtjpjnjidchdlbaaDoorCrcV
import Derived.Test.YtjpjnjidchdlbaaDoorCrcR
namespace Go.Proofs.YtjpjnjidchdlbaaDoor
set_option linter.unusedSimpArgs false
set_option linter.unusedVariables false
open Go
set_option maxRecDepth 100000
set_option maxHeartbeats 4000000
def maskW : List (List Bool) := [[true, true, true, false, false, false, true, false, false, false, false, true, true, false, false, false], [false, false, false, false, false, false, false, false, false, false, false, false, false, false, false, false], [false, false, false, false, false, false, false, false, false, false, false, false, false, false, false, false], [false, false, false, false, false, false, false, false, false, false, false, false, false, false, false, false], [false, false, false, false, false, false, false, false, false, false, false, false, false, false, false, false], [false, false, false, false, false, false, false, false, false, false, false, false, false, false, false, false], [false, false, false, false, false, false, false, false, false, false]]
theorem has4 : Has Tryd.prog 4 Tryd.f4 := ⟨Tryd.func4, by kernel_rfl, by kernel_rfl⟩
theorem Open_close (tt : TypeId) {h : List Obj} {v : Value} {l : List UInt8} {m : Nat} (hm : h.length = m) (hs : Sl h v (closeF l)) (hl : l.length ≤ 1000000) :
    AC Tryd.prog (GC tt) 13 [v] h (fun u h' => ∃ cp rest, u = .tuple #[slc m 0 l.length cp, .bool true] ∧ h' = h ++ [.cells ⟨l.map cU8 ++ rest⟩ 5] ∧ RowOf l cp rest) := by
  subst hm
  refine ac_mono (Open_s tt hs (by rw [closeF_length]; omega)) ?_
  rintro v h' (⟨h1, _⟩ | ⟨_, cp, rest, rfl, rfl, hr⟩)
  · rw [ok_close] at h1; cases h1
  · rw [pay_close] at *
    exact ⟨cp, rest, rfl, rfl, hr⟩
theorem Close_m (tt : TypeId) {h : List Obj} {m : Nat} (hm : h.length = m) {v : Value} {l : List UInt8} (hs : Sl h v l) (hl : l.length ≤ 100000000000) :
    AC Tryd.prog (GC tt) 22 [v] h (fun u h' => ∃ cp rest, u = slc m 0 (l.length + 4) cp ∧ h' = h ++ [.cells ⟨(closeF l).map cU8 ++ rest⟩ 5] ∧ RowOf (closeF l) cp rest) := by
  subst hm
  exact Close_s tt hs hl
theorem Burst_n (tt : TypeId) (a : Int) (s : BitVec 32) : AC Tryd.prog (GC tt) 4 [.slice none 0 0, .int .i64 a, W32 s] [] (fun v h => v = .bool true ∧ h = []) := by
  obtain ⟨l, hl0⟩ : ∃ l : List UInt8, l = [] := ⟨_, rfl⟩
  have h600 : l.length ≤ 600 := by rw [hl0]; decide
  have hln : l.length = 0 := by rw [hl0]; rfl
  refine ac_of_body tabOk has4 ?_
  unfold BodyOk
  conv => whnf
  refine ac_mono (Close_m tt (h := []) (m := 0) rfl (.inl ⟨rfl, hl0⟩) (by omega)) ?_
  rintro v h' ⟨cp1, rest1, rfl, rfl, hr1⟩
  conv => whnf
  have k1 := sl_new (h := [.cells ⟨(closeF l).map cU8 ++ rest1⟩ 5]) (m := 0) (g := (0, 0)) rfl hr1
  rw [closeF_length] at k1
  refine ac_mono (Open_close tt (m := 1) rfl k1 (by omega)) ?_
  rintro v h' ⟨cp2, rest2, rfl, rfl, hr2⟩
  conv => whnf
  refine way0 (by rw [hln]; rfl) ?_
  conv => whnf
  have k2 := sl_new (h := [.cells ⟨(closeF l).map cU8 ++ rest1⟩ 5, .cells ⟨l.map cU8 ++ rest2⟩ 5]) (m := 1) (g := (0, 0)) rfl hr2
  have k0 : Sl [.cells ⟨(closeF l).map cU8 ++ rest1⟩ 5, .cells ⟨l.map cU8 ++ rest2⟩ 5] (.slice none 0 0) l := Sl.app (h := []) (.inl ⟨rfl, hl0⟩) [_, _]
  refine ac_mono (Equal21_s (GC tt) k2 k0) ?_
  rintro v h' ⟨rfl, rfl⟩
  conv => whnf
  refine way0 (by simp) ?_
  conv => whnf
  have en : wrapS .i64 (wrapS .i64 (8 * ((l.length + 4 : Nat) : Int)) - 31) = ((8 * l.length + 1 : Nat) : Int) := by
    rw [wrap64 (n := 8 * ((l.length + 4 : Nat) : Int)) (by omega) (by omega), wrap64 (by omega) (by omega)]; omega
  rw [en]
  have nz : (!(((8 * l.length + 1 : Nat) : Int) == 0)) = true := by simp; omega
  refine way1 (q := False) (by exact nz) ?_
  conv => whnf
  refine way1 (q := False) (by exact nz) ?_
  conv => whnf
  obtain ⟨k, hk, ek⟩ := place_ok (n := 8 * l.length + 1) (by omega) (by omega) a
  rw [ek]
  refine ao_grow (lx := 0) (cx := 0) (ly := l.length + 4) (olds := []) (news := (closeF l).map cU8) (px := some ⟨2, 0, some 0⟩) (vx := slc 2 0 0 0) (vy := slc 0 0 (l.length + 4) cp1) (i := ti23) (j := ti5) (e := 5) tabOk rfl (by conv => whnf) (by conv => whnf) rfl rfl rfl rfl rfl rfl
    (.row (ob := .cells ⟨[]⟩ 5) rfl (fun j x hj => by simp at hj) rfl (by simp)) (.row (ob := .cells ⟨(closeF l).map cU8 ++ rest1⟩ 5) rfl ?_ (by show _ = (l.length + 4) * 1; simp [closeF_length]) (cU8_clean _)) (by omega) (by show (0 + (l.length + 4)) * 1 ≤ _; omega) (by omega) ?_
  · intro j x hj
    show ((closeF l).map cU8 ++ rest1).toArray[0 + j]? = some x
    rw [Nat.zero_add, List.getElem?_toArray, List.getElem?_append_left (List.getElem?_eq_some_iff.1 hj).1]
    exact hj
  intro cp3 hcp3
  conv => whnf
  rw [Nat.zero_add (l.length + 4)] at *
  have hcb : ∀ x ∈ ((closeF l).map cU8 ++ (Builtin.zeroCells ti5.zero.cells (cp3 - (l.length + 4))).toList), cleanV x = true := by
    intro x hx
    rcases List.mem_append.1 hx with hx | hx
    · exact cU8_clean _ x hx
    · exact zeros_clean ti5.zero.cells rfl _ x hx
  refine aw_inv tabOk maskW (fun m s' => ∃ (i : Nat) (d : List UInt8) (c3 : Array Value), m = 32 - i ∧ i ≤ 32 ∧ TurnedTo (closeF l) k (fun j => s.toNat.testBit j) i d ∧ l.length + 4 ≤ c3.size ∧ (∀ x ∈ c3.toList, cleanV x = true) ∧ Win c3 0 d ∧
    s' = ⟨[[.slice none 0 0, .int .i64 (k : Int), W32 s, .chan none, .chan none, .chan none, .bool false, .chan none, .chan none, .chan none, .chan none, slc 3 0 (l.length + 4) cp3, .int .i64 (i : Int), .chan none, .chan none, .chan none],
        [.chan none, .chan none, .chan none, .chan none, .chan none, .chan none, .chan none, .chan none, .chan none, .chan none, .chan none, .chan none, .chan none, .chan none, .chan none, .chan none],
        [.chan none, .chan none, .chan none, .chan none, .chan none, .chan none, .chan none, .chan none, .chan none, .chan none, .chan none, .chan none, .chan none, .chan none, .chan none, .chan none],
        [.chan none, .chan none, .chan none, .chan none, .chan none, .chan none, .chan none, .chan none, .chan none, .chan none, .chan none, .chan none, .chan none, .chan none, .chan none, .chan none],
        [.chan none, .chan none, .chan none, .chan none, .chan none, .chan none, .chan none, .chan none, .chan none, .chan none, .chan none, .chan none, .chan none, .chan none, .chan none, .chan none],
        [.chan none, .chan none, .chan none, .chan none, .chan none, .chan none, .chan none, .chan none, .chan none, .chan none, .chan none, .chan none, .chan none, .chan none, .chan none, .chan none],
        [.chan none, .chan none, .chan none, .chan none, .chan none, .chan none, .chan none, .chan none, .chan none, .chan none]],
      [.cells ⟨(closeF l).map cU8 ++ rest1⟩ 5, .cells ⟨l.map cU8 ++ rest2⟩ 5, .cells #[] 5, .cells c3 5], []⟩) 32 ?_ ⟨0, closeF l, ⟨(closeF l).map cU8 ++ (Builtin.zeroCells ti5.zero.cells (cp3 - (l.length + 4))).toList⟩, rfl, Nat.zero_le _, turned_zero _ _ _, ?_, hcb, win_own, ?_⟩
  rotate_left
  · show _ ≤ ((closeF l).map cU8 ++ _).length
    rw [List.length_append, List.length_map, closeF_length]; omega
  · rfl
  rintro m s' ⟨i, d, c3, rfl, hi, hd, hsz, hcl, hw3, rfl⟩
  conv => whnf
  refine ways (fun h2 => ?_) (fun h2 => ?_) <;> conv => whnf
  · have hlt : i < 32 := by have := of_decide_eq_true h2; omega
    refine way1 (q := False) (by rw [u64m (by omega)]; simp) ?_
    conv => whnf
    rw [bit_32 s hlt]
    refine ways (fun h3 => ?_) (fun h3 => ?_) <;> conv => whnf
    · rw [idx_div (k := k) (i := i) (by omega)]
      have hlen : (k + i) / 8 < l.length + 4 := by omega
      have hdl : d.length = l.length + 4 := by rw [hd.1, closeF_length]
      obtain ⟨x, hx⟩ : ∃ x, d[(k + i) / 8]? = some x := ⟨_, List.getElem?_eq_getElem (by omega)⟩
      refine way1 (by rw [decide_eq_true_iff]; omega) ?_
      conv => whnf
      refine nthK_of (l := c3.toList) (hw3.at hx) ?_
      conv => whnf
      rw [idx_mod (k := k) (i := i) (by omega)]
      have hr8 : (k + i) % 8 < 8 := Nat.mod_lt _ (by decide)
      refine way1 (q := False) (by rw [u64m (by omega)]; simp; omega) ?_
      conv => whnf
      rw [mask_at hr8]
      refine way1 (by rw [decide_eq_true_iff]; omega) ?_
      conv => whnf
      refine write_u8 (c := c3) (i := (k + i) / 8) (z := x ^^^ maskB ((k + i) % 8)) (by omega) (by rw [xor_8w]) ?_
      intro c' hs' hat hcl'
      conv => whnf
      rw [show wrapS .i64 ((i : Int) + 1) = ((i + 1 : Nat) : Int) by rw [wrap64 (by omega) (by omega)]; omega]
      have hset : ∀ q, (d.set ((k + i) / 8) (x ^^^ maskB ((k + i) % 8)))[q]? = if q = (k + i) / 8 then some (x ^^^ maskB ((k + i) % 8)) else d[q]? := set_at hx
      exact ⟨32 - (i + 1), by omega, i + 1, d.set ((k + i) / 8) (x ^^^ maskB ((k + i) % 8)), c', rfl, by omega, turned_step hd h3 (by simp) hx hset, by omega, hcl' hcl, win_set hw3 hset hat, rfl⟩
    · rw [show wrapS .i64 ((i : Int) + 1) = ((i + 1 : Nat) : Int) by rw [wrap64 (by omega) (by omega)]; omega]
      exact ⟨32 - (i + 1), by omega, i + 1, d, c3, rfl, by omega, turned_skip hd h3, hsz, hcl, hw3, rfl⟩
  · have hi32 : i = 32 := by have := of_decide_eq_false h2; omega
    subst hi32
    have hb : okF d = true ↔ s = 0#32 := (burst_ok (by omega) hd).trans (bits_none s)
    have hdl : d.length = l.length + 4 := by rw [hd.1, closeF_length]
    have sd : Sl [.cells ⟨(closeF l).map cU8 ++ rest1⟩ 5, .cells ⟨l.map cU8 ++ rest2⟩ 5, .cells #[] 5, .cells c3 5] (slc 3 0 (l.length + 4) cp3) d := .inr ⟨3, 0, cp3, c3, 5, by rw [hdl], .inr ⟨hcl, _, rfl⟩, hw3, by omega⟩
    refine ac_mono (Open_s tt (h := [.cells ⟨(closeF l).map cU8 ++ rest1⟩ 5, .cells ⟨l.map cU8 ++ rest2⟩ 5, .cells #[] 5, .cells c3 5]) sd (by omega)) ?_
    rintro v h' (⟨hf, rfl, rfl⟩ | ⟨ht, cp4, rest4, rfl, rfl, hr4⟩)
    · have hs0 : s ≠ 0#32 := fun h => by rw [hb.2 h] at hf; cases hf
      conv => whnf
      refine way1 (by rw [zero_beq s, decide_eq_false hs0]; rfl) ?_
      conv => whnf
      refine ac_pure (wakes_c tt) rfl ?_
      rintro v h' ⟨rfl, rfl⟩
      refine ⟨rfl, rfl, ?_⟩
      conv => whnf
      refine ⟨rfl, fin_turnedK rfl ?_⟩
      conv => whnf
      exact ⟨rfl, rfl⟩
    · have hs0 : s = 0#32 := hb.1 ht
      conv => whnf
      refine way1 (by rw [zero_beq s, decide_eq_true hs0]; rfl) ?_
      conv => whnf
      refine ac_pure (wakes_c tt) rfl ?_
      rintro v h' ⟨rfl, rfl⟩
      refine ⟨rfl, rfl, ?_⟩
      conv => whnf
      refine ⟨rfl, fin_turnedK rfl ?_⟩
      conv => whnf
      exact ⟨rfl, rfl⟩
  
theorem Burst_r (tt : TypeId) (a : Int) (s : BitVec 32) (c : Array Value) (t : TypeId) (off cap : Nat) (l : List UInt8) (hw : Win c off l) (hcap : l.length ≤ cap) :
    AC Tryd.prog (GC tt) 4 [slc 0 off l.length cap, .int .i64 a, W32 s] [.pending c t] (fun v h => v = .bool true ∧ h = [.pending c t]) := by
  refine ac_of_body tabOk has4 ?_
  unfold BodyOk
  conv => whnf
  refine ways (fun h1 => ?_) (fun h1 => ?_) <;> conv => whnf
  · refine ac_pure (wakes_c tt) rfl ?_
    rintro v h' ⟨rfl, rfl⟩
    refine ⟨rfl, rfl, ?_⟩
    conv => whnf
    refine ⟨rfl, fin_turnedK rfl ?_⟩
    conv => whnf
    exact ⟨rfl, rfl⟩
  have h600 : l.length ≤ 600 := by
    have : ¬ ((l.length : Int) > 600) := by simpa using h1
    omega
  refine ac_mono (Close_m tt (h := [.pending c t]) (m := 1) rfl (.inr ⟨0, off, cap, c, t, rfl, .inl rfl, hw, hcap⟩) (by omega)) ?_
  rintro v h' ⟨cp1, rest1, rfl, rfl, hr1⟩
  conv => whnf
  have k1 := sl_new (h := [.pending c t, .cells ⟨(closeF l).map cU8 ++ rest1⟩ 5]) (m := 1) (g := (0, 0)) rfl hr1
  rw [closeF_length] at k1
  refine ac_mono (Open_close tt (m := 2) rfl k1 (by omega)) ?_
  rintro v h' ⟨cp2, rest2, rfl, rfl, hr2⟩
  conv => whnf
  refine way0 (by rw [wrap64 (by omega) (by omega)]; simp) ?_
  conv => whnf
  have k2 := sl_new (h := [.pending c t, .cells ⟨(closeF l).map cU8 ++ rest1⟩ 5, .cells ⟨l.map cU8 ++ rest2⟩ 5]) (m := 2) (g := (0, 0)) rfl hr2
  have k0 : Sl [.pending c t, .cells ⟨(closeF l).map cU8 ++ rest1⟩ 5, .cells ⟨l.map cU8 ++ rest2⟩ 5] (slc 0 off l.length cap) l := Sl.app (h := [.pending c t]) (.inr ⟨0, off, cap, c, t, rfl, .inl rfl, hw, hcap⟩) [_, _]
  refine ac_mono (Equal21_s (GC tt) k2 k0) ?_
  rintro v h' ⟨rfl, rfl⟩
  conv => whnf
  refine way0 (by simp) ?_
  conv => whnf
  have en : wrapS .i64 (wrapS .i64 (8 * ((l.length + 4 : Nat) : Int)) - 31) = ((8 * l.length + 1 : Nat) : Int) := by
    rw [wrap64 (n := 8 * ((l.length + 4 : Nat) : Int)) (by omega) (by omega), wrap64 (by omega) (by omega)]; omega
  rw [en]
  have nz : (!(((8 * l.length + 1 : Nat) : Int) == 0)) = true := by simp; omega
  refine way1 (q := False) (by exact nz) ?_
  conv => whnf
  refine way1 (q := False) (by exact nz) ?_
  conv => whnf
  obtain ⟨k, hk, ek⟩ := place_ok (n := 8 * l.length + 1) (by omega) (by omega) a
  rw [ek]
  refine ao_grow (lx := 0) (cx := 0) (ly := l.length + 4) (olds := []) (news := (closeF l).map cU8) (px := some ⟨3, 0, some 0⟩) (vx := slc 3 0 0 0) (vy := slc 1 0 (l.length + 4) cp1) (i := ti23) (j := ti5) (e := 5) tabOk rfl (by conv => whnf) (by conv => whnf) rfl rfl rfl rfl rfl rfl
    (.row (ob := .cells ⟨[]⟩ 5) rfl (fun j x hj => by simp at hj) rfl (by simp)) (.row (ob := .cells ⟨(closeF l).map cU8 ++ rest1⟩ 5) rfl ?_ (by show _ = (l.length + 4) * 1; simp [closeF_length]) (cU8_clean _)) (by omega) (by show (0 + (l.length + 4)) * 1 ≤ _; omega) (by omega) ?_
  · intro j x hj
    show ((closeF l).map cU8 ++ rest1).toArray[0 + j]? = some x
    rw [Nat.zero_add, List.getElem?_toArray, List.getElem?_append_left (List.getElem?_eq_some_iff.1 hj).1]
    exact hj
  intro cp3 hcp3
  conv => whnf
  rw [Nat.zero_add (l.length + 4)] at *
  have hcb : ∀ x ∈ ((closeF l).map cU8 ++ (Builtin.zeroCells ti5.zero.cells (cp3 - (l.length + 4))).toList), cleanV x = true := by
    intro x hx
    rcases List.mem_append.1 hx with hx | hx
    · exact cU8_clean _ x hx
    · exact zeros_clean ti5.zero.cells rfl _ x hx
  refine aw_inv tabOk maskW (fun m s' => ∃ (i : Nat) (d : List UInt8) (c3 : Array Value), m = 32 - i ∧ i ≤ 32 ∧ TurnedTo (closeF l) k (fun j => s.toNat.testBit j) i d ∧ l.length + 4 ≤ c3.size ∧ (∀ x ∈ c3.toList, cleanV x = true) ∧ Win c3 0 d ∧
    s' = ⟨[[slc 0 off l.length cap, .int .i64 (k : Int), W32 s, .chan none, .chan none, .chan none, .bool false, .chan none, .chan none, .chan none, .chan none, slc 4 0 (l.length + 4) cp3, .int .i64 (i : Int), .chan none, .chan none, .chan none],
        [.chan none, .chan none, .chan none, .chan none, .chan none, .chan none, .chan none, .chan none, .chan none, .chan none, .chan none, .chan none, .chan none, .chan none, .chan none, .chan none],
        [.chan none, .chan none, .chan none, .chan none, .chan none, .chan none, .chan none, .chan none, .chan none, .chan none, .chan none, .chan none, .chan none, .chan none, .chan none, .chan none],
        [.chan none, .chan none, .chan none, .chan none, .chan none, .chan none, .chan none, .chan none, .chan none, .chan none, .chan none, .chan none, .chan none, .chan none, .chan none, .chan none],
        [.chan none, .chan none, .chan none, .chan none, .chan none, .chan none, .chan none, .chan none, .chan none, .chan none, .chan none, .chan none, .chan none, .chan none, .chan none, .chan none],
        [.chan none, .chan none, .chan none, .chan none, .chan none, .chan none, .chan none, .chan none, .chan none, .chan none, .chan none, .chan none, .chan none, .chan none, .chan none, .chan none],
        [.chan none, .chan none, .chan none, .chan none, .chan none, .chan none, .chan none, .chan none, .chan none, .chan none]],
      [.pending c t, .cells ⟨(closeF l).map cU8 ++ rest1⟩ 5, .cells ⟨l.map cU8 ++ rest2⟩ 5, .cells #[] 5, .cells c3 5], []⟩) 32 ?_ ⟨0, closeF l, ⟨(closeF l).map cU8 ++ (Builtin.zeroCells ti5.zero.cells (cp3 - (l.length + 4))).toList⟩, rfl, Nat.zero_le _, turned_zero _ _ _, ?_, hcb, win_own, ?_⟩
  rotate_left
  · show _ ≤ ((closeF l).map cU8 ++ _).length
    rw [List.length_append, List.length_map, closeF_length]; omega
  · rfl
  rintro m s' ⟨i, d, c3, rfl, hi, hd, hsz, hcl, hw3, rfl⟩
  conv => whnf
  refine ways (fun h2 => ?_) (fun h2 => ?_) <;> conv => whnf
  · have hlt : i < 32 := by have := of_decide_eq_true h2; omega
    refine way1 (q := False) (by rw [u64m (by omega)]; simp) ?_
    conv => whnf
    rw [bit_32 s hlt]
    refine ways (fun h3 => ?_) (fun h3 => ?_) <;> conv => whnf
    · rw [idx_div (k := k) (i := i) (by omega)]
      have hlen : (k + i) / 8 < l.length + 4 := by omega
      have hdl : d.length = l.length + 4 := by rw [hd.1, closeF_length]
      obtain ⟨x, hx⟩ : ∃ x, d[(k + i) / 8]? = some x := ⟨_, List.getElem?_eq_getElem (by omega)⟩
      refine way1 (by rw [decide_eq_true_iff]; omega) ?_
      conv => whnf
      refine nthK_of (l := c3.toList) (hw3.at hx) ?_
      conv => whnf
      rw [idx_mod (k := k) (i := i) (by omega)]
      have hr8 : (k + i) % 8 < 8 := Nat.mod_lt _ (by decide)
      refine way1 (q := False) (by rw [u64m (by omega)]; simp; omega) ?_
      conv => whnf
      rw [mask_at hr8]
      refine way1 (by rw [decide_eq_true_iff]; omega) ?_
      conv => whnf
      refine write_u8 (c := c3) (i := (k + i) / 8) (z := x ^^^ maskB ((k + i) % 8)) (by omega) (by rw [xor_8w]) ?_
      intro c' hs' hat hcl'
      conv => whnf
      rw [show wrapS .i64 ((i : Int) + 1) = ((i + 1 : Nat) : Int) by rw [wrap64 (by omega) (by omega)]; omega]
      have hset : ∀ q, (d.set ((k + i) / 8) (x ^^^ maskB ((k + i) % 8)))[q]? = if q = (k + i) / 8 then some (x ^^^ maskB ((k + i) % 8)) else d[q]? := set_at hx
      exact ⟨32 - (i + 1), by omega, i + 1, d.set ((k + i) / 8) (x ^^^ maskB ((k + i) % 8)), c', rfl, by omega, turned_step hd h3 (by simp) hx hset, by omega, hcl' hcl, win_set hw3 hset hat, rfl⟩
    · rw [show wrapS .i64 ((i : Int) + 1) = ((i + 1 : Nat) : Int) by rw [wrap64 (by omega) (by omega)]; omega]
      exact ⟨32 - (i + 1), by omega, i + 1, d, c3, rfl, by omega, turned_skip hd h3, hsz, hcl, hw3, rfl⟩
  · have hi32 : i = 32 := by have := of_decide_eq_false h2; omega
    subst hi32
    have hb : okF d = true ↔ s = 0#32 := (burst_ok (by omega) hd).trans (bits_none s)
    have hdl : d.length = l.length + 4 := by rw [hd.1, closeF_length]
    have sd : Sl [.pending c t, .cells ⟨(closeF l).map cU8 ++ rest1⟩ 5, .cells ⟨l.map cU8 ++ rest2⟩ 5, .cells #[] 5, .cells c3 5] (slc 4 0 (l.length + 4) cp3) d := .inr ⟨4, 0, cp3, c3, 5, by rw [hdl], .inr ⟨hcl, _, rfl⟩, hw3, by omega⟩
    refine ac_mono (Open_s tt (h := [.pending c t, .cells ⟨(closeF l).map cU8 ++ rest1⟩ 5, .cells ⟨l.map cU8 ++ rest2⟩ 5, .cells #[] 5, .cells c3 5]) sd (by omega)) ?_
    rintro v h' (⟨hf, rfl, rfl⟩ | ⟨ht, cp4, rest4, rfl, rfl, hr4⟩)
    · have hs0 : s ≠ 0#32 := fun h => by rw [hb.2 h] at hf; cases hf
      conv => whnf
      refine way1 (by rw [zero_beq s, decide_eq_false hs0]; rfl) ?_
      conv => whnf
      refine ac_pure (wakes_c tt) rfl ?_
      rintro v h' ⟨rfl, rfl⟩
      refine ⟨rfl, rfl, ?_⟩
      conv => whnf
      refine ⟨rfl, fin_turnedK rfl ?_⟩
      conv => whnf
      exact ⟨rfl, rfl⟩
    · have hs0 : s = 0#32 := hb.1 ht
      conv => whnf
      refine way1 (by rw [zero_beq s, decide_eq_true hs0]; rfl) ?_
      conv => whnf
      refine ac_pure (wakes_c tt) rfl ?_
      rintro v h' ⟨rfl, rfl⟩
      refine ⟨rfl, rfl, ?_⟩
      conv => whnf
      refine ⟨rfl, fin_turnedK rfl ?_⟩
      conv => whnf
      exact ⟨rfl, rfl⟩
  
end Go.Proofs.YtjpjnjidchdlbaaDoor
