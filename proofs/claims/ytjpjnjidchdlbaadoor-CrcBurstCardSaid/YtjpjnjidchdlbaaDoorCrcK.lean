/-
  CrcParts: the walk.
-/
import Derived.Test.YtjpjnjidchdlbaaDoorCrcJ
import Derived.Test.YtjpjnjidchdlbaaDoorEngW
namespace Go.Proofs.YtjpjnjidchdlbaaDoor
set_option linter.unusedSimpArgs false
set_option linter.unusedVariables false
open Go
set_option maxRecDepth 100000
set_option maxHeartbeats 4000000
theorem has5 : Has Tryd.prog 5 Tryd.f5 := ⟨Tryd.func5, by kernel_rfl, by kernel_rfl⟩
def maskO : List (List Bool) := [[true, true, true, true, true, false, false, false, false, false, true, true, true, true, true, false], [false, false, false, false, false, false, false, false, false, false, false, false, false, false, false, false], [false, false, false, false, false, false, false, false, false, false, false, false, false, false, false, false], [false, false, false, false, false, false, false, false, false, false, false, false, false, false, false, false], [false, false, false, false, false, false, false, false, false, false, false, false, false, false, false, false], [false, false, false, false, false, false, false, false, false, false, false, false, false, false, false, false], [false, false, false, false, false, false, false, false, false, false, false, false, false, false, false, false], [false, false, false, false, false, false, false, false, false, false]]
def maskI : List (List Bool) := [[true, true, true, true, true, false, false, false, false, false, true, true, true, true, true, true], [false, false, false, false, false, false, false, false, false, false, false, false, false, false, false, false], [false, false, false, false, false, false, false, false, false, false, false, false, false, false, false, false], [false, false, false, false, false, false, false, false, false, false, false, false, false, false, false, false], [false, false, false, false, false, false, false, false, false, false, false, false, false, false, false, false], [false, false, false, false, false, false, false, false, false, false, false, false, false, false, false, false], [false, false, false, false, false, false, false, false, false, false, false, false, false, false, false, false], [false, false, false, false, false, false, false, false, false, false]]
/-- the bits that are left of a byte, high ones first -/
def remF (b : UInt8) : Nat → BitVec 32 → BitVec 32
  | 0, s => s
  | n + 1, s => remF b n (bitF s (b.toNat.testBit n))
theorem rem_byte (s : BitVec 32) (b : UInt8) : remF b 8 s = byteF s b := bits_byte s b
theorem cut_ok {n : Nat} (hn : n ≤ 300) (k : Int) :
    ∃ q : Nat, q ≤ n ∧ (wrapS .i64 (wrapS .i64 (k.tmod (wrapS .i64 ((n : Int) + 1)) + (n : Int)) + 1)).tmod (wrapS .i64 ((n : Int) + 1)) = (q : Int) := by
  have en : wrapS .i64 ((n : Int) + 1) = (n : Int) + 1 := wrap64 (by omega) (by omega)
  rw [en]
  have h1 : -((n : Int) + 1) < k.tmod ((n : Int) + 1) := Int.lt_tmod_of_pos k (by omega)
  have h2 : k.tmod ((n : Int) + 1) < (n : Int) + 1 := Int.tmod_lt_of_pos k (by omega)
  have e1 : wrapS .i64 (k.tmod ((n : Int) + 1) + (n : Int)) = k.tmod ((n : Int) + 1) + (n : Int) := wrap64 (by omega) (by omega)
  rw [e1]
  have e2 : wrapS .i64 (k.tmod ((n : Int) + 1) + (n : Int) + 1) = k.tmod ((n : Int) + 1) + (n : Int) + 1 := wrap64 (by omega) (by omega)
  rw [e2, Int.tmod_eq_emod_of_nonneg (by omega)]
  have h3 := Int.emod_nonneg (k.tmod ((n : Int) + 1) + (n : Int) + 1) (show (n : Int) + 1 ≠ 0 by omega)
  have h4 := Int.emod_lt_of_pos (k.tmod ((n : Int) + 1) + (n : Int) + 1) (show (0 : Int) < (n : Int) + 1 by omega)
  exact ⟨((k.tmod ((n : Int) + 1) + (n : Int) + 1) % ((n : Int) + 1)).toNat, by omega, by omega⟩
theorem write_u8 {c : Array Value} {i : Nat} {v : Value} {z : UInt8} {k : List Value → Prop} (hn : i < c.size) (hv : v = cU8 z)
    (h : ∀ c' : Array Value, c'.size = c.size → (∀ j : Nat, c'[j]? = if j = i then some (cU8 z) else c[j]?) → ((∀ x ∈ c.toList, cleanV x = true) → ∀ x ∈ c'.toList, cleanV x = true) → k c'.toList) : writeK c.toList (0 + Int.toNat (i : Int) * 1) [v] k := by
  have e : 0 + Int.toNat (i : Int) * 1 = i := by simp
  rw [e]
  subst hv
  refine writeK_of (by show i + 1 ≤ c.toList.length; rw [Array.length_toList]; omega) ?_
  have h2 := h (c.setIfInBounds i (cU8 z)) (by simp) (fun j => ?_) (fun hc x hx => ?_)
  · have e2 : (c.setIfInBounds i (cU8 z)).toList = c.toList.take i ++ [cU8 z] ++ c.toList.drop (i + 1) := by
      rw [Array.toList_setIfInBounds, List.set_eq_take_append_cons_drop, if_pos (by simpa using hn)]
      simp
    rw [e2] at h2
    exact h2
  · rw [Array.getElem?_setIfInBounds]
    by_cases hj : i = j
    · rw [if_pos hj, if_pos (by omega), if_pos hj.symm]
    · rw [if_neg hj, if_neg (fun h => hj h.symm)]
  · rw [Array.toList_setIfInBounds] at hx
    rcases List.mem_or_eq_of_mem_set hx with hx | rfl
    · exact hc x hx
    · rfl
theorem xor_8w (x y : UInt8) : wrapS .u8 (((BitVec.ofInt (IntKind.bits .u8) (x.toNat : Int) ^^^ BitVec.ofInt (IntKind.bits .u8) (y.toNat : Int)).toNat : Nat) : Int) = ((x ^^^ y : UInt8).toNat : Int) := by
  show wrapS .u8 (((BitVec.ofInt 8 (x.toNat : Int) ^^^ BitVec.ofInt 8 (y.toNat : Int)).toNat : Nat) : Int) = _
  rw [ofInt_8, ofInt_8, wrap_u8]
  have h1 : (x.toBitVec ^^^ y.toBitVec).toNat = (x ^^^ y).toNat := rfl
  rw [h1]
  have := (x ^^^ y).toNat_lt
  omega
theorem xorL_at {a b : List UInt8} {i : Nat} {u v : UInt8} (hu : a[i]? = some u) (hv : b[i]? = some v) : (xorL a b)[i]? = some (u ^^^ v) := by
  unfold xorL
  rw [List.getElem?_zipWith, hu, hv]
theorem win_write {c c' : Array Value} {l : List UInt8} {i : Nat} {z : UInt8} (hw : Win c 0 (l.take i)) (hz : l[i]? = some z) (h : ∀ j : Nat, c'[j]? = if j = i then some (cU8 z) else c[j]?) : Win c' 0 (l.take (i + 1)) := by
  intro j b hj
  rw [List.getElem?_take] at hj
  split at hj
  · rename_i hji
    rw [Nat.zero_add, h j]
    by_cases e : j = i
    · subst e
      rw [hz] at hj
      cases hj
      rw [if_pos rfl]
    · rw [if_neg e]
      have := hw j b (by rw [List.getElem?_take, if_pos (by omega)]; exact hj)
      rw [Nat.zero_add] at this
      exact this
  · cases hj
theorem u64n {n : Nat} (h : n < 9) : wrapS .u64 (n : Int) = (n : Int) := by
  rw [wrapS_eq]; simp [IntKind.wrap, IntKind.signed, IntKind.bits]; omega
theorem bit_at (u : UInt8) {n : Nat} (h : n < 8) :
    (wrapS .u8 (((BitVec.ofInt (IntKind.bits .u8) ((u.toNat : Int).fdiv (2 ^ min (Int.toNat (wrapS .u64 (n : Int))) (IntKind.bits .u8))) &&& BitVec.ofInt (IntKind.bits .u8) 1).toNat : Nat) : Int) == 1) = u.toNat.testBit n := by
  rw [u64n (by omega), Int.toNat_natCast, show min n (IntKind.bits .u8) = n from Nat.min_eq_left (by show n ≤ 8; omega), and_8, shr_8]
  have e : BitVec.ofInt 8 (((u.toBitVec >>> n).toNat : Nat) : Int) = u.toBitVec >>> n := by
    rw [BitVec.ofInt_natCast]; apply BitVec.eq_of_toNat_eq; simp
    rw [Nat.shiftRight_eq_div_pow]; exact Nat.lt_of_le_of_lt (Nat.div_le_self _ _) u.toNat_lt
  have e1 : (u.toBitVec >>> n &&& BitVec.ofInt 8 1).toNat = (u.toNat >>> n) % 2 := by
    rw [BitVec.toNat_and, BitVec.toNat_ushiftRight]
    exact Nat.and_one_is_mod _
  show (((BitVec.ofInt 8 (((u.toBitVec >>> n).toNat : Nat) : Int) &&& BitVec.ofInt 8 1).toNat : Int) == 1) = _
  rw [e, e1, Nat.testBit_eq_decide_div_mod_eq, Nat.shiftRight_eq_div_pow, Bool.eq_iff_iff]
  simp only [beq_iff_eq, decide_eq_true_eq]
  omega
abbrev Blk (h : List Obj) (m : Nat) (c : Array Value) (t : TypeId) : Prop := h[m]? = some (.pending c t) ∨ ((∀ x ∈ c.toList, cleanV x = true) ∧ ∃ g, h[m]? = some (.cells c t g))
theorem sl_take {h : List Obj} {m off cap : Nat} {c : Array Value} {t : TypeId} {l : List UInt8} (hb : Blk h m c t) (hw : Win c off l) (hc : l.length ≤ cap) {q : Nat} (hq : q ≤ l.length) :
    Sl h (.slice (some (sliceAddr ⟨m, off, some 0⟩ 0 cap ti23.esz)) ((q : Int).toNat - 0) (cap - 0)) (l.take q) := by
  refine .inr ⟨m, off, cap, c, t, ?_, hb, hw.take q, by simp; omega⟩
  rw [sliceAddr0, List.length_take, Nat.min_eq_left hq]
  rfl
theorem sl_drop {h : List Obj} {m off cap : Nat} {c : Array Value} {t : TypeId} {l : List UInt8} (hb : Blk h m c t) (hw : Win c off l) (hc : l.length ≤ cap) {q : Nat} (hq : q ≤ l.length) :
    Sl h (.slice (some (sliceAddr ⟨m, off, some 0⟩ (q : Int).toNat cap ti23.esz)) (l.length - (q : Int).toNat) (cap - (q : Int).toNat)) (l.drop q) := by
  by_cases he : q = cap
  · refine .inr ⟨m, off, cap - q, c, t, ?_, hb, ?_, ?_⟩
    · rw [Int.toNat_natCast, List.length_drop]
      unfold sliceAddr
      rw [if_pos he.symm]
    · intro j u hj
      rw [List.drop_eq_nil_of_le (by omega)] at hj
      simp at hj
    · rw [List.length_drop]; omega
  · refine .inr ⟨m, off + q * 1, cap - q, c, t, ?_, hb, ?_, ?_⟩
    · rw [Int.toNat_natCast, sliceAddrN (fun h => he h.symm), List.length_drop]
      rfl
    · have := hw.drop q
      simpa using this
    · rw [List.length_drop]; omega
theorem Go_q (tt : TypeId) {h0 : List Obj} {s : St} {d : Option Nat} {K : St → Prop} {st : BitVec 32} {v : Value} {l : List UInt8} (hs : Sl h0 v l) (hl : l.length ≤ 1000000000000) (hk : putK s d (W32 (goF st l)) K) :
    Quiet Tryd.prog (GC tt) h0 17 [W32 st, v] fun v => putK s d v K := by
  intro h hp
  refine ac_mono (Go_s tt st (hs.pre hp) hl) ?_
  rintro v h' ⟨rfl, rfl⟩
  exact ⟨rfl, rfl, hk⟩
theorem Seal_q (tt : TypeId) {h0 : List Obj} {s : St} {d : Option Nat} {K : St → Prop} {v : Value} {l : List UInt8} (hs : Sl h0 v l) (hl : l.length ≤ 1000000000000) (hk : putK s d (W32 (sealF l)) K) :
    Quiet Tryd.prog (GC tt) h0 19 [v] fun v => putK s d v K := by
  intro h hp
  refine ac_mono (Seal_s tt (hs.pre hp) hl) ?_
  rintro v h' ⟨rfl, rfl⟩
  exact ⟨rfl, rfl, hk⟩
theorem wakes_q (tt : TypeId) {h0 : List Obj} {s : St} {d : Option Nat} {K : St → Prop} (hk : putK s d (.bool true) K) : Quiet Tryd.prog (GC tt) h0 12 [] fun v => putK s d v K := by
  refine quiet_of (wakes_c tt) rfl ?_
  rintro v h' ⟨rfl, rfl⟩
  exact ⟨rfl, rfl, hk⟩
theorem made_clean (n : Nat) : ∀ v ∈ (madeCells ti5.zero.cells (n * ti5.size)).toList, cleanV v = true := by
  intro v hv
  simp only [madeCells, Array.toList_map, List.mem_map] at hv
  obtain ⟨q, hq, rfl⟩ := hv
  have e : q % ti5.zero.cells.size = 0 := Nat.mod_one q
  rw [e]
  rfl
theorem Parts_rr (tt : TypeId) (x y : Array Value) (tx ty : TypeId) (ox oy cx cy : Nat) (a b : List UInt8) (hx : Win x ox a) (hy : Win y oy b) (hcx : a.length ≤ cx) (hcy : b.length ≤ cy)
    (ha : a.length ≤ 9223372036854775807) (hb : b.length ≤ 9223372036854775807) (k : Int) (s t : BitVec 32) :
    AC Tryd.prog (GC tt) 5 [slc 0 ox a.length cx, slc 1 oy b.length cy, .int .i64 k, W32 s, W32 t] [.pending x tx, .pending y ty] (fun v h => v = .bool true ∧ h = [.pending x tx, .pending y ty]) := by
  refine ac_of_body tabOk has5 ?_
  unfold BodyOk
  conv => whnf
  refine ways (fun h1 => ?_) (fun h1 => ?_) <;> conv => whnf
  · refine ac_pure (wakes_c tt) rfl ?_
    rintro v h' ⟨rfl, rfl⟩
    refine ⟨rfl, rfl, ?_⟩
    conv => whnf
    refine ⟨rfl, fin_turnedK rfl ?_⟩
    conv => whnf
    exact ⟨rfl, rfl⟩
  have h300 : a.length ≤ 300 := by
    have : ¬ ((a.length : Int) > 300) := by simpa using h1
    omega
  refine ways (fun h2 => ?_) (fun h2 => ?_) <;> conv => whnf
  · refine ac_pure (wakes_c tt) rfl ?_
    rintro v h' ⟨rfl, rfl⟩
    refine ⟨rfl, rfl, ?_⟩
    conv => whnf
    refine ⟨rfl, fin_turnedK rfl ?_⟩
    conv => whnf
    exact ⟨rfl, rfl⟩
  have hab : b.length = a.length := by
    have : ¬ ((b.length : Int) ≠ (a.length : Int)) := by simpa using h2
    omega
  have en : wrapS .i64 ((a.length : Int) + 1) = ((a.length + 1 : Nat) : Int) := by rw [wrap64 (by omega) (by omega)]; omega
  refine way1 (by rw [en]; simp; omega) ?_
  conv => whnf
  refine way1 (by rw [en]; simp; omega) ?_
  conv => whnf
  obtain ⟨q, hq, eq⟩ := cut_ok h300 k
  rw [eq]
  refine ao_make tabOk rfl (l := a.length) (c := a.length) (by conv => whnf) (by conv => whnf) (i := ti23) (j := ti5) (e := 5) rfl rfl rfl rfl rfl (Nat.le_refl _) (by show (1 : Int) * _ ≤ _; omega) (by omega) rfl ?_
  conv => whnf
  refine aw_inv tabOk maskO (fun m s' => ∃ (i : Nat) (st : BitVec 32) (c : Array Value), m = a.length - i ∧ i ≤ a.length ∧ goF s (a.take i) = st ∧ c.size = a.length ∧ (∀ v ∈ c.toList, cleanV v = true) ∧ Win c 0 ((xorL a b).take i) ∧
    s' = ⟨[[slc 0 ox a.length cx, slc 1 oy b.length cy, .int .i64 (q : Int), W32 s, W32 t, .chan none, .chan none, .chan none, .chan none, .chan none, .bool false, .int .i64 (a.length : Int), slc 2 0 a.length a.length, W32 st, .int .i64 (i : Int), .chan none],
      [.chan none, .chan none, .chan none, .chan none, .chan none, .chan none, .chan none, .chan none, .chan none, .chan none, .chan none, .chan none, .chan none, .chan none, .chan none, .chan none],
      [.chan none, .chan none, .chan none, .chan none, .chan none, .chan none, .chan none, .chan none, .chan none, .chan none, .chan none, .chan none, .chan none, .chan none, .chan none, .chan none],
      [.chan none, .chan none, .chan none, .chan none, .chan none, .chan none, .chan none, .chan none, .chan none, .chan none, .chan none, .chan none, .chan none, .chan none, .chan none, .chan none],
      [.chan none, .chan none, .chan none, .chan none, .chan none, .chan none, .chan none, .chan none, .chan none, .chan none, .chan none, .chan none, .chan none, .chan none, .chan none, .chan none],
      [.chan none, .chan none, .chan none, .chan none, .chan none, .chan none, .chan none, .chan none, .chan none, .chan none, .chan none, .chan none, .chan none, .chan none, .chan none, .chan none],
      [.chan none, .chan none, .chan none, .chan none, .chan none, .chan none, .chan none, .chan none, .chan none, .chan none, .chan none, .chan none, .chan none, .chan none, .chan none, .chan none],
      [.chan none, .chan none, .chan none, .chan none, .chan none, .chan none, .chan none, .chan none, .chan none, .chan none]],
      [.pending x tx, .pending y ty, .cells c 5], []⟩) a.length ?_ ⟨0, s, _, rfl, Nat.zero_le _, rfl, ?_, ?_, ?_, rfl⟩
  rotate_left
  · rw [size_madeCells]; exact Nat.mul_one _
  · exact made_clean a.length
  · intro j u hj
    simp at hj
  rintro m s' ⟨i, st, c, rfl, hi, hst, hcs, hcl, hw, rfl⟩
  conv => whnf
  refine ways (fun h3 => ?_) (fun h3 => ?_) <;> conv => whnf
  · have hlt : i < a.length := by simpa using h3
    obtain ⟨u, hu⟩ : ∃ u, a[i]? = some u := ⟨_, List.getElem?_eq_getElem hlt⟩
    obtain ⟨v, hv⟩ : ∃ v, b[i]? = some v := ⟨_, List.getElem?_eq_getElem (by omega)⟩
    refine ad_of tabOk (by kernel_rfl) [(0, false), (1, false), (2, false), (3, false), (4, false), (5, false), (6, false), (7, false), (8, false), (9, false), (10, false), (11, false), (12, true)] (by kernel_rfl) ?_
    conv => whnf
    refine way1 (by simp; omega) ?_
    conv => whnf
    refine nthK_of (l := x.toList) (hx.at hu) ?_
    conv => whnf
    refine way1 (by simp; omega) ?_
    conv => whnf
    refine nthK_of (l := y.toList) (hy.at hv) ?_
    conv => whnf
    refine way1 (by simp; omega) ?_
    conv => whnf
    refine write_u8 (c := c) (i := i) (by omega) (by rw [xor_8w]) ?_
    intro c' hs' hat hcl'
    conv => whnf
    refine aw_inv tabOk maskI (fun m s' => ∃ (n : Nat) (sn : BitVec 32), m = n ∧ n ≤ 8 ∧ remF u n sn = byteF st u ∧
      s' = ⟨[[slc 0 ox a.length cx, slc 1 oy b.length cy, .int .i64 (q : Int), W32 s, W32 t, .chan none, .chan none, .chan none, .chan none, .chan none, .bool false, .int .i64 (a.length : Int), slc 2 0 a.length a.length, W32 sn, .int .i64 (i : Int), .int .i64 ((n : Int) - 1)],
      [.chan none, .chan none, .chan none, .chan none, .chan none, .chan none, .chan none, .chan none, .chan none, .chan none, .chan none, .chan none, .chan none, .chan none, .chan none, .chan none],
      [.chan none, .chan none, .chan none, .chan none, .chan none, .chan none, .chan none, .chan none, .chan none, .chan none, .chan none, .chan none, .chan none, .chan none, .chan none, .chan none],
      [.chan none, .chan none, .chan none, .chan none, .chan none, .chan none, .chan none, .chan none, .chan none, .chan none, .chan none, .chan none, .chan none, .chan none, .chan none, .chan none],
      [.chan none, .chan none, .chan none, .chan none, .chan none, .chan none, .chan none, .chan none, .chan none, .chan none, .chan none, .chan none, .chan none, .chan none, .chan none, .chan none],
      [.chan none, .chan none, .chan none, .chan none, .chan none, .chan none, .chan none, .chan none, .chan none, .chan none, .chan none, .chan none, .chan none, .chan none, .chan none, .chan none],
      [.chan none, .chan none, .chan none, .chan none, .chan none, .chan none, .chan none, .chan none, .chan none, .chan none, .chan none, .chan none, .chan none, .chan none, .chan none, .chan none],
      [.chan none, .chan none, .chan none, .chan none, .chan none, .chan none, .chan none, .chan none, .chan none, .chan none]],
        [.pending x tx, .pending y ty, .cells c' 5], []⟩) 8 ?_ ⟨8, st, rfl, Nat.le_refl _, rem_byte st u, rfl⟩
    rintro n s' ⟨n', sn, rfl, hn, hrem, rfl⟩
    cases n with
    | zero =>
      conv => whnf
      have ek : wrapS .i64 ((i : Int) + 1) = ((i + 1 : Nat) : Int) := by rw [wrap64 (by omega) (by omega)]; omega
      rw [ek]
      refine ⟨a.length - (i + 1), by omega, i + 1, sn, c', rfl, by omega, ?_, by omega, hcl' hcl, win_write hw (xorL_at hu hv) hat, rfl⟩
      rw [goF_succ s hu, hst, ← hrem]
      rfl
    | succ n =>
      have en1 : ((n + 1 : Nat) : Int) - 1 = (n : Int) := by omega
      rw [en1]
      conv => whnf
      refine way1 (by simp; omega) ?_
      conv => whnf
      refine nthK_of (l := x.toList) (hx.at hu) ?_
      conv => whnf
      refine way1 (by rw [u64n (by omega)]; simp) ?_
      conv => whnf
      rw [bit_at u (by omega)]
      refine ac_pure (Bit_c tt sn (u.toNat.testBit n)) rfl ?_
      rintro w h' ⟨rfl, rfl⟩
      refine ⟨rfl, rfl, ?_⟩
      conv => whnf
      have ek : wrapS .i64 ((n : Int) - 1) = (n : Int) - 1 := wrap64 (by omega) (by omega)
      rw [ek]
      exact ⟨n, by omega, n, _, rfl, by omega, hrem, rfl⟩
  · have hin : i = a.length := by
      have : ¬ ((i : Int) < (a.length : Int)) := by simpa using h3
      omega
    subst hin
    rw [List.take_length] at hst
    have hxl : (xorL a b).length = a.length := by simp [xorL, hab]
    have hwx : Win c 0 (xorL a b) := by rw [← hxl, List.take_length] at hw; exact hw
    have sa : Sl [.pending x tx, .pending y ty, .cells c 5] (slc 0 ox a.length cx) a := .inr ⟨0, ox, cx, x, tx, rfl, .inl rfl, hx, hcx⟩
    have sb2 : Sl [.pending x tx, .pending y ty, .cells c 5] (slc 1 oy b.length cy) b := .inr ⟨1, oy, cy, y, ty, rfl, .inl rfl, hy, hcy⟩
    have sx : Sl [.pending x tx, .pending y ty, .cells c 5] (slc 2 0 a.length a.length) (xorL a b) := .inr ⟨2, 0, a.length, c, 5, by rw [hxl], .inr ⟨hcl, _, rfl⟩, hwx, by omega⟩
    have s1 := sl_take (m := 0) (t := tx) (h := [.pending x tx, .pending y ty, .cells c 5]) (.inl rfl) hx hcx hq
    have s2 := sl_drop (m := 0) (t := tx) (h := [.pending x tx, .pending y ty, .cells c 5]) (.inl rfl) hx hcx hq
    refine ac_mono (Go_s tt s sa (by omega)) ?_
    rintro v h' ⟨rfl, rfl⟩
    conv => whnf
    refine ad_of tabOk (by kernel_rfl) [(0, false), (1, false), (2, false), (3, false), (4, false), (5, false), (6, false), (7, false), (9, false), (10, false), (11, false), (13, false), (8, false), (12, false), (14, false), (15, false), (16, false), (17, false), (18, false), (19, false), (20, false), (22, false), (23, false), (24, false), (21, false), (25, false), (26, false), (27, false), (28, false), (29, false), (30, false), (32, false), (31, false), (33, false), (34, false), (35, false), (36, false), (38, false), (37, false), (39, false), (40, false), (41, false), (42, false), (43, false), (44, false), (45, false), (46, false)] (by kernel_rfl) ?_
    conv => whnf
    refine way1 (by rw [w32_beq, hst]; simp) ?_
    conv => whnf
    repeat (refine way1 (by simp; omega) ?_; conv => whnf)
    refine Go_q tt (l := a.take q) s1 (by simp; omega) ?_
    conv => whnf
    repeat (refine way1 (by simp; omega) ?_; conv => whnf)
    refine Go_q tt (l := a.drop q) s2 (by simp; omega) ?_
    conv => whnf
    refine way1 (by rw [w32_beq, go_cut]; simp) ?_
    conv => whnf
    rw [xor_w]
    refine Go_q tt sx (by omega) ?_
    conv => whnf
    refine Go_q tt sb2 (by omega) ?_
    conv => whnf
    refine way1 (by rw [xor_w, w32_beq, go_xor _ _ _ _ hab.symm]; simp) ?_
    conv => whnf
    refine Go_q tt (l := []) (.inl ⟨rfl, rfl⟩) (by simp) ?_
    conv => whnf
    refine way1 (by rw [w32_beq]; simp [goF]) ?_
    conv => whnf
    refine Seal_q tt sa (by omega) ?_
    conv => whnf
    refine Go_q tt (st := 4294967295#32) sa (by omega) ?_
    conv => whnf
    refine way1 (by rw [not_w, w32_beq]; simp [sealF]) ?_
    conv => whnf
    refine wakes_q tt ?_
    conv => whnf
    refine ⟨rfl, fin_turnedK rfl ?_⟩
    conv => whnf
    exact ⟨rfl, rfl⟩
end Go.Proofs.YtjpjnjidchdlbaaDoor
