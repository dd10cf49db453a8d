/-
  Open: what it tells.
-/
import Derived.Test.YtjpjnjidchdlbaaDoorCrcE
namespace Go.Proofs.YtjpjnjidchdlbaaDoor
set_option linter.unusedSimpArgs false
set_option linter.unusedVariables false
open Go
set_option maxRecDepth 100000
set_option maxHeartbeats 4000000
theorem closeF_length (l : List UInt8) : (closeF l).length = l.length + 4 := by simp [closeF, be]
theorem Close_s (tt : TypeId) {h : List Obj} {v : Value} {l : List UInt8} (hs : Sl h v l) (hl : l.length ≤ 100000000000) :
    AC Tryd.prog (GC tt) 22 [v] h (fun u h' => ∃ cp rest, u = slc h.length 0 (l.length + 4) cp ∧ h' = h ++ [.cells ⟨(closeF l).map cU8 ++ rest⟩ 5] ∧ RowOf (closeF l) cp rest) := by
  have hcl : ∀ (l : List UInt8) (cp : Nat) (rest : List Value), RowOf (closeF l) cp rest → ∀ x ∈ (⟨(closeF l).map cU8 ++ rest⟩ : Array Value).toList, cleanV x = true := by
    intro l cp rest hr x hx
    rcases List.mem_append.1 hx with hx | hx
    · exact cU8_clean _ x hx
    · exact hr.2 x hx
  rcases hs with ⟨rfl, rfl⟩ | ⟨m, off, cap, c, t, rfl, h2, h4, h5⟩
  · refine ac_new [] (Close_nil tt) rfl rfl trivial ?_
    rintro v h' ⟨cp, rest, rfl, rfl, hr⟩
    refine ⟨_, _, _, rfl, hcl [] cp rest hr, cp, rest, ?_, rfl, hr⟩
    simp [r3, r2, r1, r0, rA, nu]
  · refine ac_new [m] (Close_row tt c t off cap l h4 h5 hl) rfl rfl ⟨h2, trivial⟩ ?_
    rintro v h' ⟨cp, rest, rfl, rfl, hr⟩
    refine ⟨_, _, _, rfl, hcl l cp rest hr, cp, rest, ?_, rfl, hr⟩
    simp [r3, r2, r1, r0, rA, nu]
theorem Close_f (tt : TypeId) {h0 : List Obj} {s : St} {d : Option Nat} {K : St → Prop} {v : Value} {l : List UInt8} (hs : Sl h0 v l) (hl : l.length ≤ 100000000000)
    (hk : ∀ cp rest, RowOf (closeF l) cp rest → putK (grow s (.cells ⟨(closeF l).map cU8 ++ rest⟩ 5)) d (slc s.h.length 0 (l.length + 4) cp) K) :
    Fresh Tryd.prog (GC tt) h0 22 [v] fun ob p => putK (grow s ob) d (p s.h.length) K := by
  intro h hp
  refine ac_mono (Close_s tt (hs.pre hp) hl) ?_
  rintro v h' ⟨cp, rest, rfl, rfl, hr⟩
  exact ⟨_, fun m => slc m 0 (l.length + 4) cp, rfl, rfl, hk cp rest hr⟩
theorem Equal49_q (G) {h0 : List Obj} {s : St} {d : Option Nat} {K : St → Prop} {v w : Value} {l m : List UInt8} (hs : ∀ h, Pre h0 h → Sl h v l) (ht : ∀ h, Pre h0 h → Sl h w m) (hk : putK s d (.bool (l == m)) K) :
    Quiet Tryd.prog G h0 49 [v, w] fun v => putK s d v K := by
  intro h hp
  refine ac_mono (Equal49_s G (hs h hp) (ht h hp)) ?_
  rintro v h' ⟨rfl, rfl⟩
  exact ⟨rfl, rfl, hk⟩
theorem sliceAddr0 (a : Addr) (m sz : Nat) : sliceAddr a 0 m sz = a := by
  unfold sliceAddr
  split
  · rfl
  · simp
theorem sliceAddrN {b off q l m sz : Nat} (h : m ≠ l) : sliceAddr ⟨b, off, some q⟩ l m sz = ⟨b, off + l * sz, some q⟩ := by
  unfold sliceAddr
  rw [if_neg h]
theorem Win.take {c : Array Value} {off : Nat} {l : List UInt8} (h : Win c off l) (n : Nat) : Win c off (l.take n) := by
  intro j b hj
  rw [List.getElem?_take] at hj
  split at hj
  · exact h j b hj
  · cases hj
theorem Win.drop {c : Array Value} {off : Nat} {l : List UInt8} (h : Win c off l) (n : Nat) : Win c (off + n) (l.drop n) := by
  intro j b hj
  rw [List.getElem?_drop] at hj
  have := h (n + j) b hj
  rw [← Nat.add_assoc] at this
  exact this
theorem win_own {l : List UInt8} {rest : List Value} : Win ⟨l.map cU8 ++ rest⟩ 0 l := by
  intro j b hj
  show (l.map cU8 ++ rest).toArray[0 + j]? = some (cU8 b)
  have hlt := (List.getElem?_eq_some_iff.1 hj).1
  rw [Nat.zero_add, List.getElem?_toArray, List.getElem?_append_left (by simpa using hlt), List.getElem?_map, hj]
  rfl
def payF (l : List UInt8) : List UInt8 := l.take (l.length - 4)
def okF (l : List UInt8) : Bool := decide (4 ≤ l.length) && (be (sealF (payF l)) == l.drop (l.length - 4))
/-- what Open leaves -/
def OpenPost (l : List UInt8) (h0 : List Obj) (v : Value) (h : List Obj) : Prop := (okF l = false ∧ v = .tuple #[.slice none 0 0, .bool false] ∧ h = h0) ∨
  okF l = true ∧ ∃ cp rest, v = .tuple #[slc h0.length 0 (payF l).length cp, .bool true] ∧ h = h0 ++ [.cells ⟨(payF l).map cU8 ++ rest⟩ 5] ∧ RowOf (payF l) cp rest
theorem has13 : Has Tryd.prog 13 Tryd.f13 := ⟨Tryd.func13, by kernel_rfl, by kernel_rfl⟩
theorem Open_nil (tt : TypeId) : AC Tryd.prog (GC tt) 13 [.slice none 0 0] [] (fun v h => v = .tuple #[.slice none 0 0, .bool false] ∧ h = []) := by
  refine ac_of_body tabOk has13 ?_
  unfold BodyOk
  conv => whnf
  refine ad_fresh [14] tabOk (by kernel_rfl) [(0, false), (1, false), (2, false), (3, false), (4, false), (5, false), (7, false), (9, false), (10, false), (11, false), (6, false), (8, false), (12, true), (13, true), (14, true)] (by kernel_rfl) ?_
  conv => whnf
  refine ⟨rfl, fin_turnedK rfl ?_⟩
  conv => whnf
  exact ⟨rfl, rfl⟩
theorem Open_row (tt : TypeId) (c : Array Value) (t : TypeId) (off cap : Nat) (l : List UInt8) (hw : Win c off l) (hl : l.length ≤ 100000000000) (hcap : l.length ≤ cap) :
    AC Tryd.prog (GC tt) 13 [slc 0 off l.length cap] [.pending c t] (OpenPost l [.pending c t]) := by
  refine ac_of_body tabOk has13 ?_
  unfold BodyOk
  conv => whnf
  refine ad_fresh [14] tabOk (by kernel_rfl) [(0, false), (1, false), (2, false), (3, false), (4, false), (5, false), (7, false), (9, false), (10, false), (11, false), (6, false), (8, false), (12, true), (13, true), (14, true)] (by kernel_rfl) ?_
  conv => whnf
  by_cases h4 : l.length < 4
  · refine way1 (by rw [wrap64 (by omega) (by omega)]; simp; omega) ?_
    conv => whnf
    refine ⟨rfl, fin_turnedK rfl ?_⟩
    conv => whnf
    exact .inl ⟨by simp [okF]; omega, rfl, rfl⟩
  · obtain ⟨n, hn⟩ : ∃ n, l.length = n + 4 := ⟨l.length - 4, by omega⟩
    have en : wrapS .i64 ((l.length : Int) - 4) = (n : Int) := by rw [wrap64 (by omega) (by omega)]; omega
    rw [en]
    conv => whnf
    refine way1 (by simp; omega) ?_
    conv => whnf
    refine way1 (by simp; omega) ?_
    conv => whnf
    have s1 : Sl [.pending c t] (.slice (some (sliceAddr ⟨0, off, some 0⟩ 0 cap ti23.esz)) ((n : Int).toNat - 0) (cap - 0)) (l.take n) := by
      refine .inr ⟨0, off, cap, c, t, ?_, .inl rfl, hw.take n, by simp; omega⟩
      rw [sliceAddr0]
      simp [hn]
    refine Close_f tt s1 (by simp; omega) ?_
    intro cp rest hr
    conv => whnf
    refine way1 (by simp; omega) ?_
    conv => whnf
    have ht : (l.take n).length = n := by simp; omega
    have hcp : n + 4 ≤ cp := by have := hr.1; rw [closeF_length, ht] at this; omega
    have s2 : Sl [.pending c t, .cells ⟨(closeF (l.take n)).map cU8 ++ rest⟩ 5] (.slice (some (sliceAddr ⟨1, 0, some 0⟩ (n : Int).toNat cp ti23.esz)) ((l.take n).length + 4 - (n : Int).toNat) (cp - (n : Int).toNat)) (be (sealF (l.take n))) := by
      refine .inr ⟨1, 0 + n * 1, cp - n, _, _, ?_, .inr ⟨?_, _, rfl⟩, ?_, ?_⟩
      · rw [Int.toNat_natCast, sliceAddrN (by omega), ht]
        show Value.slice _ (n + 4 - n) _ = Value.slice _ 4 _
        rw [Nat.add_sub_cancel_left]
        rfl
      · intro x hx
        rcases List.mem_append.1 hx with hx | hx
        · exact cU8_clean _ x hx
        · exact hr.2 x hx
      · have := (win_own (l := closeF (l.take n)) (rest := rest)).drop n
        have e : (closeF (l.take n)).drop n = be (sealF (l.take n)) := by
          unfold closeF
          rw [List.drop_append, List.drop_eq_nil_of_le (by omega), ht, Nat.sub_self]
          rfl
        rw [e] at this
        simpa using this
      · show 4 ≤ cp - n
        omega
    have s3 : Sl [.pending c t, .cells ⟨(closeF (l.take n)).map cU8 ++ rest⟩ 5] (.slice (some (sliceAddr ⟨0, off, some 0⟩ (n : Int).toNat cap ti23.esz)) (l.length - (n : Int).toNat) (cap - (n : Int).toNat)) (l.drop n) := by
      refine .inr ⟨0, off + n * 1, cap - n, c, t, ?_, .inl rfl, ?_, ?_⟩
      · rw [Int.toNat_natCast, sliceAddrN (by omega), List.length_drop]
        rfl
      · have := hw.drop n
        simpa using this
      · rw [List.length_drop]; omega
    have hp : payF l = l.take n := by unfold payF; rw [hn]; rfl
    have hd : l.drop (l.length - 4) = l.drop n := by rw [hn]; rfl
    refine ac_mono (Equal49_s (GC tt) s2 s3) ?_
    rintro v h' ⟨rfl, rfl⟩
    conv => whnf
    refine ways (fun h1 => ?_) (fun h1 => ?_) <;> conv => whnf
    · refine ⟨rfl, fin_turnedK rfl ?_⟩
      conv => whnf
      refine .inl ⟨?_, rfl, rfl⟩
      simp only [okF, hp, hd]
      rw [show (be (sealF (l.take n)) == l.drop n) = false by simpa using h1, Bool.and_false]
    · refine way1 (by simp; omega) ?_
      conv => whnf
      refine ac_new [0] (Clone_row (GC tt) c t off cap (l.take n) (hw.take n) (by omega)) ?_ rfl ⟨.inl rfl, trivial⟩ ?_
      · rw [sliceAddr0, ht]
        simp [r3, r2, r1, r0, rA, nu]
      rintro v h' ⟨cp2, rest2, rfl, rfl, hr2⟩
      have hcl : ∀ x ∈ (⟨(l.take n).map cU8 ++ rest2⟩ : Array Value).toList, cleanV x = true := by
        intro x hx
        rcases List.mem_append.1 hx with hx | hx
        · exact cU8_clean _ x hx
        · exact hr2.2 x hx
      refine ⟨_, _, _, rfl, hcl, ?_⟩
      conv => whnf
      refine ⟨rfl, fin_one 2 ⟨[_, _], rfl⟩ (by simp) rfl hcl (u := .tuple #[slc 1 0 (l.take n).length cp2, .bool true]) ?_ rfl (.inr ⟨?_, cp2, rest2, ?_, ?_, ?_⟩)⟩
      · simp [r3, r2, r1, r0, rA, nu, tau]
      · simp only [okF, hp, hd]
        rw [show (be (sealF (l.take n)) == l.drop n) = true by simpa using h1]
        simp; omega
      · rw [hp]; first | done | rfl
      · rw [hp]; first | done | rfl
      · rw [hp]; exact hr2
theorem Open_s (tt : TypeId) {h : List Obj} {v : Value} {l : List UInt8} (hs : Sl h v l) (hl : l.length ≤ 100000000000) : AC Tryd.prog (GC tt) 13 [v] h (OpenPost l h) := by
  rcases hs with ⟨rfl, rfl⟩ | ⟨m, off, cap, c, t, rfl, h2, h4, h5⟩
  · refine ac_read [] (Open_nil tt) rfl rfl trivial ?_
    rintro v h' ⟨rfl, rfl⟩
    exact ⟨rfl, rfl, .inl ⟨rfl, rfl, rfl⟩⟩
  · refine ac_frame [m] (Open_row tt c t off cap l h4 hl h5) rfl (fun v hv => ?_) (fun i o hi => cold_le (show ColdOk h [m] [.pending c t] from ⟨h2, trivial⟩) hi) ?_
    · exact (scop3_ok (List.all_eq_true.1 (by rfl : [slc 0 off l.length cap].all (scop3 1) = true) v hv)).1
    · rintro v h' (⟨h1, rfl, rfl⟩ | ⟨h1, cp, rest, rfl, rfl, hr⟩)
      · exact ⟨[], rfl, .inl ⟨h1, by simp [r3, r2, r1, r0], by simp⟩⟩
      · refine ⟨[.cells ⟨(payF l).map cU8 ++ rest⟩ 5], rfl, .inr ⟨h1, cp, rest, by simp [r3, r2, r1, r0, rA, nu], ?_, hr⟩⟩
        have hcl : ∀ x ∈ (⟨(payF l).map cU8 ++ rest⟩ : Array Value).toList, cleanV x = true := by
          intro x hx
          rcases List.mem_append.1 hx with hx | hx
          · exact cU8_clean _ x hx
          · exact hr.2 x hx
        have : ∀ t, rO t (.cells ⟨(payF l).map cU8 ++ rest⟩ 5) = .cells ⟨(payF l).map cU8 ++ rest⟩ 5 := fun t => by
          simp only [rO]
          rw [map_self _ _ fun x hx => (clean_s1 (hcl x hx) 0).2 _]
        simp [this]
end Go.Proofs.YtjpjnjidchdlbaaDoor
