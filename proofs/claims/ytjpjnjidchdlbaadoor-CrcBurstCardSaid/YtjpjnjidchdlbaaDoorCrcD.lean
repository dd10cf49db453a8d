/-
  Clone, Close: a new row of bytes.
-/
import Derived.Test.YtjpjnjidchdlbaaDoorCrcC
namespace Go.Proofs.YtjpjnjidchdlbaaDoor
set_option linter.unusedSimpArgs false
set_option linter.unusedVariables false
open Go
set_option maxRecDepth 100000
set_option maxHeartbeats 4000000
/-- the body keeps one new block of clean cells; what it hands back is u, told over it -/
theorem fin_one {h0 : List Obj} {k : Value → List Obj → Prop} {v u : Value} {s : St} (m : Nat) {c : Array Value} {t : TypeId} {f : Nat × Nat} (hp : ∃ rest, s.h = h0 ++ rest) (hm : h0.length ≤ m) (hob : s.h[m]? = some (.cells c t f))
    (hc : ∀ x ∈ c.toList, cleanV x = true) (hv : v = r3 (tau h0.length [m]) u) (hu : scop3 (h0.length + 1) u = true) (hk : k u (h0 ++ [.cells c t f])) : Fin h0 k v s := by
  obtain ⟨rest, hp⟩ := hp
  have hrO : rO (tau h0.length [m]) (.cells c t f) = .cells c t f := by
    simp only [rO]
    rw [map_self _ _ fun x hx => (clean_s1 (hc x hx) 0).2 _]
  refine ⟨h0, [m], u, [.cells c t f], hv, (scop3_ok hu).1, rfl, fun i o hi => .inl ⟨hi, ?_⟩, rfl, fun j o hj => ?_, by simp, hk⟩
  · have : i < h0.length := (List.getElem?_eq_some_iff.1 hi).1
    rw [hp, List.getElem?_append_left this]; exact hi
  · cases j with
    | succ j => simp at hj
    | zero =>
      simp at hj
      subst hj
      refine ⟨⟨c, t, f, rfl⟩, fun x hx => ?_, hm, ?_⟩
      · exact clean_sc (hc x hx) _
      · rw [hrO]; exact hob
theorem has50 : Has Tryd.prog 50 Tryd.f50 := ⟨Tryd.func50, by kernel_rfl, by kernel_rfl⟩
/-- a new row of the bytes l, with room behind -/
def RowOf (l : List UInt8) (cp : Nat) (rest : List Value) : Prop := l.length + rest.length = cp ∧ ∀ x ∈ rest, cleanV x = true
theorem cU8_clean (l : List UInt8) : ∀ x ∈ l.map cU8, cleanV x = true := fun x hx => by
  obtain ⟨b, _, rfl⟩ := List.mem_map.1 hx
  rfl
theorem zeros_clean (z : Array Value) (hz : z.toList.all cleanV = true) (n : Nat) : ∀ x ∈ (Builtin.zeroCells z n).toList, cleanV x = true := by
  intro x hx
  simp only [Builtin.zeroCells, Array.toList_map, List.mem_map] at hx
  obtain ⟨q, hq, rfl⟩ := hx
  by_cases h0 : z.size = 0
  · rw [h0] at hq; simp at hq
  · have hlt : q % z.size < z.size := Nat.mod_lt _ (by omega)
    rw [getElem!_pos (c := z) (i := q % z.size) (h := hlt)]
    exact List.all_eq_true.1 hz _ (by simp)
theorem win_row {h : List Obj} {m off cap : Nat} {c : Array Value} {t : TypeId} {l : List UInt8} (hb : h[m]? = some (.pending c t)) (hw : Win c off l) : RowIs h 1 (slc m off l.length cap) l.length (l.map cU8) :=
  .row hb (win_at hw) (by simp) (cU8_clean l)
theorem Clone_row (G) (c : Array Value) (t : TypeId) (off cap : Nat) (l : List UInt8) (hw : Win c off l) (hl : l.length ≤ 1000000000000) :
    AC Tryd.prog G 50 [slc 0 off l.length cap] [.pending c t] (fun v h => ∃ cp rest, v = slc 1 0 l.length cp ∧ h = [.pending c t, .cells ⟨l.map cU8 ++ rest⟩ 5] ∧ RowOf l cp rest) := by
  refine ac_of_body tabOk has50 ?_
  unfold BodyOk
  conv => whnf
  by_cases h0 : l.length = 0
  · have h1 : l = [] := List.length_eq_zero_iff.1 h0
    subst h1
    refine ao_room (b := 1) (off := 0) (lx := 0) (cx := 0) (ly := 0) (vy := slc 0 off ([] : List UInt8).length cap) (i := ti23) (j := ti5) (e := 5) tabOk rfl (by conv => whnf) (by conv => whnf) rfl rfl rfl rfl rfl rfl rfl (win_row rfl hw) (by decide) (by decide) ?_
    conv => whnf
    refine ⟨rfl, fin_one 1 ⟨[_], rfl⟩ (by simp) rfl (by simp) (u := slc 1 0 0 0) rfl rfl ⟨0, [], rfl, rfl, rfl, by simp⟩⟩
  · refine ao_grow (lx := 0) (cx := 0) (ly := l.length) (olds := []) (news := l.map cU8) (px := some ⟨1, 0, some 0⟩) (vx := slc 1 0 0 0) (vy := slc 0 off l.length cap) (i := ti23) (j := ti5) (e := 5) tabOk rfl (by conv => whnf) (by conv => whnf) rfl rfl rfl rfl rfl rfl
      (.row (ob := .cells ⟨[]⟩ 5) rfl (fun j x hj => by simp at hj) rfl (by simp)) (win_row rfl hw) (by omega) (by show (0 + l.length) * 1 ≤ _; omega) (by omega) ?_
    intro cp hcp
    conv => whnf
    refine ⟨rfl, fin_one 2 ⟨[_, _], rfl⟩ (by simp) rfl ?_ (u := slc 1 0 (0 + l.length) cp) rfl rfl ⟨cp, _, by rw [Nat.zero_add], rfl, ?_, zeros_clean _ rfl _⟩⟩
    · intro x hx
      rcases List.mem_append.1 hx with hx | hx
      · exact cU8_clean l x (by simpa using hx)
      · exact zeros_clean _ rfl _ x hx
    · simp [Builtin.zeroCells]
      have : ti5.zero.cells.size = 1 := rfl
      rw [this]
      omega
end Go.Proofs.YtjpjnjidchdlbaaDoor
