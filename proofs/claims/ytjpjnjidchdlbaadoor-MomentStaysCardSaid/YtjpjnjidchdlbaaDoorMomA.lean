/-
  conf: the numbers that must be within; masses gone over (no condition).
-/
import Derived.Test.YtjpjnjidchdlbaaDoorEngY
import Derived.Test.YtjpjnjidchdlbaaDoorTab
namespace Go.Proofs.YtjpjnjidchdlbaaDoor
set_option linter.unusedSimpArgs false
set_option linter.unusedVariables false
open Go
set_option maxRecDepth 100000
set_option maxHeartbeats 4000000
section
variable {P : Program} {G : List (Nat × Obj)}
/-- a call whose contract reads the blocks of h0 alone (they may hold names), and hands back a value without names -/
theorem ac_readF {f : FuncId} {args0 args : List Value} {h0 h : List Obj} {k0 k : Value → List Obj → Prop} (sg : List Nat) (H : AC P G f args0 h0 k0)
    (hargs : args = args0.map (r3 (nu h0.length h.length sg))) (hs : args0.all (scop3 h0.length) = true)
    (hh : ∀ (i : Nat) (o : Obj), h0[i]? = some o → hot o = false ∧ (∀ v ∈ cellsOf o, s1 h0.length v) ∧ ∃ o', h[sg.getD i 0]? = some o' ∧ ObjLe (rO (nu h0.length h.length sg) o) o')
    (hk : ∀ v h', k0 v h' → closedV v = true ∧ h' = h0 ∧ k v h) : AC P G f args h k := by
  refine ac_frame sg H hargs (fun v hv => (scop3_ok (List.all_eq_true.1 hs v hv)).1) hh fun v h' hk0 => ?_
  obtain ⟨h1, rfl, h2⟩ := hk v h' hk0
  exact ⟨[], by simp, by rw [(closed_ok h1 0).2]; simpa using h2⟩
end
abbrev I64 (n : Int) : Value := .int .i64 n
def win (n lo hi : Int) : Bool := decide (n ≥ lo) && decide (n ≤ hi)
theorem has86 : Has Tryd.prog 86 Tryd.f86 := ⟨Tryd.func86, by kernel_rfl, by kernel_rfl⟩
theorem has87 : Has Tryd.prog 87 Tryd.f87 := ⟨Tryd.func87, by kernel_rfl, by kernel_rfl⟩
theorem has88 : Has Tryd.prog 88 Tryd.f88 := ⟨Tryd.func88, by kernel_rfl, by kernel_rfl⟩
theorem has89 : Has Tryd.prog 89 Tryd.f89 := ⟨Tryd.func89, by kernel_rfl, by kernel_rfl⟩
theorem has90 : Has Tryd.prog 90 Tryd.f90 := ⟨Tryd.func90, by kernel_rfl, by kernel_rfl⟩
theorem has91 : Has Tryd.prog 91 Tryd.f91 := ⟨Tryd.func91, by kernel_rfl, by kernel_rfl⟩
theorem has92 : Has Tryd.prog 92 Tryd.f92 := ⟨Tryd.func92, by kernel_rfl, by kernel_rfl⟩
theorem has99 : Has Tryd.prog 99 Tryd.f99 := ⟨Tryd.func99, by kernel_rfl, by kernel_rfl⟩
theorem within_c (G) (n lo hi : Int) : AC Tryd.prog G 88 [I64 n, I64 lo, I64 hi] [] (fun v h => v = .bool (win n lo hi) ∧ h = []) := by
  refine ac_of_body tabOk has88 ?_
  unfold BodyOk
  conv => whnf
  unfold win
  refine ways (fun h1 => ?_) (fun h1 => ?_) <;> conv => whnf
  · refine ⟨rfl, fin_turnedK rfl ?_⟩
    conv => whnf
    exact ⟨by rw [h1]; rfl, rfl⟩
  · refine ⟨rfl, fin_turnedK rfl ?_⟩
    conv => whnf
    exact ⟨by rw [h1]; rfl, rfl⟩

theorem number_c (G) (n y : Int) : AC Tryd.prog G 87 [ptr 0 0, ptr 1 0] [.cells #[I64 n] 3 (1, 0), .cells #[I64 y] 3 (1, 0)] (fun v h => v = .bool (win n 1 y) ∧ h = [.cells #[I64 n] 3 (1, 0), .cells #[I64 y] 3 (1, 0)]) := by
  refine ac_of_body tabOk has87 ?_
  unfold BodyOk
  conv => whnf
  refine ac_pure (within_c G n 1 y) rfl ?_
  rintro v h' ⟨rfl, rfl⟩
  refine ⟨rfl, rfl, ?_⟩
  conv => whnf
  refine ⟨rfl, fin_turnedK rfl ?_⟩
  conv => whnf
  exact ⟨rfl, rfl⟩
theorem mass_c (G) (n : Int) : AC Tryd.prog G 91 [I64 n] [] (fun v h => v = .bool (!win n 1 1024) ∧ h = []) := by
  refine ac_of_body tabOk has91 ?_
  unfold BodyOk
  conv => whnf
  refine ac_pure (within_c G n 1 1024) rfl ?_
  rintro v h' ⟨rfl, rfl⟩
  refine ⟨rfl, rfl, ?_⟩
  conv => whnf
  refine ⟨rfl, fin_turnedK rfl ?_⟩
  conv => whnf
  exact ⟨rfl, rfl⟩
/-- the numbers l lie there -/
def WinI (c : Array Value) (off : Nat) (l : List Int) : Prop := ∀ j (x : Int), l[j]? = some x → c[off + j]? = some (I64 x)
theorem WinI.at {c : Array Value} {off : Nat} {l : List Int} (h : WinI c off l) {k : Nat} {x : Int} (hx : l[k]? = some x) : c.toList[off + Int.toNat (k : Int) * 1]? = some (I64 x) := by
  have := h k x hx
  simpa using this
theorem wrapI {n : Int} (h1 : -9223372036854775808 ≤ n) (h2 : n ≤ 9223372036854775807) : wrapS .i64 n = n := by
  rw [wrapS_eq]; simp [IntKind.wrap, IntKind.signed, IntKind.bits]; omega
def maskM : List (List Bool) := [[true, true, false, false, false, false, false, true, true, false, false, false, false, false, false, false], [false, false, false]]
def badM (m : Int) : Bool := !win m 1 1024
theorem index_c (G) (c : Array Value) (t : TypeId) (off cap : Nat) (l : List Int) (hw : WinI c off l) (hl : l.length ≤ 1000000000000) :
    AC Tryd.prog G 99 [slc 0 off l.length cap, .func (.func 91) #[] #[]] [.pending c t] (fun v h => (∃ n : Int, v = I64 n ∧ decide (n ≥ 0) = l.any badM) ∧ h = [.pending c t]) := by
  refine ac_of_body tabOk has99 ?_
  unfold BodyOk
  conv => whnf
  refine aw_inv tabOk maskM (fun m s' => ∃ (i : Nat), m = l.length - i ∧ i ≤ l.length ∧ (l.take i).any badM = false ∧
    s' = ⟨[[slc 0 off l.length cap, .func (.func 91) #[] #[], .chan none, .chan none, .chan none, .chan none, .chan none, I64 (l.length : Int), I64 (i : Int), .chan none, .chan none, .chan none, .chan none, .chan none, .chan none, .chan none],
      [.chan none, .chan none, .chan none]],
      [.pending c t], []⟩) l.length ?_ ⟨0, rfl, Nat.zero_le _, rfl, rfl⟩
  rintro m s' ⟨i, rfl, hi, ha, rfl⟩
  conv => whnf
  refine ways (fun h1 => ?_) (fun h1 => ?_) <;> conv => whnf
  · have hlt : i < l.length := by have := of_decide_eq_true h1; omega
    obtain ⟨x, hx⟩ : ∃ x, l[i]? = some x := ⟨_, List.getElem?_eq_getElem hlt⟩
    refine way1 (by rw [decide_eq_true_iff]; omega) ?_
    conv => whnf
    refine nthK_of (l := c.toList) (hw.at hx) ?_
    conv => whnf
    refine ac_pure (mass_c G x) rfl ?_
    rintro v h' ⟨rfl, rfl⟩
    refine ⟨rfl, rfl, ?_⟩
    conv => whnf
    have hxe : l[i] = x := (List.getElem?_eq_some_iff.1 hx).2
    refine ways (fun h2 => ?_) (fun h2 => ?_) <;> conv => whnf
    · refine ⟨rfl, fin_turnedK rfl ?_⟩
      conv => whnf
      refine ⟨⟨(i : Int), rfl, ?_⟩, rfl⟩
      rw [decide_eq_true (by omega : (i : Int) ≥ 0)]
      exact (List.any_eq_true.2 ⟨x, List.mem_of_getElem? hx, h2⟩).symm
    · rw [show wrapS .i64 ((i : Int) + 1) = ((i + 1 : Nat) : Int) by rw [wrapI (by omega) (by omega)]; omega]
      refine ⟨l.length - (i + 1), by omega, i + 1, rfl, by omega, ?_, rfl⟩
      have h2' : badM x = false := h2
      rw [List.take_succ_eq_append_getElem hlt, List.any_append, ha, hxe]
      simp [h2']
  · have hin : i = l.length := by have := of_decide_eq_false h1; omega
    subst hin
    rw [List.take_length] at ha
    refine ⟨rfl, fin_turnedK rfl ?_⟩
    conv => whnf
    exact ⟨⟨-1, rfl, by rw [ha]; rfl⟩, rfl⟩
theorem index_n (G) : AC Tryd.prog G 99 [.slice none 0 0, .func (.func 91) #[] #[]] [] (fun v h => v = I64 (-1) ∧ h = []) := by
  refine ac_of_body tabOk has99 ?_
  unfold BodyOk
  conv => whnf
  refine aw_rounds tabOk 1 ?_
  conv => whnf
  refine ⟨rfl, fin_turnedK rfl ?_⟩
  conv => whnf
  exact ⟨rfl, rfl⟩
theorem contains_c (G) (c : Array Value) (t : TypeId) (off cap : Nat) (l : List Int) (hw : WinI c off l) (hl : l.length ≤ 1000000000000) :
    AC Tryd.prog G 90 [slc 0 off l.length cap, .func (.func 91) #[] #[]] [.pending c t] (fun v h => v = .bool (l.any badM) ∧ h = [.pending c t]) := by
  refine ac_of_body tabOk has90 ?_
  unfold BodyOk
  conv => whnf
  refine ac_mono (index_c G c t off cap l hw hl) ?_
  rintro v h' ⟨⟨n, rfl, hn⟩, rfl⟩
  conv => whnf
  refine ⟨rfl, fin_turnedK rfl ?_⟩
  conv => whnf
  exact ⟨by rw [← hn], rfl⟩
theorem contains_n (G) : AC Tryd.prog G 90 [.slice none 0 0, .func (.func 91) #[] #[]] [] (fun v h => v = .bool false ∧ h = []) := by
  refine ac_of_body tabOk has90 ?_
  unfold BodyOk
  conv => whnf
  refine ac_mono (index_n G) ?_
  rintro v h' ⟨rfl, rfl⟩
  conv => whnf
  refine ⟨rfl, fin_turnedK rfl ?_⟩
  conv => whnf
  exact ⟨rfl, rfl⟩
/-- a configuration's cells -/
abbrev confC (ms : Value) (g b tp nr me : Int) : Array Value := #[ms, I64 g, I64 b, I64 tp, I64 nr, I64 me]
theorem masses_r (G) (c : Array Value) (t : TypeId) (off cap : Nat) (l : List Int) (hw : WinI c off l) (hl : l.length ≤ 1000000000000) (g b tp nr me : Int) :
    AC Tryd.prog G 89 [ptr 1 0] [.pending c t, .cells (confC (slc 0 off l.length cap) g b tp nr me) 39 (1, 0)] (fun v h => v = .bool (!l.any badM) ∧ h = [.pending c t, .cells (confC (slc 0 off l.length cap) g b tp nr me) 39 (1, 0)]) := by
  refine ac_of_body tabOk has89 ?_
  unfold BodyOk
  conv => whnf
  refine ac_read [0] (contains_c G c t off cap l hw hl) (by simp [r3, r2, r1, r0, rA, nu]) rfl ⟨.inl rfl, trivial⟩ ?_
  rintro v h' ⟨rfl, rfl⟩
  refine ⟨rfl, rfl, ?_⟩
  conv => whnf
  refine ⟨rfl, fin_turnedK rfl ?_⟩
  conv => whnf
  exact ⟨rfl, rfl⟩
theorem masses_n (G) (g b tp nr me : Int) :
    AC Tryd.prog G 89 [ptr 0 0] [.cells (confC (.slice none 0 0) g b tp nr me) 39 (1, 0)] (fun v h => v = .bool true ∧ h = [.cells (confC (.slice none 0 0) g b tp nr me) 39 (1, 0)]) := by
  refine ac_of_body tabOk has89 ?_
  unfold BodyOk
  conv => whnf
  refine ac_read [] (contains_n G) (by simp [r3, r2, r1, r0]) rfl trivial ?_
  rintro v h' ⟨rfl, rfl⟩
  refine ⟨rfl, rfl, ?_⟩
  conv => whnf
  refine ⟨rfl, fin_turnedK rfl ?_⟩
  conv => whnf
  exact ⟨rfl, rfl⟩
theorem method_r (G) (c : Array Value) (t : TypeId) (off l cap : Nat) (g b tp nr me : Int) :
    AC Tryd.prog G 92 [ptr 1 0] [.pending c t, .cells (confC (slc 0 off l cap) g b tp nr me) 39 (1, 0)] (fun v h => v = .bool (win me 0 4) ∧ h = [.pending c t, .cells (confC (slc 0 off l cap) g b tp nr me) 39 (1, 0)]) := by
  refine ac_of_body tabOk has92 ?_
  unfold BodyOk
  conv => whnf
  refine ac_pure (within_c G me 0 4) rfl ?_
  rintro v h' ⟨rfl, rfl⟩
  refine ⟨rfl, rfl, ?_⟩
  conv => whnf
  refine ⟨rfl, fin_turnedK rfl ?_⟩
  conv => whnf
  exact ⟨rfl, rfl⟩
theorem method_n (G) (g b tp nr me : Int) :
    AC Tryd.prog G 92 [ptr 0 0] [.cells (confC (.slice none 0 0) g b tp nr me) 39 (1, 0)] (fun v h => v = .bool (win me 0 4) ∧ h = [.cells (confC (.slice none 0 0) g b tp nr me) 39 (1, 0)]) := by
  refine ac_of_body tabOk has92 ?_
  unfold BodyOk
  conv => whnf
  refine ac_pure (within_c G me 0 4) rfl ?_
  rintro v h' ⟨rfl, rfl⟩
  refine ⟨rfl, rfl, ?_⟩
  conv => whnf
  refine ⟨rfl, fin_turnedK rfl ?_⟩
  conv => whnf
  exact ⟨rfl, rfl⟩
end Go.Proofs.YtjpjnjidchdlbaaDoor
