/-
  The listed table of names; configurations that came in, opened; their blocks as read alone.
-/
import Derived.Test.YtjpjnjidchdlbaaDoorVecH
import Derived.Test.YtjpjnjidchdlbaaDoorMomI
import Derived.LaidMore
import Derived.Lay
import Derived.Lib.LaidTab
import Derived.ChangeSlices
namespace Go.Proofs.YtjpjnjidchdlbaaDoor
set_option linter.unusedSimpArgs false
set_option linter.unusedVariables false
open Go Go.RowKit Go.ChangeShapes Go.WideShapes Go.ChangeAt
set_option maxRecDepth 100000
set_option maxHeartbeats 4000000
def laidN : List (String × DataW Unit) := [("gyre/conf.names", Rows.laid_gyre_conf_names)]
theorem gNames : Tryd.prog.globalNamed "gyre/conf.names" = some 1 := by kernel_rfl
theorem gNamesT : (Tryd.prog.globals[1]?).map (·.type) = some 101 := by kernel_rfl
theorem cells_of_strs {H : Type} {enc : TypeId × Value → H} {P : Program} {w : World} {base : Nat} {sp : Nat → Bool} {held : Bool} {fuel : Nat} {t e : TypeId} {n : Nat} {cs : List Value} {zs : List (List UInt8)} {p : List MemPlace}
    (ht : P.underlying t = some (.array n e)) (he : P.underlying e = some .string) (hce : P.cellsOf e = 1) (hct : P.cellsOf t = n)
    (h : DataW.trod enc P w base sp held fuel t cs = some (.agg (zs.map fun z => .lit (.string z)), p)) : cs = zs.map fun z => Value.string ⟨z.toArray⟩ := by
  cases fuel with
  | zero => simp [DataW.trod] at h
  | succ fuel =>
    simp only [DataW.trod, ht, hce, hct, Nat.mul_one] at h
    split at h
    · rename_i hl
      obtain ⟨xs, hm, hx⟩ := Option.map_eq_some_iff.1 h
      have hxs : xs.map (·.1) = zs.map fun z => (DataW.lit (.string z) : DataW H) := by
        have := congrArg Prod.fst hx
        simpa using this
      have hxl : xs.length = n := by simpa using Lib.mapM_length hm
      have hzl : zs.length = n := by
        have := congrArg List.length hxs
        simp at this
        omega
      apply List.ext_getElem?
      intro i
      by_cases hi : i < n
      · obtain ⟨b, hb, hf⟩ := Lib.mapM_at hm i i (by simp [hi])
        obtain ⟨z, hc, rfl, _⟩ := DataW.trod_string he hf
        have h1 : cs[i]? = some (.string z) := by
          have := congrArg (·[0]?) hc
          simpa [List.getElem?_take, List.getElem?_drop] using this
        have h2 : (xs.map (·.1))[i]? = some (DataW.lit (.string z.data.toList) : DataW H) := by simp [hb]
        rw [hxs] at h2
        simp only [List.getElem?_map, Option.map_eq_some_iff, DataW.lit.injEq, Lit.string.injEq] at h2
        obtain ⟨z', hz', hzz⟩ := h2
        subst hzz
        simp [h1, hz']
      · rw [List.getElem?_eq_none (by omega), List.getElem?_eq_none (by simp; omega)]
    · cases h
theorem names_block {W : World} (h : laidMetH Tryd.prog laidN W) : ∃ tt f, W.heap[1]? = some (.cells namesA tt f) := by
  rw [MakeChecks.laidMetH_plain _ _ _ (by kernel_rfl)] at h
  obtain ⟨ps, ⟨g', t', cs, fuel, p, q, hg', ht', hvar, hd, _, _⟩, _⟩ := h
  obtain rfl := Option.some.inj (gNames.symm.trans hg')
  obtain rfl := Option.some.inj (gNamesT.symm.trans ht')
  have hcs := cells_of_strs (n := 7) (e := 9) (zs := [[98, 111, 100, 105, 101, 115], [109, 97, 115, 115], [99, 111, 110, 115, 116, 97, 110, 116], [98, 111, 120], [116, 111, 112], [110, 101, 97, 114], [109, 101, 116, 104, 111, 100]]) (by kernel_rfl) (by kernel_rfl) (by kernel_rfl) (by kernel_rfl) hd
  have hcs2 : cs = namesA := by
    cases cs with
    | mk l => exact congrArg Array.mk hcs
  subst hcs2
  unfold World.var? at hvar
  rw [gNames, Option.bind_some] at hvar
  split at hvar
  · rename_i cs tt f hb
    obtain rfl := Option.some.inj hvar
    exact ⟨tt, f, hb⟩
  · cases hvar
theorem gl_names {W : World} {tt : TypeId} {f : Nat × Nat} (h : W.heap[1]? = some (.cells namesA tt f)) (r : Ren) (hs : List Obj) (hr : ∀ (i : Nat) (u : Obj), hs[i]? = some u → hot u = true → r i ≠ 1) :
    ∀ (g : Nat) (o : Obj), (g, o) ∈ GM tt → (∃ c t f, o = .cells c t f ∧ (∀ v ∈ c.toList, s1 0 v) ∧ ∃ f', W.heap[g]? = some (.cells c t f')) ∧ ∀ (i : Nat) (u : Obj), hs[i]? = some u → hot u = true → r i ≠ g := by
  intro g o hg
  obtain ⟨rfl, rfl⟩ : g = 1 ∧ o = .cells namesA tt (1, 0) := by simpa [GM] using hg
  refine ⟨⟨_, _, _, rfl, ?_, f, h⟩, hr⟩
  intro v hv
  simp only [namesA, List.mem_cons, List.not_mem_nil, or_false] at hv
  rcases hv with rfl | rfl | rfl | rfl | rfl | rfl | rfl <;> trivial
/-- blocks that came in, read alone -/
theorem repH_pendM {W : World} {tt : TypeId} {f : Nat × Nat} (h : W.heap[1]? = some (.cells namesA tt f)) (r : Ren) (hs : List Obj)
    (hp : ∀ (i : Nat) (o : Obj), hs[i]? = some o → ∃ c t g, o = .pending c t ∧ W.heap[r i]? = some (.cells c t g)) : RepH (GM tt) r hs W := by
  have cold : ∀ (i : Nat) (o : Obj), hs[i]? = some o → hot o = false := by
    intro i o hi
    obtain ⟨c, t, g, rfl, _⟩ := hp i o hi
    rfl
  refine ⟨fun i o hi => ?_, fun i j o u hi hj hu => ?_, fun i o hi v hv => ?_, gl_names h r hs fun i u hi hu => ?_⟩
  · obtain ⟨c, t, g, rfl, h2⟩ := hp i o hi
    exact ⟨g, h2⟩
  · rw [cold i o hi] at hu; cases hu
  · obtain ⟨c, t, g, rfl, h2⟩ := hp i o hi
    cases hv
  · rw [cold i u hi] at hu; cases hu
theorem pendM1 {W : World} {tt : TypeId} {f : Nat × Nat} (h : W.heap[1]? = some (.cells namesA tt f)) {b : Nat} {c : Array Value} {t : TypeId} {g : Nat × Nat} (hb : W.heap[b]? = some (.cells c t g)) : RepH (GM tt) (fun _ => b) [.pending c t] W := by
  refine repH_pendM h _ _ fun i o hi => ?_
  match i, hi with
  | 0, hi => cases hi; exact ⟨c, t, g, rfl, hb⟩
  | i + 1, hi => simp at hi
theorem coldM1 {c : Array Value} {t : TypeId} : ∀ (i : Nat) (o : Obj), [Obj.pending c t][i]? = some o → hot o = false := by
  intro i o hi
  match i, hi with
  | 0, hi => cases hi; rfl
  | i + 1, hi => simp at hi
/-- v is nil, or the numbers l lie in a block that is there -/
def RowII (W : World) (v : Value) (l : List Int) : Prop := (v = .slice none 0 0 ∧ l = []) ∨
  ∃ (b off cap : Nat) (c : Array Value) (t : TypeId) (f : Nat × Nat), v = .slice (some ⟨b, off, none⟩) l.length cap ∧ l.length ≤ cap ∧ l.length ≤ 9223372036854775807 ∧ W.heap[b]? = some (.cells c t f) ∧ WinI c off l
theorem open_rowI {H : Type} {enc : TypeId × Value → H} {P : Program} {W : World} {base b0 : Nat} {held : Bool} {r : Reach} {t e : TypeId} {v : Value} {x : DataW H × List MemPlace} {fuel : Nat}
    (ht : P.underlying t = some (.slice e)) (he : P.underlying e = some (.int .i64)) (hc : P.cellsOf e = 1) (hv2 : Cell.ok P W r b0 t v) (hf2 : DataW.trod enc P W base (fun _ => true) held fuel t [v] = some x) : ∃ l, RowII W v l := by
  have hs : ∃ a n c, v = .slice a n c := by
    simp only [Cell.ok, ht] at hv2
    cases v <;> first | exact ⟨_, _, _, rfl⟩ | exact hv2.elim
  obtain ⟨a0, len, cap, rfl⟩ := hs
  obtain ⟨d, p⟩ := x
  rcases open_ints ht he hc hf2 with ⟨hcs, _⟩ | ⟨a, len', cap', zs, hcs, _, hl, hm, hz, _, hcell, hwz⟩
  · simp only [List.cons.injEq, and_true] at hcs
    exact ⟨[], .inl ⟨hcs, rfl⟩⟩
  · simp only [List.cons.injEq, and_true] at hcs
    cases hcs
    simp only [Cell.ok, ht] at hv2
    obtain ⟨_, hcap, _, hsp, row, cells, hsh, _⟩ := hv2
    obtain ⟨b, off, spot⟩ := a
    simp only at hsp
    subst hsp
    have hcz : zs.length = cap := by simpa using hz
    unfold World.shape? at hsh
    simp only at hsh
    split at hsh
    · rename_i c tb f hb
      have hl2 : (zs.take len).length = len := by simp; omega
      refine ⟨zs.take len, .inr ⟨b, off, cap, c, tb, f, by rw [hl2], by rw [hl2]; exact hl, ?_, hb, ?_⟩⟩
      · rw [hl2]
        have : (cap : Int) ≤ 9223372036854775807 := hcap
        omega
      · intro j u hj
        rw [List.getElem?_take] at hj
        split at hj
        · rename_i hjl
          have hjz : j < zs.length := by omega
          rw [List.getElem?_eq_getElem hjz] at hj
          have hj' := Option.some.inj hj
          have h1 := hcell j hjz
          rw [Go.WideShapes.add_plain] at h1
          unfold World.cell? at h1
          simp only [hb] at h1
          have h2 : c[off + j]? = some (.int .i64 (zs.getD j 0)) := by simpa using h1
          rw [h2, List.getD_eq_getElem?_getD, List.getElem?_eq_getElem hjz, ← hj']
          rfl
        · cases hj
    · cases hsh
theorem take1 {cs : List Value} {n : Nat} {v : Value} (h : (cs.drop n).take 1 = [v]) : cs[n]? = some v := by
  have := congrArg (·[0]?) h
  simpa [List.getElem?_take, List.getElem?_drop] using this
theorem array6 {α : Type} {cs : Array α} (h : cs.size = 6) : ∃ c0 c1 c2 c3 c4 c5, cs = #[c0, c1, c2, c3, c4, c5] := by
  obtain ⟨l⟩ := cs
  match l, h with
  | [c0, c1, c2, c3, c4, c5], _ => exact ⟨c0, c1, c2, c3, c4, c5, rfl⟩
def fieldsOf (d : TypeDesc) : Array Field := match d with
  | .struct fs => fs
  | _ => #[]
theorem confFields : ∃ fs : Array Field, Tryd.prog.underlying 39 = some (.struct fs) ∧ fs.size = 6 ∧ (fs.map (·.type)) = #[37, 3, 3, 3, 3, 3] ∧ (fs.map (·.offset)) = #[0, 1, 2, 3, 4, 5] :=
  ⟨fieldsOf ti39.desc, (by kernel_rfl), (by kernel_rfl), (by kernel_rfl), (by kernel_rfl)⟩
theorem confTypes : Tryd.prog.cellTypes Tryd.prog.depth 39 = some [37, 3, 3, 3, 3, 3] := by kernel_rfl
theorem confCells : Tryd.prog.cellsOf 39 = 6 := by kernel_rfl
theorem open_conf {H : Type} {enc : TypeId × Value → H} {W : World} {base b0 : Nat} {held : Bool} {r : Reach} {v : Value} {d : DataW H} {p : List MemPlace}
    (hv : Value.okWide Tryd.prog W r b0 39 v) (h : DataW.Trod enc Tryd.prog W base (fun _ => true) held 39 v d p) : ∃ ms g b tp nr me l, v = .agg (confC ms g b tp nr me) ∧ RowII W ms l := by
  obtain ⟨fs, hs, hsz, hty, hof⟩ := confFields
  unfold Value.okWide at hv
  rw [hs] at hv
  obtain ⟨cs, rfl, hcs, ts, hts, _, hcell⟩ := hv
  rw [confTypes] at hts
  obtain rfl := Option.some.inj hts
  rw [confCells] at hcs
  obtain ⟨c0, c1, c2, c3, c4, c5, rfl⟩ := array6 hcs
  obtain ⟨fuel, hf⟩ := h
  have hf' : DataW.trod enc Tryd.prog W base (fun _ => true) held fuel 39 [c0, c1, c2, c3, c4, c5] = some (d, p) := by simpa [Value.cells] using hf
  obtain ⟨xs, n, _, _, _, hxl, hall⟩ := DataW.trod_struct hs hf'
  have fld : ∀ i t, (#[37, 3, 3, 3, 3, 3] : Array TypeId)[i]? = some t → ∃ x, DataW.trod enc Tryd.prog W base (fun _ => true) held n t (([c0, c1, c2, c3, c4, c5].drop i).take (Tryd.prog.cellsOf t)) = some x := by
    intro i t hi
    have hlt : i < 6 := (Array.getElem?_eq_some_iff.1 hi).1
    obtain ⟨f, hfi⟩ : ∃ f, fs[i]? = some f := ⟨_, Array.getElem?_eq_getElem (by omega)⟩
    have h1 : f.type = t := by
      have := congrArg (·[i]?) hty
      simp only [Array.getElem?_map, hfi, Option.map_some, hi] at this
      exact Option.some.inj this
    have h2 : f.offset = i := by
      have := congrArg (·[i]?) hof
      simp only [Array.getElem?_map, hfi, Option.map_some] at this
      match i, hlt, this with
      | 0, _, h => exact Option.some.inj h
      | 1, _, h => exact Option.some.inj h
      | 2, _, h => exact Option.some.inj h
      | 3, _, h => exact Option.some.inj h
      | 4, _, h => exact Option.some.inj h
      | 5, _, h => exact Option.some.inj h
    have h3 := hall i f hfi
    rw [h1, h2] at h3
    obtain ⟨x, hx⟩ : ∃ x, xs[i]? = some x := ⟨_, List.getElem?_eq_getElem (by omega)⟩
    exact ⟨x, h3.trans hx⟩
  have e3 : Tryd.prog.cellsOf 3 = 1 := by kernel_rfl
  have e37 : Tryd.prog.cellsOf 37 = 1 := by kernel_rfl
  have u3 : Tryd.prog.underlying 3 = some (.int .i64) := by kernel_rfl
  obtain ⟨x0, h0⟩ := fld 0 37 rfl
  obtain ⟨x1, h1⟩ := fld 1 3 rfl
  obtain ⟨x2, h2⟩ := fld 2 3 rfl
  obtain ⟨x3, h3⟩ := fld 3 3 rfl
  obtain ⟨x4, h4⟩ := fld 4 3 rfl
  obtain ⟨x5, h5⟩ := fld 5 3 rfl
  rw [e37] at h0
  rw [e3] at h1 h2 h3 h4 h5
  obtain ⟨n1, q1, _⟩ := DataW.trod_int u3 h1
  obtain ⟨n2, q2, _⟩ := DataW.trod_int u3 h2
  obtain ⟨n3, q3, _⟩ := DataW.trod_int u3 h3
  obtain ⟨n4, q4, _⟩ := DataW.trod_int u3 h4
  obtain ⟨n5, q5, _⟩ := DataW.trod_int u3 h5
  simp at q1 q2 q3 q4 q5
  subst q1; subst q2; subst q3; subst q4; subst q5
  obtain ⟨u, hu, hok⟩ := hcell 0 c0 rfl
  have hu' : u = 37 := (Option.some.inj (by simpa using hu)).symm
  subst hu'
  have hs37 : Tryd.prog.underlying 37 = some (.slice 3) := by kernel_rfl
  have hok2 : Cell.ok Tryd.prog W r b0 37 c0 := by
    simp only [Cell.okWide, hs37] at hok
    exact hok
  obtain ⟨l, hl⟩ := open_rowI hs37 u3 e3 hok2 (by simpa using h0)
  exact ⟨c0, n1, n2, n3, n4, n5, l, rfl, hl⟩
theorem rangeI {n : Int} (h : (Lit.int .i64 n).wf = true) : -9223372036854775808 ≤ n ∧ n ≤ 9223372036854775807 := by
  simpa [Lit.wf, IntKind.min, IntKind.max, IntKind.signed, IntKind.bits] using h
end Go.Proofs.YtjpjnjidchdlbaaDoor
