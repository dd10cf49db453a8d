/-
  States that came in, opened; two blocks as read alone.
-/
import Derived.Test.YtjpjnjidchdlbaaDoorMomL
namespace Go.Proofs.YtjpjnjidchdlbaaDoor
set_option linter.unusedSimpArgs false
set_option linter.unusedVariables false
open Go Go.RowKit Go.ChangeShapes Go.WideShapes Go.ChangeAt
set_option maxRecDepth 100000
set_option maxHeartbeats 4000000
theorem list_of {α : Type} {Pr : Nat → α → Prop} : ∀ (n : Nat), (∀ i, i < n → ∃ b, Pr i b) → ∃ l : List α, l.length = n ∧ ∀ i b, l[i]? = some b → Pr i b
  | 0, _ => ⟨[], rfl, fun i b h => by simp at h⟩
  | n + 1, h => by
    obtain ⟨l, h1, h2⟩ := list_of n fun i hi => h i (by omega)
    obtain ⟨b, hb⟩ := h n (by omega)
    refine ⟨l ++ [b], by simp [h1], fun i x hx => ?_⟩
    by_cases hi : i < n
    · rw [List.getElem?_append_left (by omega)] at hx
      exact h2 i x hx
    · rw [List.getElem?_append_right (by omega)] at hx
      have hin : i = n := by
        have := (List.getElem?_eq_some_iff.1 hx).1
        simp at this
        omega
      subst hin
      rw [h1, Nat.sub_self] at hx
      cases hx
      exact hb
/-- v is nil, or the bodies l lie in a block that is there -/
def RowBI (W : World) (v : Value) (l : List Bd) : Prop := (v = .slice none 0 0 ∧ l = []) ∨
  ∃ (b off cap : Nat) (c : Array Value) (t : TypeId) (f : Nat × Nat), v = .slice (some ⟨b, off, none⟩) l.length cap ∧ l.length ≤ cap ∧ l.length ≤ 9223372036854775807 ∧ W.heap[b]? = some (.cells c t f) ∧ WinB c off l
theorem bodyFields : ∃ f0 f1 : Field, Tryd.prog.underlying 61 = some (.struct #[f0, f1]) ∧ f0.type = 59 ∧ f0.offset = 0 ∧ f1.type = 59 ∧ f1.offset = 3 :=
  ⟨(fieldsOf ti61.desc)[0]!, (fieldsOf ti61.desc)[1]!, (by kernel_rfl), (by kernel_rfl), (by kernel_rfl), (by kernel_rfl), (by kernel_rfl)⟩
theorem stateFields : ∃ f0 f1 : Field, Tryd.prog.underlying 42 = some (.struct #[f0, f1]) ∧ f0.type = 3 ∧ f0.offset = 0 ∧ f1.type = 40 ∧ f1.offset = 1 :=
  ⟨(fieldsOf ti42.desc)[0]!, (fieldsOf ti42.desc)[1]!, (by kernel_rfl), (by kernel_rfl), (by kernel_rfl), (by kernel_rfl), (by kernel_rfl)⟩
theorem list6 {α : Type} {cs : List α} (h : cs.length = 6) : ∃ c0 c1 c2 c3 c4 c5, cs = [c0, c1, c2, c3, c4, c5] := by
  match cs, h with
  | [c0, c1, c2, c3, c4, c5], _ => exact ⟨c0, c1, c2, c3, c4, c5, rfl⟩
theorem open_body {H : Type} {enc : TypeId × Value → H} {W : World} {base : Nat} {sp : Nat → Bool} {held : Bool} {fuel : Nat} {cs : List Value} {x : DataW H × List MemPlace} (h : DataW.trod enc Tryd.prog W base sp held fuel 61 cs = some x) : ∃ b : Bd, cs = b.cells := by
  obtain ⟨f0, f1, hs, t0, o0, t1, o1⟩ := bodyFields
  obtain ⟨xs, n, _, _, hl, hxl, hall⟩ := DataW.trod_struct hs h
  have e61 : Tryd.prog.cellsOf 61 = 6 := by kernel_rfl
  have e59 : Tryd.prog.cellsOf 59 = 3 := by kernel_rfl
  have e3 : Tryd.prog.cellsOf 3 = 1 := by kernel_rfl
  have u59 : Tryd.prog.underlying 59 = some (.array 3 3) := by kernel_rfl
  have u3 : Tryd.prog.underlying 3 = some (.int .i64) := by kernel_rfl
  rw [e61] at hl
  obtain ⟨c0, c1, c2, c3, c4, c5, rfl⟩ := list6 hl
  obtain ⟨x0, hx0⟩ : ∃ x0, xs[0]? = some x0 := ⟨_, List.getElem?_eq_getElem (by simp at hxl; omega)⟩
  obtain ⟨x1, hx1⟩ : ∃ x1, xs[1]? = some x1 := ⟨_, List.getElem?_eq_getElem (by simp at hxl; omega)⟩
  have h0 := hall 0 f0 rfl
  have h1 := hall 1 f1 rfl
  rw [t0, o0, e59, hx0] at h0
  rw [t1, o1, e59, hx1] at h1
  obtain ⟨y0, y1, y2, n2, _, g0, g1, g2⟩ := trod_array3 u59 e3 (by simpa using h0)
  obtain ⟨z0, z1, z2, n3, _, k0, k1, k2⟩ := trod_array3 u59 e3 (by simpa using h1)
  obtain ⟨m0, q0, _⟩ := DataW.trod_int u3 g0
  obtain ⟨m1, q1, _⟩ := DataW.trod_int u3 g1
  obtain ⟨m2, q2, _⟩ := DataW.trod_int u3 g2
  obtain ⟨m3, q3, _⟩ := DataW.trod_int u3 k0
  obtain ⟨m4, q4, _⟩ := DataW.trod_int u3 k1
  obtain ⟨m5, q5, _⟩ := DataW.trod_int u3 k2
  simp at q0 q1 q2 q3 q4 q5
  subst q0; subst q1; subst q2; subst q3; subst q4; subst q5
  exact ⟨⟨m0, m1, m2, m3, m4, m5⟩, rfl⟩
theorem open_rowB {H : Type} {enc : TypeId × Value → H} {W : World} {base b0 : Nat} {held : Bool} {r : Reach} {v : Value} {x : DataW H × List MemPlace} {fuel : Nat}
    (hv2 : Cell.ok Tryd.prog W r b0 40 v) (hf2 : DataW.trod enc Tryd.prog W base (fun _ => true) held fuel 40 [v] = some x) : ∃ l, RowBI W v l := by
  have ht : Tryd.prog.underlying 40 = some (.slice 61) := by kernel_rfl
  have e61 : Tryd.prog.cellsOf 61 = 6 := by kernel_rfl
  have hs : ∃ a n c, v = .slice a n c := by
    simp only [Cell.ok, ht] at hv2
    cases v <;> first | exact ⟨_, _, _, rfl⟩ | exact hv2.elim
  obtain ⟨a0, len, cap, rfl⟩ := hs
  rcases DataW.trod_slice ht hf2 with ⟨hcs, _⟩ | ⟨a, len', cap', elems, rest, n, _, hcs, _, hb0, hl, hm, hlen, hel, _, _⟩
  · simp only [List.cons.injEq, and_true] at hcs
    exact ⟨[], .inl ⟨hcs, rfl⟩⟩
  · simp only [List.cons.injEq, and_true] at hcs
    cases hcs
    simp only [Cell.ok, ht] at hv2
    obtain ⟨_, hcap, _, hsp, row, cells, hsh, _⟩ := hv2
    obtain ⟨b, off, spot⟩ := a
    simp only at hsp
    subst hsp
    unfold World.shape? at hsh
    simp only at hsh
    split at hsh
    · rename_i c tb f hb
      have each : ∀ i, i < len → ∃ y : Bd, ∀ q v, y.cells[q]? = some v → c[off + i * 6 + q]? = some v := by
        intro i hi
        have h1 := hel i hi
        obtain ⟨z, hz⟩ : ∃ z, elems[i]? = some z := ⟨_, List.getElem?_eq_getElem (by omega)⟩
        rw [hz, e61, Option.bind_eq_some_iff] at h1
        obtain ⟨cs', g1, g2⟩ := h1
        obtain ⟨y, rfl⟩ := open_body g2
        refine ⟨y, fun q v hq => ?_⟩
        unfold World.cells? at g1
        split at g1
        · have hq6 : q < 6 := (List.getElem?_eq_some_iff.1 hq).1
          obtain ⟨u, h3, h4⟩ := Lib.mapM_at g1 q q (by simp [hq6])
          rw [hq] at h3
          cases h3
          rw [Go.WideShapes.add_plain, Go.WideShapes.add_plain] at h4
          unfold World.cell? at h4
          simp only [hb] at h4
          simpa using h4
        · cases g1
      obtain ⟨l, hl1, hl2⟩ := list_of len each
      refine ⟨l, .inr ⟨b, off, cap, c, tb, f, by rw [hl1], by rw [hl1]; exact hl, ?_, hb, fun j y hj => hl2 j y hj⟩⟩
      rw [hl1]
      have : (cap : Int) ≤ 9223372036854775807 := hcap
      omega
    · cases hsh
theorem stateTypes : Tryd.prog.cellTypes Tryd.prog.depth 42 = some [3, 40] := by kernel_rfl
theorem stateCells : Tryd.prog.cellsOf 42 = 2 := by kernel_rfl
theorem open_state {H : Type} {enc : TypeId × Value → H} {W : World} {base b0 : Nat} {held : Bool} {r : Reach} {v : Value} {d : DataW H} {p : List MemPlace}
    (hv : Value.okWide Tryd.prog W r b0 42 v) (h : DataW.Trod enc Tryd.prog W base (fun _ => true) held 42 v d p) : ∃ step bs bl, v = .agg #[I64 step, bs] ∧ RowBI W bs bl := by
  obtain ⟨f0, f1, hs, t0, o0, t1, o1⟩ := stateFields
  unfold Value.okWide at hv
  rw [hs] at hv
  obtain ⟨cs, rfl, hcs, ts, hts, _, hcell⟩ := hv
  rw [stateTypes] at hts
  obtain rfl := Option.some.inj hts
  rw [stateCells] at hcs
  obtain ⟨c0, c1, rfl⟩ : ∃ c0 c1, cs = #[c0, c1] := by
    obtain ⟨l⟩ := cs
    match l, hcs with
    | [c0, c1], _ => exact ⟨c0, c1, rfl⟩
  obtain ⟨fuel, hf⟩ := h
  have hf' : DataW.trod enc Tryd.prog W base (fun _ => true) held fuel 42 [c0, c1] = some (d, p) := by simpa [Value.cells] using hf
  obtain ⟨xs, n, _, _, _, hxl, hall⟩ := DataW.trod_struct hs hf'
  have e3 : Tryd.prog.cellsOf 3 = 1 := by kernel_rfl
  have e40 : Tryd.prog.cellsOf 40 = 1 := by kernel_rfl
  have u3 : Tryd.prog.underlying 3 = some (.int .i64) := by kernel_rfl
  obtain ⟨x0, hx0⟩ : ∃ x0, xs[0]? = some x0 := ⟨_, List.getElem?_eq_getElem (by simp at hxl; omega)⟩
  obtain ⟨x1, hx1⟩ : ∃ x1, xs[1]? = some x1 := ⟨_, List.getElem?_eq_getElem (by simp at hxl; omega)⟩
  have h0 := hall 0 f0 rfl
  have h1 := hall 1 f1 rfl
  rw [t0, o0, e3, hx0] at h0
  rw [t1, o1, e40, hx1] at h1
  obtain ⟨m0, q0, _⟩ := DataW.trod_int u3 (by simpa using h0)
  simp at q0
  subst q0
  obtain ⟨u, hu, hok⟩ := hcell 1 c1 rfl
  have hu' : u = 40 := (Option.some.inj (by simpa using hu)).symm
  subst hu'
  have hs40 : Tryd.prog.underlying 40 = some (.slice 61) := by kernel_rfl
  have hok2 : Cell.ok Tryd.prog W r b0 40 c1 := by
    simp only [Cell.okWide, hs40] at hok
    exact hok
  obtain ⟨l, hl⟩ := open_rowB hok2 (by simpa using h1)
  exact ⟨m0, c1, l, rfl, hl⟩
def twoB (b b' : Nat) : Ren := fun i => match i with
  | 0 => b
  | _ => b'
theorem pendM2 {W : World} {tt : TypeId} {f : Nat × Nat} (h : W.heap[1]? = some (.cells namesA tt f)) {b b' : Nat} {c c' : Array Value} {t t' : TypeId} {g g' : Nat × Nat} (hb : W.heap[b]? = some (.cells c t g)) (hb' : W.heap[b']? = some (.cells c' t' g')) :
    RepH (GM tt) (twoB b b') [.pending c t, .pending c' t'] W := by
  refine repH_pendM h _ _ fun i o hi => ?_
  match i, hi with
  | 0, hi => cases hi; exact ⟨c, t, g, rfl, hb⟩
  | 1, hi => cases hi; exact ⟨c', t', g', rfl, hb'⟩
  | i + 2, hi => simp at hi
theorem coldM2 {c c' : Array Value} {t t' : TypeId} : ∀ (i : Nat) (o : Obj), [Obj.pending c t, .pending c' t'][i]? = some o → hot o = false := by
  intro i o hi
  match i, hi with
  | 0, hi => cases hi; rfl
  | 1, hi => cases hi; rfl
  | i + 2, hi => simp at hi
end Go.Proofs.YtjpjnjidchdlbaaDoor
