/-
  Slices of bytes that came in: opened; their blocks as read alone.
-/
import Derived.Test.YtjpjnjidchdlbaaDoorCrcI
import Derived.Test.YtjpjnjidchdlbaaDoorCrcC
import Derived.ChangeSlices
namespace Go.Proofs.YtjpjnjidchdlbaaDoor
set_option linter.unusedSimpArgs false
set_option linter.unusedVariables false
open Go Go.RowKit Go.ChangeShapes Go.WideShapes Go.ChangeAt
set_option maxRecDepth 100000
set_option maxHeartbeats 4000000
/-- v is nil, or the bytes l lie in a block that is there -/
def RowIn (W : World) (v : Value) (l : List UInt8) : Prop := (v = .slice none 0 0 ∧ l = []) ∨
  ∃ (b off cap : Nat) (c : Array Value) (t : TypeId) (f : Nat × Nat), v = .slice (some ⟨b, off, none⟩) l.length cap ∧ l.length ≤ cap ∧ l.length ≤ 9223372036854775807 ∧ W.heap[b]? = some (.cells c t f) ∧ Win c off l
theorem open_rowIn {H : Type} {enc : TypeId × Value → H} {P : Program} {W : World} {base b0 : Nat} {held : Bool} {r : Reach} {t e : TypeId} {v : Value} {d : DataW H} {p : List MemPlace}
    (ht : P.underlying t = some (.slice e)) (he : P.underlying e = some (.int .u8)) (hc : P.cellsOf e = 1) (hv : Value.okWide P W r b0 t v) (h : DataW.Trod enc P W base (fun _ => true) held t v d p) : ∃ l, RowIn W v l := by
  have hv2 : Cell.ok P W r b0 t v := by
    simp only [Value.okWide, ht, Cell.okWide] at hv
    exact hv
  obtain ⟨fuel, hf⟩ := h
  have hs : ∃ a n c, v = .slice a n c := by
    simp only [Cell.ok, ht] at hv2
    cases v <;> first | exact ⟨_, _, _, rfl⟩ | exact hv2.elim
  obtain ⟨a0, len, cap, rfl⟩ := hs
  have hf2 : DataW.trod enc P W base (fun _ => true) held fuel t [.slice a0 len cap] = some (d, p) := by simpa [Value.cells] using hf
  rcases open_ints ht he hc hf2 with ⟨hcs, _⟩ | ⟨a, len', cap', zs, hcs, _, hl, hm, hz, _, hcell, hwz⟩
  · simp only [List.cons.injEq, and_true] at hcs
    exact ⟨[], .inl ⟨hcs, rfl⟩⟩
  · simp only [List.cons.injEq, and_true] at hcs
    cases hcs
    simp only [Cell.ok, ht] at hv2
    obtain ⟨_, hcap, _, hsp, row, cells, hsh, _⟩ := hv2
    obtain ⟨b, off, spot⟩ := a
    simp only at hsp
    subst hsp
    have hcz : zs.length = cap := by simpa using hz
    unfold World.shape? at hsh
    simp only at hsh
    split at hsh
    · rename_i c tb f hb
      have hl2 : ((zs.take len).map fun z => UInt8.ofNat z.toNat).length = len := by simp; omega
      refine ⟨(zs.take len).map fun z => UInt8.ofNat z.toNat, .inr ⟨b, off, cap, c, tb, f, by rw [hl2], by rw [hl2]; exact hl, ?_, hb, ?_⟩⟩
      · rw [hl2]
        have : (cap : Int) ≤ 9223372036854775807 := hcap
        omega
      · intro j u hj
        rw [List.getElem?_map, List.getElem?_take] at hj
        split at hj
        · rename_i hjl
          have hjz : j < zs.length := by omega
          rw [List.getElem?_eq_getElem hjz] at hj
          simp only [Option.map_some, Option.some.injEq] at hj
          have h1 := hcell j hjz
          rw [Go.WideShapes.add_plain] at h1
          unfold World.cell? at h1
          simp only [hb] at h1
          have h2 : c[off + j]? = some (.int .u8 (zs.getD j 0)) := by simpa using h1
          rw [h2, List.getD_eq_getElem?_getD, List.getElem?_eq_getElem hjz, ← hj]
          have h3 : (Lit.int .u8 zs[j]).wf = true := hwz _ (List.getElem_mem hjz)
          have h4 : 0 ≤ zs[j] ∧ zs[j] ≤ 255 := by simpa [Lit.wf, IntKind.min, IntKind.max, IntKind.signed, IntKind.bits] using h3
          show some (Value.int .u8 zs[j]) = some (Value.int .u8 ((UInt8.ofNat zs[j].toNat).toNat : Int))
          congr 2
          simp
          omega
        · cases hj
    · cases hsh
/-- blocks that came in, read alone -/
theorem repH_pend {W : World} {tt : TypeId} {f : Nat × Nat} (h : W.heap[0]? = some (.cells tabA tt f)) (r : Ren) (hs : List Obj)
    (hp : ∀ (i : Nat) (o : Obj), hs[i]? = some o → ∃ c t g, o = .pending c t ∧ W.heap[r i]? = some (.cells c t g)) : RepH (GC tt) r hs W := by
  have cold : ∀ (i : Nat) (o : Obj), hs[i]? = some o → hot o = false := by
    intro i o hi
    obtain ⟨c, t, g, rfl, _⟩ := hp i o hi
    rfl
  refine ⟨fun i o hi => ?_, fun i j o u hi hj hu => ?_, fun i o hi v hv => ?_, gl_steps h r hs fun i u hi hu => ?_⟩
  · obtain ⟨c, t, g, rfl, h2⟩ := hp i o hi
    exact ⟨g, h2⟩
  · rw [cold i o hi] at hu; cases hu
  · obtain ⟨c, t, g, rfl, h2⟩ := hp i o hi
    cases hv
  · rw [cold i u hi] at hu; cases hu
end Go.Proofs.YtjpjnjidchdlbaaDoor
