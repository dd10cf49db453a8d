/-
  The statement 'for .. := range f { .. }' over a function value, run in place.
-/
import Derived.Test.YtjpjnjidchdlbaaDoorEngR
namespace Go.Proofs.YtjpjnjidchdlbaaDoor
set_option linter.unusedSimpArgs false
set_option linter.unusedVariables false
open Go Go.RowKit

section
variable {P : Program} {T : Tab} {G : List (Nat × Obj)} {ro : Option Nat} {r r' : Ren} {h h' : List Obj} {s : St} {a : Act} {w w' : World}
def noAgg (v : Value) : Bool := match v with
  | .agg _ => false
  | .tuple _ => false
  | _ => true
/-- the slots that a record keeps: scalars as they are, all else marked unknown -/
def KeepSlots (t : List (List Value)) (fl : List Value) : Prop :=
  ∀ (i : Nat) (v : Value), fl[i]? = some v → ∃ u, get2 t i = some u ∧ (isMark v = false → u = v ∧ noAgg v = true)
theorem noAgg_s1 {n : Nat} {v : Value} (h : s3 n v) (hv : noAgg v = true) : s1 n v :=
  s1_simple (s2_simple h (by rintro cs rfl; cases hv)) (by rintro cs rfl; cases hv)
theorem KeepSlots.s1 {fl : List Value} (H : KeepSlots s.t fl) (R : RepS G r s a w) : ∀ v ∈ fl, s1 s.h.length v := by
  intro v hv
  obtain ⟨i, hi⟩ := List.mem_iff_getElem?.1 hv
  obtain ⟨u, hu, hk⟩ := H i v hi
  cases hm : isMark v with
  | true => cases v <;> first | (simp [isMark] at hm; done) | exact trivial
  | false =>
    obtain ⟨rfl, hn⟩ := hk hm
    exact noAgg_s1 (((R.tmp i u hu).2 hm).2) hn
theorem KeepSlots.size {fl : List Value} (H : KeepSlots s.t fl) (R : RepS G r s a w) : fl.length ≤ a.tmps.size := by
  cases hl : fl.length with
  | zero => exact Nat.zero_le _
  | succ n =>
    have hlt : n < fl.length := by omega
    obtain ⟨u, hu, _⟩ := H n _ (List.getElem?_eq_getElem hlt)
    have := (R.tmp n u hu).1
    omega
def freshLoop (fn : FuncId) (fl : List Value) (ps : Array Tmp) (assign body : Code) (l : Nat) : Loop :=
  { state := .ready, pending := none, fn := fn, tmps := ⟨fl⟩, params := ps, assign := assign, body := body, defers := l }
/-- what is owed behind the call -/
def RAfter (P : Program) (G : List (Nat × Obj)) (ro : Option Nat) (n l : Nat) (t : List (List Value)) (d : List Nat) (K : Exit → St → Prop) (h' : List Obj) : Prop :=
  ∃ l2 : Loop, h'[n]? = some (.loop l2) ∧ l2.defers = l ∧ l2.state ≠ .busy ∧
    match l2.pending with
    | none => K .normal ⟨t, h'.set n (.loop { l2 with state := .exhausted, pending := l2.pending }), d⟩
    | some c => AW P G ro c ⟨t, h'.set n (.loop { l2 with state := .exhausted, pending := l2.pending }), d⟩ K
theorem rpush_self (r : Ren) (h : List Obj) (w : World) : rpush r h w h.length = w.heap.size := by simp [rpush]
/-- an outermost range -/
theorem aw_range {g : Operand} {ps : Array Tmp} {assign body : Code} {K : Exit → St → Prop} {f : FuncId} {cs : List Value} (fl : List Value)
    (hev : evK s g fun v => v = .func (.func f) #[] ⟨cs⟩) (hfl : KeepSlots s.t fl)
    (h : ∀ l fn, AC P G f (.func (.yield l) #[] #[] :: cs) (s.h ++ [.deferred (some [])] ++ [.loop (freshLoop fn fl ps assign body l)]) fun _ h' => RAfter P G none (s.h.length + 1) l s.t (s.h.length :: s.d) K h') :
    AW P G none (.rangeFunc g ps assign body) s K := by
  unfold AW
  intro r a w R
  obtain ⟨fv, e1, e2, rfl⟩ := evK_ok R hev
  have e2c : ∀ x ∈ cs, s0 s.h.length x := fun x hx => e2.2 x hx
  have hcc : ∀ x ∈ cs, c3 r x = c0 r x ∧ s3 s.h.length x := by
    intro x hx
    have := e2c x hx
    cases x <;> first | exact ⟨rfl, this⟩ | exact this.elim
  refine wpIn_rangeFunc fun fn _ => ?_
  let w1 := w.alloc (.deferred (some []))
  let r1 := rpush r s.h w
  have R1 : RepH G r1 (s.h ++ [.deferred (some [])]) w1 := R.heap.pushO (o := .deferred (some [])) (World.alloc_heap_new _ _) (fun v hv => by simp [cellsOf] at hv)
  let L : Loop := freshLoop fn fl ps assign body (w.heap.size + 1)
  let w2 := w1.alloc (.loop { state := .ready, pending := none, fn := fn, tmps := a.tmps, params := ps, assign := assign, body := body, defers := w.heap.size })
  let r2 := rpush r1 (s.h ++ [.deferred (some [])]) w1
  have hw1 : w1.heap.size = w.heap.size + 1 := World.size_alloc _ _
  have er1 : ∀ i, i < s.h.length → r1 i = r i := fun i hi => rpush_lt r s.h w hi
  have er2 : ∀ i, i < s.h.length + 1 → r2 i = r1 i := fun i hi => rpush_lt r1 _ w1 (by simp; omega)
  have er : ∀ i, i < s.h.length → r2 i = r i := fun i hi => (er2 i (by omega)).trans (er1 i hi)
  have hs1 := hfl.s1 R
  have R2 : RepH G r2 (s.h ++ [.deferred (some [])] ++ [.loop L]) w2 := by
    refine R1.pushO (o := .loop L) ⟨hw1, a.tmps, w.heap.size, ?_, hfl.size R, fun i v hv hm => ?_⟩ (fun v hv => s1_mono (by simp) (hs1 v (by simpa [L, freshLoop, cellsOf] using hv)))
    · rw [World.alloc_heap_new]
      rfl
    · have hv' : fl[i]? = some v := by simpa [L, freshLoop] using hv
      obtain ⟨u, hu, hk⟩ := hfl i v hv'
      obtain ⟨rfl, hn⟩ := hk hm
      obtain ⟨q1, q2⟩ := (R.tmp i u hu).2 hm
      have hsu := noAgg_s1 q2 hn
      rw [q1, c3_s1 hsu, c1_congr er hsu]
  have S1 : Step r s.h w r1 (s.h ++ [.deferred (some [])]) w1 := Step.push r s.h w _ _
  have S2 : Step r s.h w r2 (s.h ++ [.deferred (some [])] ++ [.loop L]) w2 := S1.trans (Step.push r1 _ w1 _ _)
  have H := h (w.heap.size + 1) fn
  unfold AC at H
  obtain ⟨⟨fnc, hf1, hf2, hf3⟩, hcall⟩ := H
  have hc := hcall r2 w2 R2 (by
    intro v hv
    rcases List.mem_cons.1 hv with rfl | hv
    · exact ⟨fun x hx => by simp at hx, fun x hx => by simp at hx⟩
    · exact s3_mono (by simp) (hcc v hv).2)
  have hargs : ((Value.func (.yield (w.heap.size + 1)) #[] #[] :: cs).map (c3 r2)).toArray = #[.func (.yield (w.heap.size + 1)) #[] #[]] ++ (cs.map (c0 r)).toArray := by
    apply Array.ext'
    simp only [List.map_cons, Array.toList_append]
    have : cs.map (c3 r2) = cs.map (c0 r) := List.map_congr_left fun x hx => by rw [c3_congr er (hcc x hx).2]; exact (hcc x hx).1
    rw [this]
    simp [c3, c2, c1]
  rw [hargs] at hc
  have hb : fnc.body.isNone = false := by
    cases hbb : fnc.body with
    | none => rw [hbb] at hf3; cases hf3
    | some _ => rfl
  have e1' : a.eval g = .func (.func f) #[] (cs.map (c0 r)).toArray := by rw [e1]; simp [c3, c2, c1]
  refine ⟨w.heap.size + 1, [{ target := .collected w.heap.size, args := #[] }], w2, { target := .fn (.func f) (cs.map (c0 r)).toArray, args := #[.func (.yield (w.heap.size + 1)) #[] #[]] }, w2, f,
    #[.func (.yield (w.heap.size + 1)) #[] #[]] ++ (cs.map (c0 r)).toArray, w2, ?_, ?_, fun f' _ => fen_fn none f', ?_, fun hh => (by rw [fen_depth] at hh; cases hh), ?_⟩
  · exact run_enterLoop_outer fn a.tmps ps assign body
  · simp only [resolve, e1', Deferred.ofValue, Sem.run_pure]
    simp [Act.eval]
  · simp only [invoke, callFunc, run_program, Sem.run_bind, Sem.run_pure, Result.andThen_ok, hf1, hf2, hb, Bool.false_eq_true, if_false]
  · refine callsIn_wide.2 (fun cs' => ?_)
    obtain ⟨e, w3, fr, ⟨r3, h3, v, S3, R3, _, rfl, l2, hn2, hl2, hst, hk⟩, rest⟩ := hc cs'
    refine ⟨_, w3, fr, ?_, rest⟩
    obtain ⟨hrn, arr, d, hw3, _, _⟩ := R3.loop hn2
    rw [hl2] at hrn hw3
    obtain ⟨U1, U2⟩ := R3.turn hn2 hl2 .exhausted l2.pending arr d hw3
    have Sz := (S2.trans S3).trans U2
    have RE0 : RepS G r3 ⟨s.t, h3.set (s.h.length + 1) (.loop { l2 with state := .exhausted, pending := l2.pending }), s.d⟩ a _ := R.move U1 Sz.len Sz.ext Sz.dfr
    have hdef : (s.h ++ [Obj.deferred (some [])] ++ [.loop L])[s.h.length]? = some (.deferred (some [])) := by
      rw [List.getElem?_append_left (by simp), List.getElem?_append_right (Nat.le_refl _)]; simp
    have hr3 : r3 s.h.length = w.heap.size := by
      rw [S3.ext _ (by simp), er2 _ (by omega)]
      exact rpush_self r s.h w
    have RE : RepS G r3 ⟨s.t, h3.set (s.h.length + 1) (.loop { l2 with state := .exhausted, pending := l2.pending }), s.h.length :: s.d⟩ { a with defers := [{ target := .collected w.heap.size, args := #[] }] ++ a.defers } (w3.putObj (w.heap.size + 1) (.loop { l2 with tmps := arr, defers := d, state := .exhausted, pending := l2.pending })) := by
      refine ⟨RE0.heap, RE0.tmp, ?_, fun i hi => ?_⟩
      · simp only [List.map_cons, List.singleton_append]
        rw [show markOf r3 s.h.length = { target := .collected w.heap.size, args := #[] } from by simp [markOf, hr3]]
        congr 1
        exact RE0.dfr
      · rcases List.mem_cons.1 hi with rfl | hi
        · exact ⟨_, (S3.trans U2).dfr _ _ hdef⟩
        · exact RE0.dok i hi
    refine ⟨l2.pending, w3.putObj (w.heap.size + 1) (.loop { l2 with tmps := arr, defers := d, state := .exhausted, pending := l2.pending }), run_endLoop (r := { l2 with tmps := arr, defers := d }) hw3 hst, ?_⟩
    have key : ∀ p : Option Code, (match p with
        | none => K .normal ⟨s.t, h3.set (s.h.length + 1) (.loop { l2 with state := .exhausted, pending := l2.pending }), s.h.length :: s.d⟩
        | some c => AW P G none c ⟨s.t, h3.set (s.h.length + 1) (.loop { l2 with state := .exhausted, pending := l2.pending }), s.h.length :: s.d⟩ K) → (match p with
        | none => Post G r s.h w K .normal { a with defers := [{ target := .collected w.heap.size, args := #[] }] ++ a.defers } (w3.putObj (w.heap.size + 1) (.loop { l2 with tmps := arr, defers := d, state := .exhausted, pending := l2.pending }))
        | some c => c.wpIn (fen none) 0 P (Post G r s.h w K) { a with defers := [{ target := .collected w.heap.size, args := #[] }] ++ a.defers } (w3.putObj (w.heap.size + 1) (.loop { l2 with tmps := arr, defers := d, state := .exhausted, pending := l2.pending }))) := by
      intro p hk
      cases p with
      | none => exact ⟨r3, _, Sz, RE, hk⟩
      | some c =>
        refine wpIn_mono (aw_out hk RE) ?_
        rintro e a' w' ⟨q, s', Sq, Rq, kq⟩
        exact ⟨q, s', Sz.trans Sq, Rq, kq⟩
    exact key _ hk
end
end Go.Proofs.YtjpjnjidchdlbaaDoor
