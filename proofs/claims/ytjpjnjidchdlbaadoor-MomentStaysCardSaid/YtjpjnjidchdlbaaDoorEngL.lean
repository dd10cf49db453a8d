/-
  Calls from greater heaps; loops (no condition).
-/
import Derived.Test.YtjpjnjidchdlbaaDoorEngK
import Derived.LoopNIn
namespace Go.Proofs.YtjpjnjidchdlbaaDoor
set_option linter.unusedSimpArgs false
set_option linter.unusedVariables false
open Go Go.RowKit

section
variable {P : Program} {T : Tab} {G : List (Nat × Obj)} {ro : Option Nat} {r : Ren} {s : St} {a : Act} {w : World}
theorem ac_mono {f : FuncId} {args : List Value} {h : List Obj} {k k' : Value → List Obj → Prop} (H : AC P G f args h k) (hk : ∀ v h', k v h' → k' v h') : AC P G f args h k' := by
  unfold AC at *
  refine ⟨H.1, fun r w R ha => (H.2 r w R ha).mono ?_⟩
  rintro e w' ⟨r', h', v, S, R', s, he, hk'⟩
  exact ⟨r', h', v, S, R', s, he, hk _ _ hk'⟩
/-- names of the callee put for names of the caller -/
def nu (n m : Nat) (l : List Nat) : Ren := fun i => if i < n then l.getD i 0 else m + (i - n)
/-- a call whose contract is told over a small heap that is read alone -/
theorem ac_frame {f : FuncId} {args0 args : List Value} {h0 h : List Obj} {k0 k : Value → List Obj → Prop} (sg : List Nat) (H : AC P G f args0 h0 k0)
    (hargs : args = args0.map (r3 (nu h0.length h.length sg))) (hs : ∀ v ∈ args0, s3 h0.length v)
    (hh : ∀ (i : Nat) (o : Obj), h0[i]? = some o → hot o = false ∧ (∀ v ∈ cellsOf o, s1 h0.length v) ∧ ∃ o', h[sg.getD i 0]? = some o' ∧ ObjLe (rO (nu h0.length h.length sg) o) o')
    (hk : ∀ v h', k0 v h' → ∃ news, h' = h0 ++ news ∧ k (r3 (nu h0.length h.length sg) v) (h ++ news.map (rO (nu h0.length h.length sg)))) : AC P G f args h k := by
  unfold AC at *
  refine ⟨H.1, fun r w R ha => ?_⟩
  let t := nu h0.length h.length sg
  have R0 : RepH G (r ∘ t) h0 w := by
    refine R.pick (fun i o hi => ?_) (fun i j o u hi _ hot' _ _ => ?_) (fun i o hi => (hh i o hi).2.1)
    · obtain ⟨_, _, o', q1, q2⟩ := hh i o hi
      have hlt : i < h0.length := (List.getElem?_eq_some_iff.1 hi).1
      exact ⟨o', by simp only [t, nu, if_pos hlt]; exact q1, q2⟩
    · rw [(hh i o hi).1] at hot'; cases hot'
  have hc := H.2 (r ∘ t) w R0 hs
  have he : args0.map (c3 (r ∘ t)) = args.map (c3 r) := by
    rw [hargs, List.map_map]
    exact List.map_congr_left fun v _ => (c3_r3 r t v).symm
  rw [he] at hc
  refine hc.mono ?_
  rintro e w' ⟨r0', h', v, S, R', sv, rfl, hk0⟩
  obtain ⟨news, rfl, hk1⟩ := hk v h' hk0
  let r' : Ren := fun i => if i < h.length then r i else r0' (i - h.length + h0.length)
  have hex : ∀ i, i < h0.length → sg.getD i 0 < h.length := by
    intro i hi
    obtain ⟨_, _, o', q1, _⟩ := hh i _ (List.getElem?_eq_getElem hi)
    exact (List.getElem?_eq_some_iff.1 q1).1
  have hcomp : r' ∘ t = r0' := by
    funext i
    by_cases hi : i < h0.length
    · have : t i = sg.getD i 0 := by simp only [t, nu, if_pos hi]
      simp only [Function.comp_apply, this, r', if_pos (hex i hi)]
      rw [S.ext i hi]
      simp only [Function.comp_apply, this]
    · have : t i = h.length + (i - h0.length) := by simp only [t, nu, if_neg hi]
      simp only [Function.comp_apply, this, r']
      rw [if_neg (by omega)]
      congr 1; omega
  have hnohot : ∀ k, ¬ HotSet (r ∘ t) h0 k := by
    rintro k ⟨i, o, hi, hh', _⟩
    rw [(hh i o hi).1] at hh'; cases hh'
  have hr' : ∀ i, i < h.length → r' i = r i := fun i hi => by simp only [r', if_pos hi]
  have hnew : ∀ j, r' (h.length + j) = r0' (h0.length + j) := by
    intro j; simp only [r']; rw [if_neg (by omega)]; congr 1; omega
  have ht : ∀ i, i < (h0 ++ news).length → t i < (h ++ news.map (rO t)).length := by
    intro i hi
    simp only [List.length_append, List.length_map] at hi ⊢
    by_cases hlt : i < h0.length
    · have := hex i hlt; simp only [t, nu, if_pos hlt]; omega
    · simp only [t, nu, if_neg hlt]; omega
  have old : ∀ i o, (h ++ news.map (rO t))[i]? = some o → (i < h.length ∧ h[i]? = some o) ∨ ∃ j u, i = h.length + j ∧ (h0 ++ news)[h0.length + j]? = some u ∧ o = rO t u := by
    intro i o hi
    by_cases hlt : i < h.length
    · left; rw [List.getElem?_append_left hlt] at hi; exact ⟨hlt, hi⟩
    · right
      rw [List.getElem?_append_right (by omega), List.getElem?_map] at hi
      cases hn : news[i - h.length]? with
      | none => rw [hn] at hi; cases hi
      | some u =>
        rw [hn] at hi
        simp only [Option.map_some, Option.some.injEq] at hi
        refine ⟨i - h.length, u, by omega, ?_, hi.symm⟩
        rw [List.getElem?_append_right (by omega)]
        rw [show h0.length + (i - h.length) - h0.length = i - h.length from by omega]; exact hn
  have fresh : ∀ j u, (h0 ++ news)[h0.length + j]? = some u → alive u = true → w.heap.size ≤ r0' (h0.length + j) := by
    intro j u hu ha
    rcases S.own _ u hu ha (.inr (by omega)) with q | q
    · exact absurd q (hnohot _)
    · exact q
  refine ⟨r', h ++ news.map (rO t), r3 t v, ⟨by simp, hr', ⟨S.keep.os, S.keep.tape, S.keep.output, S.keep.size, fun b hb _ => S.keep.block b hb (hnohot b)⟩, ?_, ?_, ?_⟩, ⟨?_, ?_, ?_, ?_⟩, s3_r3 ht sv, ?_, hk1⟩
  · intro i o hi ha hh'
    rcases old i o hi with ⟨h1, h2⟩ | ⟨j, u, rfl, h2, rfl⟩
    · rcases hh' with hh' | hh'
      · exact .inl ⟨i, o, h2, hh', (hr' i h1).symm⟩
      · omega
    · right; rw [hnew]; rw [alive_rO] at ha; exact fresh j u h2 ha
  · intro i o hi ha
    have : i < h.length := (List.getElem?_eq_some_iff.1 hi).1
    exact ⟨o, by rw [List.getElem?_append_left this]; exact hi, ha⟩
  · intro i o hi
    have : i < h.length := (List.getElem?_eq_some_iff.1 hi).1
    rw [List.getElem?_append_left this]; exact hi
  · intro i o hi
    rcases old i o hi with ⟨h1, h2⟩ | ⟨j, u, rfl, h2, rfl⟩
    · rw [hr' i h1]
      by_cases ha : alive o = true
      · exact ObjOk.congr hr' (R.sc i o h2) (S.keep.block _ (R.lt h2 ha) (hnohot _)) (R.ok i o h2)
      · cases o <;> first | trivial | (simp [alive] at ha)
    · rw [ObjOk_rO, hcomp, hnew]; exact R'.ok _ _ h2
  · intro i j o u hi hj ho hu he
    rcases old i o hi with ⟨h1, h2⟩ | ⟨i', o', rfl, h2, rfl⟩
    · rcases old j u hj with ⟨g1, g2⟩ | ⟨j', u', rfl, g2, rfl⟩
      · rw [hr' i h1, hr' j g1] at he; exact R.inj i j o u h2 g2 ho hu he
      · rw [alive_rO] at hu
        have q1 := fresh j' u' g2 hu
        have q2 := R.lt h2 (alive_of_hot ho)
        rw [hr' i h1, hnew] at he; omega
    · rw [hot_rO] at ho
      rcases old j u hj with ⟨g1, g2⟩ | ⟨j', u', rfl, g2, rfl⟩
      · have q1 := fresh i' o' h2 (alive_of_hot ho)
        have q2 := R.lt g2 hu
        rw [hr' j g1, hnew] at he; omega
      · rw [alive_rO] at hu
        rw [hnew, hnew] at he
        have := R'.inj _ _ _ _ h2 g2 ho hu he
        omega
  · intro i o hi v hv
    rcases old i o hi with ⟨h1, h2⟩ | ⟨j, u, rfl, h2, rfl⟩
    · exact s1_mono (by simp) (R.sc i o h2 v hv)
    · have : ∃ x ∈ cellsOf u, v = r1 t x := by
        cases u with
        | cells c e f =>
          simp only [rO, cellsOf, Array.toList_map, List.mem_map] at hv
          obtain ⟨x, hx, rfl⟩ := hv; exact ⟨x, hx, rfl⟩
        | map es k =>
          simp only [rO, cellsOf, Array.toList_map, List.map_map, List.mem_map] at hv
          obtain ⟨x, hx, rfl⟩ := hv
          exact ⟨x.val, by simp only [cellsOf, List.mem_map]; exact ⟨x, hx, rfl⟩, rfl⟩
        | loop l =>
          simp only [rO, cellsOf, Array.toList_map, List.mem_map] at hv
          obtain ⟨x, hx, rfl⟩ := hv; exact ⟨x, hx, rfl⟩
        | _ => cases hv
      obtain ⟨x, hx, rfl⟩ := this
      exact s1_r1 ht (R'.sc _ _ h2 x hx)
  · intro g o hg
    refine ⟨(R'.gl g o hg).1, fun i u hi hu => ?_⟩
    rcases old i u hi with ⟨h1, h2⟩ | ⟨j, u', rfl, h2, rfl⟩
    · rw [hr' i h1]; exact (R.gl g o hg).2 i u h2 hu
    · rw [hot_rO] at hu
      rw [hnew]; exact (R'.gl g o hg).2 _ _ h2 hu
  · rw [c3_r3, hcomp]

/-! ## Loops -/
theorem rounds_mono {F : Fence} {n : Nat} {c : Code} {Q : Exit → Act → World → Prop} : ∀ (m m' : Nat), m ≤ m' → ∀ a w, Code.roundsIn F n P c Q m a w → Code.roundsIn F n P c Q m' a w := by
  intro m
  induction m with
  | zero => intro m' _ a w h; exact h.elim
  | succ m ih =>
    intro m' hm a w h
    obtain ⟨q, rfl⟩ : ∃ q, m' = q + 1 := ⟨m' - 1, by omega⟩
    rw [roundsIn_succ] at h ⊢
    refine wpIn_mono h ?_
    intro e a' w' he
    cases e <;> first | exact he | exact ih q (by omega) a' w' he
/-- a loop, by what holds at each round's head; each round lowers the number -/
theorem aw_loop_aw {body : Code} {K : Exit → St → Prop} (I : Nat → St → Prop) (m0 : Nat)
    (hI : ∀ m s, I m s → AW P G ro body s fun e s' => match e with
      | .normal => ∃ m', m' < m ∧ I m' s'
      | e => K e s') (h0 : I m0 s) : AW P G ro (.loop body) s K := by
  unfold AW
  intro r a w R
  have key : ∀ m r0 (h0 : List Obj) w0 s r a w, I m s → Step r0 h0 w0 r s.h w → RepS G r s a w → Code.roundsIn (fen ro) 0 P body (Post G r0 h0 w0 K) (m + 1) a w := by
    intro m
    induction m using Nat.strongRecOn with
    | _ m ih =>
      intro r0 h0 w0 s r a w hm S R
      rw [roundsIn_succ]
      refine wpIn_mono (aw_out (hI m s hm) R) ?_
      rintro e a' w' ⟨r', s', S', R', hk⟩
      cases e with
      | normal =>
        obtain ⟨m', hlt, hm'⟩ := hk
        exact rounds_mono (m' + 1) m (by omega) _ _ (ih m' hlt r0 h0 w0 s' r' a' w' hm' (S.trans S') R')
      | _ => exact ⟨r', s', S.trans S', R', hk⟩
  exact wpIn_loop_rounds _ (key m0 r s.h w s r a w h0 (Step.refl _ _ _) R)
theorem aw_loop (hT : TabOk P T) {body : Code} {K : Exit → St → Prop} (I : Nat → St → Prop) (m0 : Nat)
    (hI : ∀ m s, I m s → run P T G ro body s fun e s' => match e with
      | .normal => ∃ m', m' < m ∧ I m' s'
      | .exit i => K (.exit i) s'
      | .goto i => K (.goto i) s'
      | .ret => K .ret s'
      | _ => False) (h0 : I m0 s) : AW P G ro (.loop body) s K := by
  refine aw_loop_aw I m0 (fun m s hm => aw_mono (run_ok (ro := ro) hT body s _ (hI m s hm)) ?_) h0
  intro e s' h
  cases e <;> first | exact h | exact h.elim
/-- a loop of so many rounds, round by round -/
def roundsK (P : Program) (T : Tab) (G : List (Nat × Obj)) (ro : Option Nat) (body : Code) (K : Exit → St → Prop) (n : Nat) : St → Prop :=
  Nat.rec (motive := fun _ => St → Prop) (fun _ => False) (fun _ ih s => run P T G ro body s fun e s => match e with
    | .normal => ih s
    | .exit i => K (.exit i) s
    | .goto i => K (.goto i) s
    | .ret => K .ret s
    | _ => False) n
theorem aw_rounds (hT : TabOk P T) {body : Code} {K : Exit → St → Prop} (n : Nat) (h : roundsK P T G ro body K n s) : AW P G ro (.loop body) s K := by
  refine aw_loop_aw (fun m s => roundsK P T G ro body K m s) n ?_ h
  intro m s hm
  cases m with
  | zero => exact hm.elim
  | succ m =>
    refine aw_mono (run_ok (ro := ro) hT body s _ hm) ?_
    intro e s' h
    cases e <;> first | exact ⟨m, by omega, h⟩ | exact h | exact h.elim
end
end Go.Proofs.YtjpjnjidchdlbaaDoor
