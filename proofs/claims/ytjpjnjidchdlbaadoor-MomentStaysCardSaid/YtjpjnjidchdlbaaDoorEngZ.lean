/-
  Names put for names where code ends: blocks are put in another order, or dropped (no condition).
-/
import Derived.Test.YtjpjnjidchdlbaaDoorEngY
namespace Go.Proofs.YtjpjnjidchdlbaaDoor
set_option linter.unusedSimpArgs false
set_option linter.unusedVariables false
open Go Go.RowKit

section
variable {P : Program} {T : Tab} {G : List (Nat × Obj)} {ro : Option Nat}
theorem isMark_r3 (t : Ren) (v : Value) : isMark (r3 t v) = isMark v := by
  cases v with
  | pointer p => cases p <;> rfl
  | slice p l c => cases p <;> rfl
  | map p => cases p <;> rfl
  | _ => rfl
theorem r0_self (v : Value) : r0 (fun i => i) v = v := by
  cases v with
  | pointer p => cases p with
    | none => rfl
    | some p => obtain ⟨b, o, sp⟩ := p; cases sp <;> rfl
  | slice p l c => cases p with
    | none => rfl
    | some p => obtain ⟨b, o, sp⟩ := p; cases sp <;> rfl
  | map p => cases p <;> rfl
  | _ => rfl
theorem r1_self (v : Value) : r1 (fun i => i) v = v := by
  cases v with
  | func f fs cs => simp only [r1]; rw [map_self _ _ fun y _ => r0_self y, map_self _ _ fun y _ => r0_self y]
  | pointer p => exact r0_self (.pointer p)
  | slice p l c => exact r0_self (.slice p l c)
  | map p => exact r0_self (.map p)
  | _ => rfl
theorem r2_self (v : Value) : r2 (fun i => i) v = v := by
  cases v with
  | agg cs => simp only [r2]; rw [map_self _ _ fun y _ => r1_self y]
  | func f fs cs => exact r1_self (.func f fs cs)
  | pointer p => exact r1_self (.pointer p)
  | slice p l c => exact r1_self (.slice p l c)
  | map p => exact r1_self (.map p)
  | _ => rfl
theorem r3_self (v : Value) : r3 (fun i => i) v = v := by
  cases v with
  | tuple cs => simp only [r3]; rw [map_self _ _ fun y _ => r2_self y]
  | agg cs => exact r2_self (.agg cs)
  | func f fs cs => exact r2_self (.func f fs cs)
  | pointer p => exact r2_self (.pointer p)
  | slice p l c => exact r2_self (.slice p l c)
  | map p => exact r2_self (.map p)
  | _ => rfl
/-- the state u is s, told by other names: t puts s's names for u's; those below n stay -/
structure RenOk (n : Nat) (t : Ren) (s u : St) : Prop where
  id : ∀ i, i < n → t i = i
  inj : ∀ i j, i < u.h.length → j < u.h.length → t i = t j → i = j
  len : n ≤ u.h.length
  heap : ∀ (i : Nat) (o : Obj), u.h[i]? = some o → s.h[t i]? = some (rO t o) ∧ ∀ v ∈ cellsOf o, s1 u.h.length v
  tmp : ∀ (i : Nat) (v : Value), get2 u.t i = some v → ∃ v0, get2 s.t i = some v0 ∧ (isMark v = true ∨ (v0 = r3 t v ∧ s3 u.h.length v))
  dfr : s.d = u.d.map t
  dok : ∀ i ∈ u.d, ∃ o, u.h[i]? = some (.deferred o)
theorem RenOk.reps {n : Nat} {t : Ren} {s u : St} (H : RenOk n t s u) {r : Ren} {a : Act} {w : World} (R : RepS G r s a w) : RepS G (r ∘ t) u a w := by
  refine ⟨R.heap.pick (fun i o hi => ⟨_, (H.heap i o hi).1, .inl rfl⟩) (fun i j o o' hi hj _ _ he => H.inj i j (List.getElem?_eq_some_iff.1 hi).1 (List.getElem?_eq_some_iff.1 hj).1 he) (fun i o hi => (H.heap i o hi).2), ?_, ?_, H.dok⟩
  · intro i v hv
    obtain ⟨v0, h1, h2⟩ := H.tmp i v hv
    obtain ⟨h3, h4⟩ := R.tmp i v0 h1
    refine ⟨h3, fun hm => ?_⟩
    rcases h2 with h2 | ⟨rfl, h2⟩
    · rw [h2] at hm; cases hm
    · obtain ⟨h5, _⟩ := h4 (by rw [isMark_r3]; exact hm)
      exact ⟨by rw [h5, c3_r3], h2⟩
  · rw [R.dfr, H.dfr, List.map_map]
    rfl
theorem RenOk.step {t : Ren} {s u : St} {r0 r : Ren} {h0 : List Obj} {w0 w : World} (H : RenOk h0.length t s u) (S : Step r0 h0 w0 r s.h w) : Step r0 h0 w0 (r ∘ t) u.h w := by
  have hge : ∀ i, h0.length ≤ i → i < u.h.length → h0.length ≤ t i := by
    intro i hi hlt
    refine Nat.le_of_not_lt fun hc => ?_
    have := H.inj i (t i) hlt (Nat.lt_of_lt_of_le hc H.len) (H.id (t i) hc).symm
    omega
  refine ⟨H.len, fun i hi => by simp only [Function.comp_apply, H.id i hi]; exact S.ext i hi, S.keep, ?_, ?_, ?_⟩
  · intro i o hi ha hh
    have hlt : i < u.h.length := (List.getElem?_eq_some_iff.1 hi).1
    refine S.own (t i) _ (H.heap i o hi).1 (by rw [alive_rO]; exact ha) ?_
    rcases hh with hh | hh
    · exact .inl (by rw [hot_rO]; exact hh)
    · exact .inr (hge i hh hlt)
  · intro i o hi ha
    have hlt : i < h0.length := (List.getElem?_eq_some_iff.1 hi).1
    obtain ⟨o', h1, h2⟩ := S.dead i o hi ha
    have hu : i < u.h.length := Nat.lt_of_lt_of_le hlt H.len
    refine ⟨_, List.getElem?_eq_getElem hu, ?_⟩
    have h3 := (H.heap i _ (List.getElem?_eq_getElem hu)).1
    rw [H.id i hlt, h1] at h3
    rw [← alive_rO t, ← Option.some.inj h3]
    exact h2
  · intro i o hi
    have hlt : i < h0.length := (List.getElem?_eq_some_iff.1 hi).1
    have h1 := S.dfr i o hi
    have hu : i < u.h.length := Nat.lt_of_lt_of_le hlt H.len
    have h3 := (H.heap i _ (List.getElem?_eq_getElem hu)).1
    rw [H.id i hlt, h1] at h3
    have h4 := Option.some.inj h3
    rw [List.getElem?_eq_getElem hu]
    generalize u.h[i] = o1 at h4
    cases o1 <;> first | (simp only [rO] at h4; rw [h4]; done) | (simp [rO] at h4)
/-- told by other names at its end -/
theorem aw_ren {c : Code} {s : St} {K : Exit → St → Prop} (h : AW P G ro c s fun e s' => ∃ t u, RenOk s.h.length t s' u ∧ K e u) : AW P G ro c s K := by
  unfold AW
  intro r a w R
  refine wpIn_mono (aw_out h R) ?_
  rintro e a' w' ⟨r', s', S, R', t, u, H, k⟩
  exact ⟨_, u, H.step S, H.reps R', k⟩
theorem aw_ren2 {c : Code} {s : St} {K : Exit → St → Prop} (h : AW P G ro c s fun e s' => K e s' ∨ ∃ t u, RenOk s.h.length t s' u ∧ K e u) : AW P G ro c s K := by
  unfold AW
  intro r a w R
  refine wpIn_mono (aw_out h R) ?_
  rintro e a' w' ⟨r', s', S, R', k | ⟨t, u, H, k⟩⟩
  · exact ⟨r', s', S, R', k⟩
  · exact ⟨_, u, H.step S, H.reps R', k⟩
theorem ad_ren {ops : Array Oper} {s : St} {K : St → Prop} (h : AD P G ro ops s fun s' => ∃ t u, RenOk s.h.length t s' u ∧ K u) : AD P G ro ops s K := by
  unfold AD at *
  intro id
  refine aw_ren (aw_mono (h id) ?_)
  intro e s' k
  cases e <;> first | exact k.elim | skip
  exact k
/-- what is kept of a heap's front: blocks behind it are dropped -/
theorem ren_take {n m : Nat} {s : St} {t' : List (List Value)} (hn : n ≤ m) (hm : m ≤ s.h.length) (hsc : ∀ (i : Nat) (o : Obj), s.h[i]? = some o → i < m → ∀ v ∈ cellsOf o, s1 m v)
    (ht : ∀ (i : Nat) (v : Value), get2 t' i = some v → ∃ v0, get2 s.t i = some v0 ∧ (isMark v = true ∨ (v0 = v ∧ s3 m v))) (hd : s.d = []) :
    RenOk n (fun i => i) s ⟨t', s.h.take m, []⟩ := by
  have hl : (s.h.take m).length = m := by simp; omega
  have hid : ∀ v, r3 (fun i => i) v = v := r3_self
  refine ⟨fun _ _ => rfl, fun i j _ _ h => h, by show n ≤ (s.h.take m).length; omega, ?_, ?_, by rw [hd]; rfl, fun i hi => by simp at hi⟩
  · intro i o hi
    have hi' : (s.h.take m)[i]? = some o := hi
    rw [List.getElem?_take] at hi'
    split at hi'
    · rename_i hlt
      have hs := hsc i o hi' hlt
      refine ⟨?_, ?_⟩
      · rw [rO_id (n := m) (fun _ _ => rfl) hs]; exact hi'
      · show ∀ v ∈ cellsOf o, s1 (s.h.take m).length v
        rw [hl]; exact hs
    · cases hi'
  · intro i v hv
    obtain ⟨v0, h1, h2⟩ := ht i v hv
    refine ⟨v0, h1, ?_⟩
    rcases h2 with h2 | ⟨rfl, h2⟩
    · exact .inl h2
    · exact .inr ⟨(hid _).symm, by show s3 (s.h.take m).length _; rw [hl]; exact h2⟩
theorem cnt_of {α : Type} {l : List α} {n : Nat} {k : Nat → Prop} (h : k (l.length + n)) : cntK l n k := (cntK_iff l n k).2 (by rw [Nat.add_comm]; exact h)
theorem app_of {α : Type} {l m : List α} {k : List α → Prop} (h : k (l ++ m)) : appK l m k := (appK_iff l m k).2 h
theorem set_of {α : Type} {l : List α} {n : Nat} {v : α} {k : List α → Prop} (hn : n < l.length) (h : k (l.set n v)) : writeK l n [v] k := by
  refine writeK_of (by simp; omega) ?_
  rw [List.set_eq_take_append_cons_drop, if_pos hn] at h
  simpa using h
def tq (n : Nat) (q : List Nat) : Ren := fun i => match Nat.blt i n with
  | true => i
  | false => q.getD (i - n) 0 + n
theorem tq_lt {n : Nat} {q : List Nat} {i : Nat} (h : i < n) : tq n q i = i := by
  unfold tq
  rw [show Nat.blt i n = true from Nat.ble_eq_true_of_le h]
theorem tq_ge {n : Nat} {q : List Nat} {i : Nat} (h : n ≤ i) : tq n q i = q.getD (i - n) 0 + n := by
  unfold tq
  rw [show Nat.blt i n = false from by
    cases hb : Nat.blt i n with
    | false => rfl
    | true => have : i < n := Nat.le_of_ble_eq_true hb; omega]
/-- new blocks, told in another order (and those that nobody names are dropped) -/
theorem ren_list {n : Nat} {base news us : List Obj} {q : List Nat} {t1 t2 : List (List Value)} (hn : n ≤ base.length) (hq : q.length = us.length) (hnd : q.Nodup) (hus : ∀ (j : Nat) (o : Obj), us[j]? = some o → news[q.getD j 0]? = some o)
    (hcl : us.all (fun o => (cellsOf o).all cleanV) = true) (hb : base.all (fun o => (cellsOf o).all (scop1 base.length)) = true) (ht : t1 = t2.map (List.map (r3 (tq base.length q))))
    (hs : t2.all (fun row => row.all fun v => isMark v || scop3 (base.length + us.length) v) = true) : RenOk n (tq base.length q) ⟨t1, base ++ news, []⟩ ⟨t2, base ++ us, []⟩ := by
  have hl : (base ++ us).length = base.length + us.length := List.length_append
  refine ⟨fun i hi => tq_lt (by omega), fun i j hi hj he => ?_, by show n ≤ (base ++ us).length; omega, fun i o hi => ?_, fun i v hv => ?_, rfl, fun i hi => by simp at hi⟩
  · have hi' : i < base.length + us.length := by rw [← hl]; exact hi
    have hj' : j < base.length + us.length := by rw [← hl]; exact hj
    by_cases h1 : i < base.length
    · by_cases h2 : j < base.length
      · rw [tq_lt h1, tq_lt h2] at he; exact he
      · rw [tq_lt h1, tq_ge (by omega)] at he; omega
    · by_cases h2 : j < base.length
      · rw [tq_ge (by omega), tq_lt h2] at he; omega
      · rw [tq_ge (by omega), tq_ge (by omega)] at he
        have a1 : i - base.length < q.length := by omega
        have a2 : j - base.length < q.length := by omega
        have : i - base.length = j - base.length := by
          refine (List.getElem_inj (h₀ := a1) (h₁ := a2) hnd).1 ?_
          have he2 : q.getD (i - base.length) 0 = q.getD (j - base.length) 0 := by omega
          simpa [List.getD_eq_getElem?_getD, a1, a2] using he2
        omega
  · have hi' : (base ++ us)[i]? = some o := hi
    show (base ++ news)[tq base.length q i]? = some (rO (tq base.length q) o) ∧ ∀ v ∈ cellsOf o, s1 (base ++ us).length v
    rw [hl]
    by_cases h1 : i < base.length
    · rw [List.getElem?_append_left h1] at hi'
      have hsc : ∀ v ∈ cellsOf o, s1 base.length v := fun v hv => scop1_ok (List.all_eq_true.1 (List.all_eq_true.1 hb o (List.mem_of_getElem? hi')) v hv)
      rw [tq_lt h1, rO_id (fun i hi => tq_lt hi) hsc, List.getElem?_append_left h1]
      exact ⟨hi', fun v hv => s1_mono (by omega) (hsc v hv)⟩
    · rw [List.getElem?_append_right (by omega)] at hi'
      have hsc : ∀ v ∈ cellsOf o, s1 0 v := fun v hv => (clean_s1 (List.all_eq_true.1 (List.all_eq_true.1 hcl o (List.mem_of_getElem? hi')) v hv) 0).1
      rw [tq_ge (by omega), rO_id (n := 0) (fun i hi => by omega) hsc, List.getElem?_append_right (by omega), Nat.add_sub_cancel]
      exact ⟨hus _ o hi', fun v hv => s1_mono (by omega) (hsc v hv)⟩
  · have hv' : get2 t2 i = some v := hv
    obtain ⟨row, h1, h2⟩ := get2_iff.1 hv'
    refine ⟨r3 (tq base.length q) v, ?_, ?_⟩
    · show get2 t1 i = _
      rw [ht]
      refine get2_iff.2 ⟨row.map (r3 (tq base.length q)), by rw [List.getElem?_map, h1]; rfl, by rw [List.getElem?_map, h2]; rfl⟩
    · have h5 := List.all_eq_true.1 (List.all_eq_true.1 hs row (List.mem_of_getElem? h1)) v (List.mem_of_getElem? h2)
      rw [Bool.or_eq_true] at h5
      rcases h5 with h5 | h5
      · exact .inl h5
      · refine .inr ⟨rfl, ?_⟩
        show s3 (base ++ us).length v
        rw [hl]
        exact (scop3_ok h5).1
/-- a loop with an invariant of the slots that are not forgotten, and of the blocks that lay at the round's head: those that a round lays are dropped -/
theorem aw_invT {s : St} (hT : TabOk P T) {body : Code} {K : Exit → St → Prop} (m : List (List Bool)) (I : Nat → St → Prop) (m0 : Nat)
    (hI : ∀ n s, I n s → run P T G ro body s fun e s' => match e with
      | .normal => (s'.h.take s.h.length).all (fun o => (cellsOf o).all (scop1 s.h.length)) = true ∧ ((fgt m s'.t).all fun row => row.all fun v => isMark v || scop3 s.h.length v) = true ∧ Nat.ble s.h.length s'.h.length = true ∧ s'.d = [] ∧
        ∃ n', n' < n ∧ I n' ⟨fgt m s'.t, s'.h.take s.h.length, []⟩
      | .exit i => K (.exit i) s'
      | .goto i => K (.goto i) s'
      | .ret => K .ret s'
      | _ => False) (h0 : I m0 (fgS m s)) : AW P G ro (.loop body) s K := by
  refine aw_fgt m (aw_loop_aw I m0 (fun n s hn => ?_) h0)
  refine aw_ren2 (aw_mono (run_ok (ro := ro) hT body s _ (hI n s hn)) ?_)
  intro e s' h
  cases e
  case normal =>
    obtain ⟨h1, h2, h3, h4, n', hn', hi⟩ := h
    have hle : s.h.length ≤ s'.h.length := Nat.le_of_ble_eq_true h3
    refine .inr ⟨_, _, ren_take (t' := fgt m s'.t) (Nat.le_refl _) hle ?_ ?_ h4, n', hn', hi⟩
    · intro i o hi' hlt v hv
      have hm : o ∈ s'.h.take s.h.length := by
        refine List.mem_of_getElem? (i := i) ?_
        rw [List.getElem?_take, if_pos hlt]; exact hi'
      exact scop1_ok (List.all_eq_true.1 (List.all_eq_true.1 h1 o hm) v hv)
    · intro i v hv
      obtain ⟨v0, g1, g2⟩ := get2_fgt hv
      refine ⟨v0, g1, ?_⟩
      obtain ⟨row, hr, hrv⟩ := get2_iff.1 hv
      have h5 := List.all_eq_true.1 (List.all_eq_true.1 h2 row (List.mem_of_getElem? hr)) v (List.mem_of_getElem? hrv)
      rw [Bool.or_eq_true] at h5
      rcases g2 with rfl | rfl
      · rcases h5 with h5 | h5
        · exact .inl h5
        · exact .inr ⟨rfl, (scop3_ok h5).1⟩
      · exact .inl rfl
  all_goals first | exact h.elim | exact .inl h
end
end Go.Proofs.YtjpjnjidchdlbaaDoor
