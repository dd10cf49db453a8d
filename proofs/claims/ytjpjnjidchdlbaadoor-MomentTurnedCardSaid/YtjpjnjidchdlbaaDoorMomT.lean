/-
  MomentTurned: the walk (no condition).
-/
import Derived.Test.YtjpjnjidchdlbaaDoorMomJ
import Derived.Test.YtjpjnjidchdlbaaDoorMomS
import Derived.Test.YtjpjnjidchdlbaaDoorMomU
import Derived.Test.YtjpjnjidchdlbaaDoorMomK
import Derived.Test.YtjpjnjidchdlbaaDoorMomO
import Derived.Test.YtjpjnjidchdlbaaDoorMomV
namespace Go.Proofs.YtjpjnjidchdlbaaDoor
set_option linter.unusedSimpArgs false
set_option linter.unusedVariables false
open Go
set_option maxRecDepth 100000
set_option maxHeartbeats 4000000
theorem has9 : Has Tryd.prog 9 Tryd.f9 := ⟨Tryd.func9, by kernel_rfl, by kernel_rfl⟩
/-- new blocks, that may hold names, told in another order -/
theorem ren_list2 {n : Nat} {base news us : List Obj} {q : List Nat} {t1 t2 : List (List Value)} (hn : n ≤ base.length) (hq : q.length = us.length) (hnd : q.Nodup) (hus : ∀ (j : Nat) (o : Obj), us[j]? = some o → news[q.getD j 0]? = some (rO (tq base.length q) o))
    (hcl : ∀ o ∈ us, ∀ v ∈ cellsOf o, s1 (base.length + us.length) v) (hb : ∀ o ∈ base, ∀ v ∈ cellsOf o, s1 base.length v) (ht : t1 = t2.map (List.map (r3 (tq base.length q))))
    (hs : t2.all (fun row => row.all fun v => isMark v || scop3 (base.length + us.length) v) = true) : RenOk n (tq base.length q) ⟨t1, base ++ news, []⟩ ⟨t2, base ++ us, []⟩ := by
  have hl : (base ++ us).length = base.length + us.length := List.length_append
  refine ⟨fun i hi => tq_lt (by omega), fun i j hi hj he => ?_, by show n ≤ (base ++ us).length; omega, fun i o hi => ?_, fun i v hv => ?_, rfl, fun i hi => by simp at hi⟩
  · have hi' : i < base.length + us.length := by rw [← hl]; exact hi
    have hj' : j < base.length + us.length := by rw [← hl]; exact hj
    by_cases h1 : i < base.length
    · by_cases h2 : j < base.length
      · rw [tq_lt h1, tq_lt h2] at he; exact he
      · rw [tq_lt h1, tq_ge (by omega)] at he; omega
    · by_cases h2 : j < base.length
      · rw [tq_ge (by omega), tq_lt h2] at he; omega
      · rw [tq_ge (by omega), tq_ge (by omega)] at he
        have a1 : i - base.length < q.length := by omega
        have a2 : j - base.length < q.length := by omega
        have : i - base.length = j - base.length := by
          refine (List.getElem_inj (h₀ := a1) (h₁ := a2) hnd).1 ?_
          have he2 : q.getD (i - base.length) 0 = q.getD (j - base.length) 0 := by omega
          simpa [List.getD_eq_getElem?_getD, a1, a2] using he2
        omega
  · have hi' : (base ++ us)[i]? = some o := hi
    show (base ++ news)[tq base.length q i]? = some (rO (tq base.length q) o) ∧ ∀ v ∈ cellsOf o, s1 (base ++ us).length v
    rw [hl]
    by_cases h1 : i < base.length
    · rw [List.getElem?_append_left h1] at hi'
      have hsc := hb o (List.mem_of_getElem? hi')
      rw [tq_lt h1, rO_id (fun i hi => tq_lt hi) hsc, List.getElem?_append_left h1]
      exact ⟨hi', fun v hv => s1_mono (by omega) (hsc v hv)⟩
    · rw [List.getElem?_append_right (by omega)] at hi'
      rw [tq_ge (by omega), List.getElem?_append_right (by omega), Nat.add_sub_cancel]
      exact ⟨hus _ o hi', hcl o (List.mem_of_getElem? hi')⟩
  · have hv' : get2 t2 i = some v := hv
    obtain ⟨row, h1, h2⟩ := get2_iff.1 hv'
    refine ⟨r3 (tq base.length q) v, ?_, ?_⟩
    · show get2 t1 i = _
      rw [ht]
      refine get2_iff.2 ⟨row.map (r3 (tq base.length q)), by rw [List.getElem?_map, h1]; rfl, by rw [List.getElem?_map, h2]; rfl⟩
    · have h5 := List.all_eq_true.1 (List.all_eq_true.1 hs row (List.mem_of_getElem? h1)) v (List.mem_of_getElem? h2)
      rw [Bool.or_eq_true] at h5
      rcases h5 with h5 | h5
      · exact .inl h5
      · refine .inr ⟨rfl, ?_⟩
        show s3 (base ++ us).length v
        rw [hl]
        exact (scop3_ok h5).1
theorem fits_len {l : List Int} {g b tp nr me step : Int} {bl : List Bd} (h : fitsF l g b tp nr me step bl = true) : l.length = bl.length ∧ bl.length ≤ 4 := by
  unfold fitsF okState at h
  simp only [Bool.and_eq_true, decide_eq_true_eq] at h
  exact ⟨h.1, h.2.2.2.2.2.1⟩
theorem winI_set {c c' : Array Value} {l : List Int} {i : Nat} {y : Int} (hi : i < l.length) (hw : WinI c 0 l) (h : ∀ j : Nat, c'[j]? = if j = i then some (I64 y) else c[j]?) : WinI c' 0 (l.set i y) := by
  intro j x hj
  rw [Nat.zero_add, h j]
  rw [List.getElem?_set] at hj
  by_cases h1 : i = j
  · subst h1
    rw [if_pos rfl, if_pos hi] at hj
    cases hj
    rw [if_pos rfl]
  · rw [if_neg h1] at hj
    rw [if_neg (fun e => h1 e.symm)]
    have := hw j x hj
    rwa [Nat.zero_add] at this
theorem mix_next {α : Type} {r l : List α} {i : Nat} {x : α} (hl : l.length = r.length) (hx : r[i]? = some x) : (r.take i ++ l.drop i).set i x = r.take (i + 1) ++ l.drop (i + 1) := by
  have hi : i < r.length := (List.getElem?_eq_some_iff.1 hx).1
  have hxe : r[i] = x := (List.getElem?_eq_some_iff.1 hx).2
  have h2 : (r.take i).length = i := by simp; omega
  rw [List.set_append_right i _ (by omega), h2, Nat.sub_self, List.drop_eq_getElem_cons (by omega), List.set_cons_zero, List.take_succ_eq_append_getElem hi, hxe]
  simp
theorem mix_at {α : Type} {r l : List α} {i : Nat} (hl : l.length = r.length) (hi : i < r.length) : ∃ y, (r.take i ++ l.drop i)[i]? = some y := by
  have h2 : (r.take i).length = i := by simp; omega
  exact ⟨l[i], by rw [List.getElem?_append_right (by omega), h2, Nat.sub_self, List.getElem?_drop, Nat.add_zero]; exact List.getElem?_eq_getElem (by omega)⟩
theorem rO_cl {c : Array Value} {t : TypeId} {r : Ren} (hc : ∀ x ∈ c.toList, cleanV x = true) : rO r (.cells c t) = .cells c t :=
  rO_id (n := 0) (fun i hi => absurd hi (Nat.not_lt_zero i)) fun v hv => clean_sc (hc v hv) 0
theorem orN {b c : Bool} (hc : c = false) (h : (b || c) = false) : b = false := by rw [hc, Bool.or_false] at h; exact h
theorem lt45 {b : Bool} {news : List Obj} {q : Nat} {o : Obj} {P : Array Value → Prop} {t : TypeId} (h : (b = false → news[q]? = some o) ∧ (b = true → ∃ A, P A ∧ news[q]? = some (.cells A t))) : q < news.length := by
  cases b with
  | false => exact (List.getElem?_eq_some_iff.1 (h.1 rfl)).1
  | true =>
    obtain ⟨A, _, e⟩ := h.2 rfl
    exact (List.getElem?_eq_some_iff.1 e).1
inductive J9 (c0 : Array Value) (t0 : TypeId) (off cap : Nat) (l : List Int) (c1 : Array Value) (t1 : TypeId) (off1 cap1 : Nat) (bl : List Bd) (g b tp nr me step : Int) (ct : Array Value) (cpt : Nat) (S : Nat → Bool) : St → Prop where
  | mk (x33 x34 x35 x36 x6 x7 : Value) (q1 q3 q4 q5 : Nat) (news : List Obj)
    (ff0 : S 0 = true → x33 = (.agg (confC (slc 0 off l.length cap) g b tp nr me)))
    (ff1 : S 2 = true → x35 = (.agg #[I64 step, (slc 1 off1 bl.length cap1)]))
    (ff2 : S 1 = true → ∃ cp rest, x34 = .agg (confC (slc (q1 + 6) 0 l.length cp) g b tp nr me) ∧ RowI l cp rest ∧ news[q1]? = some (.cells ⟨l.map I64 ++ rest⟩ 3))
    (ff3 : S 3 = true → ∃ c cp, x36 = .agg #[I64 step, slc (q3 + 6) 0 bl.length cp] ∧ ((∀ x ∈ c.toList, cleanV x = true) ∧ WinB c 0 bl ∧ bl.length ≤ cp) ∧ news[q3]? = some (.cells c 61))
    (ff4 : S 4 = true → x6 = ptr (q4 + 6) 0 ∧ (S 6 = false → news[q4]? = some (.cells #[.slice none 0 0, I64 0, I64 0, I64 0, I64 0, I64 0] 39)) ∧ (S 6 = true → ∃ A, x34 = .agg A ∧ news[q4]? = some (.cells A 39)))
    (ff5 : S 5 = true → x7 = ptr (q5 + 6) 0 ∧ (S 7 = false → news[q5]? = some (.cells #[I64 0, .slice none 0 0] 42)) ∧ (S 7 = true → ∃ A, x36 = .agg A ∧ news[q5]? = some (.cells A 42)))
    (ff6 : S 6 = true → S 1 = true ∧ S 4 = true)
    (ff7 : S 7 = true → S 3 = true ∧ S 5 = true)
    (ff8 : S 1 = true → S 3 = true → q1 ≠ q3)
    (ff9 : S 1 = true → S 4 = true → q1 ≠ q4)
    (ff10 : S 1 = true → S 5 = true → q1 ≠ q5)
    (ff11 : S 3 = true → S 4 = true → q3 ≠ q4)
    (ff12 : S 3 = true → S 5 = true → q3 ≠ q5)
    (ff13 : S 4 = true → S 5 = true → q4 ≠ q5)
    (ff14 : news.length = (S 1).toNat + (S 3).toNat + (S 4).toNat + (S 5).toNat) : J9 c0 t0 off cap l c1 t1 off1 cap1 bl g b tp nr me step ct cpt S ⟨[[(.agg (confC (slc 0 off l.length cap) g b tp nr me)), (.agg #[I64 step, (slc 1 off1 bl.length cap1)]), ptr 2 0, ptr 3 0, .bool false, ptr 5 0, x6, x7, undef, undef, undef, undef, undef, undef, undef, undef],
      [undef, undef, undef, undef, undef, undef, undef, undef, undef, undef, (.agg (confC (slc 0 off l.length cap) g b tp nr me)), (.agg #[I64 step, (slc 1 off1 bl.length cap1)]), .bool true, .bool (!true), undef, (.agg #[I64 step, (slc 1 off1 bl.length cap1)])],
      [(.agg #[I64 (wrapS .i64 (0 - step)), slc 4 0 (bl.map negB).length cpt]), x33, x34, x35, x36, undef, undef, undef, undef, undef, undef, undef, undef, undef, undef, undef],
      [undef, undef, undef, undef, undef, undef, undef, undef, undef, undef, undef, undef, undef, undef, undef, undef],
      [undef, undef, undef, undef, undef, undef, undef, undef, undef, undef, undef, undef, undef, undef, undef, undef],
      [undef, undef, undef, undef, undef, undef, undef, undef, undef, undef, undef, undef, undef, undef, undef, undef],
      [undef, undef, undef, undef, undef, undef, undef, undef, undef, undef, undef, undef, undef, undef, undef, undef],
      [undef, undef, undef, undef, undef, undef, undef, undef, undef, undef, undef, undef, undef, undef, undef, undef],
      [undef, undef, undef, undef, undef, undef, undef, undef, undef, undef, undef, undef, undef, undef, undef, undef],
      [undef, undef, undef, undef, undef, undef, undef, undef, undef, undef, undef, undef, undef, undef, undef, undef],
      [undef, undef, undef, undef, undef, undef, undef, undef, undef, undef, undef, undef, undef, undef, undef, undef],
      [undef]],
      ((.pending c0 t0) :: (.pending c1 t1) :: (.cells (confC (slc 0 off l.length cap) g b tp nr me) 39) :: (.cells #[I64 step, (slc 1 off1 bl.length cap1)] 42) :: (.cells ct 61) :: (.cells #[I64 (wrapS .i64 (0 - step)), slc 4 0 (bl.map negB).length cpt] 42) :: news), []⟩
theorem Turned9_rr (tt : TypeId) (c0 : Array Value) (t0 : TypeId) (off cap : Nat) (l : List Int) (hw : WinI c0 off l) (hcap : l.length ≤ cap) (c1 : Array Value) (t1 : TypeId) (off1 cap1 : Nat) (bl : List Bd) (hw1 : WinB c1 off1 bl) (hcap1 : bl.length ≤ cap1) (g b tp nr me step : Int) :
    AC Tryd.prog (GM tt) 9 [(.agg (confC (slc 0 off l.length cap) g b tp nr me)), (.agg #[I64 step, (slc 1 off1 bl.length cap1)])] [.pending c0 t0, .pending c1 t1] (fun v h => v = .bool true ∧ h = [.pending c0 t0, .pending c1 t1]) := by
  refine ac_of_body tabOk has9 ?_
  unfold BodyOk
  conv => whnf
  refine ac_mono (RFitsU_s tt (h := [.pending c0 t0, .pending c1 t1, .cells (confC (slc 0 off l.length cap) g b tp nr me) 39, .cells #[I64 step, (slc 1 off1 bl.length cap1)] 42]) (.inr ⟨0, off, cap, c0, t0, rfl, .inl rfl, hw, hcap⟩) (.inr ⟨1, off1, cap1, c1, t1, rfl, .inl rfl, hw1, hcap1⟩) g b tp nr me step) ?_
  rintro v h' ⟨rfl, rfl⟩
  conv => whnf
  refine ways (fun h1 => ?_) (fun h1 => ?_) <;> conv => whnf
  · refine ac_pure (Mwakes_c tt) rfl ?_
    rintro v h' ⟨rfl, rfl⟩
    refine ⟨rfl, rfl, ?_⟩
    conv => whnf
    refine ⟨rfl, fin_turnedK rfl ?_⟩
    conv => whnf
    exact ⟨rfl, rfl⟩
  have hfit := notT h1
  obtain ⟨hlen, hl4⟩ := fits_len hfit
  have hl : l.length ≤ 1000000000000 := by omega
  have hl1 : bl.length ≤ 1000000000000 := by omega
  rw [hfit]
  refine ac_mono (TurnS_s (GM tt) step (h := [.pending c0 t0, .pending c1 t1, .cells (confC (slc 0 off l.length cap) g b tp nr me) 39, .cells #[I64 step, (slc 1 off1 bl.length cap1)] 42]) (m := 4) (l := bl) rfl (.inr ⟨1, off1, cap1, c1, t1, rfl, .inl rfl, hw1, hcap1⟩) hl1) ?_
  rintro v h' ⟨ct, cpt, rfl, rfl, k1, k2, k3⟩
  conv => whnf
  refine ad_ren (ad_inv tabOk (by kernel_rfl) (by kernel_rfl) (fun S s => J9 c0 t0 off cap l c1 t1 off1 cap1 bl g b tp nr me step ct cpt S s) ?_ ?_ ?_)
  · exact J9.mk undef undef undef undef undef undef 0 0 0 0 [] (fun h => absurd h Bool.false_ne_true) (fun h => absurd h Bool.false_ne_true) (fun h => absurd h Bool.false_ne_true) (fun h => absurd h Bool.false_ne_true) (fun h => absurd h Bool.false_ne_true) (fun h => absurd h Bool.false_ne_true) (fun h => absurd h Bool.false_ne_true) (fun h => absurd h Bool.false_ne_true) (fun h => absurd h Bool.false_ne_true) (fun h => absurd h Bool.false_ne_true) (fun h => absurd h Bool.false_ne_true) (fun h => absurd h Bool.false_ne_true) (fun h => absurd h Bool.false_ne_true) (fun h => absurd h Bool.false_ne_true) rfl
  · conv => whnf
    refine ⟨?_, ?_⟩
    · rintro S s ⟨x33, x34, x35, x36, x6, x7, q1, q3, q4, q5, news, f0, f2, f1, f3, f4, f5, g61, g73, n13, n14, n15, n34, n35, n45, cn⟩ hS hp
      conv => whnf
      exact J9.mk (S := fun j => S j || Nat.beq j 0) ((.agg (confC (slc 0 off l.length cap) g b tp nr me))) x34 x35 x36 x6 x7 q1 q3 q4 q5 news (fun _ => rfl)
        (fun h => f2 (orF rfl h))
        (fun h => f1 (orF rfl h))
        (fun h => f3 (orF rfl h))
        (fun h => let z := f4 (orF rfl h); ⟨z.1, fun h2 => z.2.1 (orN rfl h2), fun h2 => z.2.2 (orF rfl h2)⟩)
        (fun h => let z := f5 (orF rfl h); ⟨z.1, fun h2 => z.2.1 (orN rfl h2), fun h2 => z.2.2 (orF rfl h2)⟩)
        (fun h => let z := g61 (orF rfl h); ⟨orL z.1, orL z.2⟩)
        (fun h => let z := g73 (orF rfl h); ⟨orL z.1, orL z.2⟩)
        (fun h h2 => n13 (orF rfl h) (orF rfl h2))
        (fun h h2 => n14 (orF rfl h) (orF rfl h2))
        (fun h h2 => n15 (orF rfl h) (orF rfl h2))
        (fun h h2 => n34 (orF rfl h) (orF rfl h2))
        (fun h h2 => n35 (orF rfl h) (orF rfl h2))
        (fun h h2 => n45 (orF rfl h) (orF rfl h2))
        (by rw [cn]; simp only [Nat.beq, Bool.or_false])
    conv => whnf
    refine ⟨?_, ?_⟩
    · rintro S s ⟨x33, x34, x35, x36, x6, x7, q1, q3, q4, q5, news, f0, f2, f1, f3, f4, f5, g61, g73, n13, n14, n15, n34, n35, n45, cn⟩ hS hp
      have z0 := f0 (hp 0 (by decide))
      subst z0
      conv => whnf
      refine ac_mono (Own_s (GM tt) (h := ((.pending c0 t0) :: (.pending c1 t1) :: (.cells (confC (slc 0 off l.length cap) g b tp nr me) 39) :: (.cells #[I64 step, (slc 1 off1 bl.length cap1)] 42) :: (.cells ct 61) :: (.cells #[I64 (wrapS .i64 (0 - step)), slc 4 0 (bl.map negB).length cpt] 42) :: news)) (m := news.length + 6) rfl (.inr ⟨0, off, cap, c0, t0, rfl, .inl rfl, hw, hcap⟩) hl g b tp nr me) ?_
      rintro v h' ⟨cp, rest, rfl, rfl, hr⟩
      conv => whnf
      exact J9.mk (S := fun j => S j || Nat.beq j 1) (.agg (confC (slc 0 off l.length cap) g b tp nr me)) (.agg (confC (slc (news.length + 6) 0 l.length cp) g b tp nr me)) x35 x36 x6 x7 news.length q3 q4 q5 (news ++ [.cells ⟨l.map I64 ++ rest⟩ 3]) (fun h => f0 (orF rfl h))
        (fun h => f2 (orF rfl h))
        (fun _ => ⟨cp, rest, rfl, hr, by simp⟩)
        (fun h => let ⟨c, cp, e1, e2, e3⟩ := f3 (orF rfl h); ⟨c, cp, e1, e2, getL e3⟩)
        (fun h => let z := f4 (orF rfl h); ⟨z.1, fun h2 => getL (z.2.1 (orN rfl h2)), fun h2 => (noT (g61 (orF rfl h2)).1 hS).elim⟩)
        (fun h => let z := f5 (orF rfl h); ⟨z.1, fun h2 => getL (z.2.1 (orN rfl h2)), fun h2 => let ⟨A, a1, a2⟩ := z.2.2 (orF rfl h2); ⟨A, a1, getL a2⟩⟩)
        (fun h => let z := g61 (orF rfl h); ⟨orL z.1, orL z.2⟩)
        (fun h => let z := g73 (orF rfl h); ⟨orL z.1, orL z.2⟩)
        (fun _ h2 he => absurd (let ⟨_, _, _, _, e⟩ := f3 (orF rfl h2); (List.getElem?_eq_some_iff.1 e).1) (by rw [← he]; exact Nat.lt_irrefl _))
        (fun _ h2 he => absurd (lt45 (f4 (orF rfl h2)).2) (by rw [← he]; exact Nat.lt_irrefl _))
        (fun _ h2 he => absurd (lt45 (f5 (orF rfl h2)).2) (by rw [← he]; exact Nat.lt_irrefl _))
        (fun h h2 => n34 (orF rfl h) (orF rfl h2))
        (fun h h2 => n35 (orF rfl h) (orF rfl h2))
        (fun h h2 => n45 (orF rfl h) (orF rfl h2))
        (by rw [List.length_append, cn]; have e : S 1 = false := hS; simp only [Nat.beq, Bool.or_false, Bool.or_true, e, Bool.toNat_true, Bool.toNat_false, List.length_singleton] <;> omega)
    conv => whnf
    refine ⟨?_, ?_⟩
    · rintro S s ⟨x33, x34, x35, x36, x6, x7, q1, q3, q4, q5, news, f0, f2, f1, f3, f4, f5, g61, g73, n13, n14, n15, n34, n35, n45, cn⟩ hS hp
      conv => whnf
      exact J9.mk (S := fun j => S j || Nat.beq j 2) x33 x34 ((.agg #[I64 step, (slc 1 off1 bl.length cap1)])) x36 x6 x7 q1 q3 q4 q5 news (fun h => f0 (orF rfl h))
        (fun _ => rfl)
        (fun h => f1 (orF rfl h))
        (fun h => f3 (orF rfl h))
        (fun h => let z := f4 (orF rfl h); ⟨z.1, fun h2 => z.2.1 (orN rfl h2), fun h2 => z.2.2 (orF rfl h2)⟩)
        (fun h => let z := f5 (orF rfl h); ⟨z.1, fun h2 => z.2.1 (orN rfl h2), fun h2 => z.2.2 (orF rfl h2)⟩)
        (fun h => let z := g61 (orF rfl h); ⟨orL z.1, orL z.2⟩)
        (fun h => let z := g73 (orF rfl h); ⟨orL z.1, orL z.2⟩)
        (fun h h2 => n13 (orF rfl h) (orF rfl h2))
        (fun h h2 => n14 (orF rfl h) (orF rfl h2))
        (fun h h2 => n15 (orF rfl h) (orF rfl h2))
        (fun h h2 => n34 (orF rfl h) (orF rfl h2))
        (fun h h2 => n35 (orF rfl h) (orF rfl h2))
        (fun h h2 => n45 (orF rfl h) (orF rfl h2))
        (by rw [cn]; simp only [Nat.beq, Bool.or_false])
    conv => whnf
    refine ⟨?_, ?_⟩
    · rintro S s ⟨x33, x34, x35, x36, x6, x7, q1, q3, q4, q5, news, f0, f2, f1, f3, f4, f5, g61, g73, n13, n14, n15, n34, n35, n45, cn⟩ hS hp
      have z2 := f2 (hp 2 (by decide))
      subst z2
      conv => whnf
      refine ac_mono (OwnS_s (GM tt) step (h := ((.pending c0 t0) :: (.pending c1 t1) :: (.cells (confC (slc 0 off l.length cap) g b tp nr me) 39) :: (.cells #[I64 step, (slc 1 off1 bl.length cap1)] 42) :: (.cells ct 61) :: (.cells #[I64 (wrapS .i64 (0 - step)), slc 4 0 (bl.map negB).length cpt] 42) :: news)) (m := news.length + 6) (l := bl) rfl (.inr ⟨1, off1, cap1, c1, t1, rfl, .inl rfl, hw1, hcap1⟩) hl1) ?_
      rintro v h' ⟨c, cp, rfl, rfl, k1, k2, k3⟩
      conv => whnf
      exact J9.mk (S := fun j => S j || Nat.beq j 3) x33 x34 (.agg #[I64 step, (slc 1 off1 bl.length cap1)]) (.agg #[I64 step, slc (news.length + 6) 0 bl.length cp]) x6 x7 q1 news.length q4 q5 (news ++ [.cells c 61]) (fun h => f0 (orF rfl h))
        (fun h => f2 (orF rfl h))
        (fun h => let ⟨cp, rest, e1, e2, e3⟩ := f1 (orF rfl h); ⟨cp, rest, e1, e2, getL e3⟩)
        (fun _ => ⟨c, cp, rfl, ⟨k1, k2, k3⟩, by simp⟩)
        (fun h => let z := f4 (orF rfl h); ⟨z.1, fun h2 => getL (z.2.1 (orN rfl h2)), fun h2 => let ⟨A, a1, a2⟩ := z.2.2 (orF rfl h2); ⟨A, a1, getL a2⟩⟩)
        (fun h => let z := f5 (orF rfl h); ⟨z.1, fun h2 => getL (z.2.1 (orN rfl h2)), fun h2 => (noT (g73 (orF rfl h2)).1 hS).elim⟩)
        (fun h => let z := g61 (orF rfl h); ⟨orL z.1, orL z.2⟩)
        (fun h => let z := g73 (orF rfl h); ⟨orL z.1, orL z.2⟩)
        (fun h _ he => absurd (let ⟨_, _, _, _, e⟩ := f1 (orF rfl h); (List.getElem?_eq_some_iff.1 e).1) (by rw [he]; exact Nat.lt_irrefl _))
        (fun h h2 => n14 (orF rfl h) (orF rfl h2))
        (fun h h2 => n15 (orF rfl h) (orF rfl h2))
        (fun _ h2 he => absurd (lt45 (f4 (orF rfl h2)).2) (by rw [← he]; exact Nat.lt_irrefl _))
        (fun _ h2 he => absurd (lt45 (f5 (orF rfl h2)).2) (by rw [← he]; exact Nat.lt_irrefl _))
        (fun h h2 => n45 (orF rfl h) (orF rfl h2))
        (by rw [List.length_append, cn]; have e : S 3 = false := hS; simp only [Nat.beq, Bool.or_false, Bool.or_true, e, Bool.toNat_true, Bool.toNat_false, List.length_singleton] <;> omega)
    conv => whnf
    refine ⟨?_, ?_⟩
    · rintro S s ⟨x33, x34, x35, x36, x6, x7, q1, q3, q4, q5, news, f0, f2, f1, f3, f4, f5, g61, g73, n13, n14, n15, n34, n35, n45, cn⟩ hS hp
      conv => whnf
      refine cnt_of ?_
      conv => whnf
      refine app_of ?_
      conv => whnf
      exact J9.mk (S := fun j => S j || Nat.beq j 4) x33 x34 x35 x36 (ptr (news.length + 6) 0) x7 q1 q3 news.length q5 (news ++ [.cells #[.slice none 0 0, I64 0, I64 0, I64 0, I64 0, I64 0] 39]) (fun h => f0 (orF rfl h))
        (fun h => f2 (orF rfl h))
        (fun h => let ⟨cp, rest, e1, e2, e3⟩ := f1 (orF rfl h); ⟨cp, rest, e1, e2, getL e3⟩)
        (fun h => let ⟨c, cp, e1, e2, e3⟩ := f3 (orF rfl h); ⟨c, cp, e1, e2, getL e3⟩)
        (fun _ => ⟨rfl, fun _ => by simp, fun h2 => (noT (g61 (orF rfl h2)).2 hS).elim⟩)
        (fun h => let z := f5 (orF rfl h); ⟨z.1, fun h2 => getL (z.2.1 (orN rfl h2)), fun h2 => let ⟨A, a1, a2⟩ := z.2.2 (orF rfl h2); ⟨A, a1, getL a2⟩⟩)
        (fun h => let z := g61 (orF rfl h); ⟨orL z.1, orL z.2⟩)
        (fun h => let z := g73 (orF rfl h); ⟨orL z.1, orL z.2⟩)
        (fun h h2 => n13 (orF rfl h) (orF rfl h2))
        (fun h _ he => absurd (let ⟨_, _, _, _, e⟩ := f1 (orF rfl h); (List.getElem?_eq_some_iff.1 e).1) (by rw [he]; exact Nat.lt_irrefl _))
        (fun h h2 => n15 (orF rfl h) (orF rfl h2))
        (fun h _ he => absurd (let ⟨_, _, _, _, e⟩ := f3 (orF rfl h); (List.getElem?_eq_some_iff.1 e).1) (by rw [he]; exact Nat.lt_irrefl _))
        (fun h h2 => n35 (orF rfl h) (orF rfl h2))
        (fun _ h2 he => absurd (lt45 (f5 (orF rfl h2)).2) (by rw [← he]; exact Nat.lt_irrefl _))
        (by rw [List.length_append, cn]; have e : S 4 = false := hS; simp only [Nat.beq, Bool.or_false, Bool.or_true, e, Bool.toNat_true, Bool.toNat_false, List.length_singleton] <;> omega)
    conv => whnf
    refine ⟨?_, ?_⟩
    · rintro S s ⟨x33, x34, x35, x36, x6, x7, q1, q3, q4, q5, news, f0, f2, f1, f3, f4, f5, g61, g73, n13, n14, n15, n34, n35, n45, cn⟩ hS hp
      conv => whnf
      refine cnt_of ?_
      conv => whnf
      refine app_of ?_
      conv => whnf
      exact J9.mk (S := fun j => S j || Nat.beq j 5) x33 x34 x35 x36 x6 (ptr (news.length + 6) 0) q1 q3 q4 news.length (news ++ [.cells #[I64 0, .slice none 0 0] 42]) (fun h => f0 (orF rfl h))
        (fun h => f2 (orF rfl h))
        (fun h => let ⟨cp, rest, e1, e2, e3⟩ := f1 (orF rfl h); ⟨cp, rest, e1, e2, getL e3⟩)
        (fun h => let ⟨c, cp, e1, e2, e3⟩ := f3 (orF rfl h); ⟨c, cp, e1, e2, getL e3⟩)
        (fun h => let z := f4 (orF rfl h); ⟨z.1, fun h2 => getL (z.2.1 (orN rfl h2)), fun h2 => let ⟨A, a1, a2⟩ := z.2.2 (orF rfl h2); ⟨A, a1, getL a2⟩⟩)
        (fun _ => ⟨rfl, fun _ => by simp, fun h2 => (noT (g73 (orF rfl h2)).2 hS).elim⟩)
        (fun h => let z := g61 (orF rfl h); ⟨orL z.1, orL z.2⟩)
        (fun h => let z := g73 (orF rfl h); ⟨orL z.1, orL z.2⟩)
        (fun h h2 => n13 (orF rfl h) (orF rfl h2))
        (fun h h2 => n14 (orF rfl h) (orF rfl h2))
        (fun h _ he => absurd (let ⟨_, _, _, _, e⟩ := f1 (orF rfl h); (List.getElem?_eq_some_iff.1 e).1) (by rw [he]; exact Nat.lt_irrefl _))
        (fun h h2 => n34 (orF rfl h) (orF rfl h2))
        (fun h _ he => absurd (let ⟨_, _, _, _, e⟩ := f3 (orF rfl h); (List.getElem?_eq_some_iff.1 e).1) (by rw [he]; exact Nat.lt_irrefl _))
        (fun h _ he => absurd (lt45 (f4 (orF rfl h)).2) (by rw [he]; exact Nat.lt_irrefl _))
        (by rw [List.length_append, cn]; have e : S 5 = false := hS; simp only [Nat.beq, Bool.or_false, Bool.or_true, e, Bool.toNat_true, Bool.toNat_false, List.length_singleton] <;> omega)
    conv => whnf
    refine ⟨?_, ?_⟩
    · rintro S s ⟨x33, x34, x35, x36, x6, x7, q1, q3, q4, q5, news, f0, f2, f1, f3, f4, f5, g61, g73, n13, n14, n15, n34, n35, n45, cn⟩ hS hp
      obtain ⟨cp, rest, z34, e2, e3⟩ := f1 (hp 1 (by decide))
      subst z34
      obtain ⟨zx, hm0, _⟩ := f4 (hp 4 (by decide))
      subst zx
      have hm := hm0 hS
      have hlt : q4 < news.length := (List.getElem?_eq_some_iff.1 hm).1
      conv => whnf
      refine nthK_of hm ?_
      conv => whnf
      refine set_of hlt ?_
      conv => whnf
      exact J9.mk (S := fun j => S j || Nat.beq j 6) x33 (.agg (confC (slc (q1 + 6) 0 l.length cp) g b tp nr me)) x35 x36 (ptr (q4 + 6) 0) x7 q1 q3 q4 q5 (news.set q4 (.cells (confC (slc (q1 + 6) 0 l.length cp) g b tp nr me) 39)) (fun h => f0 (orF rfl h))
        (fun h => f2 (orF rfl h))
        (fun _ => ⟨cp, rest, rfl, e2, by rw [List.getElem?_set_ne (fun e => n14 (hp 1 (by decide)) (hp 4 (by decide)) e.symm)]; exact e3⟩)
        (fun h => let ⟨c, cp, e1, e2, e3⟩ := f3 (orF rfl h); ⟨c, cp, e1, e2, by rw [List.getElem?_set_ne (fun e => n34 (orF rfl h) (hp 4 (by decide)) e.symm)]; exact e3⟩)
        (fun _ => ⟨rfl, fun h2 => (noT (Bool.or_true _) h2).elim, fun _ => ⟨_, rfl, List.getElem?_set_self hlt⟩⟩)
        (fun h => let z := f5 (orF rfl h); ⟨z.1, fun h2 => by rw [List.getElem?_set_ne (n45 (hp 4 (by decide)) (orF rfl h))]; exact z.2.1 (orN rfl h2), fun h2 => let ⟨A, a1, a2⟩ := z.2.2 (orF rfl h2); ⟨A, a1, by rw [List.getElem?_set_ne (n45 (hp 4 (by decide)) (orF rfl h))]; exact a2⟩⟩)
        (fun _ => ⟨orL (hp 1 (by decide)), orL (hp 4 (by decide))⟩)
        (fun h => let z := g73 (orF rfl h); ⟨orL z.1, orL z.2⟩)
        (fun h h2 => n13 (orF rfl h) (orF rfl h2))
        (fun h h2 => n14 (orF rfl h) (orF rfl h2))
        (fun h h2 => n15 (orF rfl h) (orF rfl h2))
        (fun h h2 => n34 (orF rfl h) (orF rfl h2))
        (fun h h2 => n35 (orF rfl h) (orF rfl h2))
        (fun h h2 => n45 (orF rfl h) (orF rfl h2))
        (by rw [List.length_set, cn]; simp only [Nat.beq, Bool.or_false])
    conv => whnf
    refine ⟨?_, ?_⟩
    · rintro S s ⟨x33, x34, x35, x36, x6, x7, q1, q3, q4, q5, news, f0, f2, f1, f3, f4, f5, g61, g73, n13, n14, n15, n34, n35, n45, cn⟩ hS hp
      obtain ⟨c, cp, z36, e2, e3⟩ := f3 (hp 3 (by decide))
      subst z36
      obtain ⟨zx, hm0, _⟩ := f5 (hp 5 (by decide))
      subst zx
      have hm := hm0 hS
      have hlt : q5 < news.length := (List.getElem?_eq_some_iff.1 hm).1
      conv => whnf
      refine nthK_of hm ?_
      conv => whnf
      refine set_of hlt ?_
      conv => whnf
      exact J9.mk (S := fun j => S j || Nat.beq j 7) x33 x34 x35 (.agg #[I64 step, slc (q3 + 6) 0 bl.length cp]) x6 (ptr (q5 + 6) 0) q1 q3 q4 q5 (news.set q5 (.cells #[I64 step, slc (q3 + 6) 0 bl.length cp] 42)) (fun h => f0 (orF rfl h))
        (fun h => f2 (orF rfl h))
        (fun h => let ⟨cp, rest, e1, e2, e3⟩ := f1 (orF rfl h); ⟨cp, rest, e1, e2, by rw [List.getElem?_set_ne (fun e => n15 (orF rfl h) (hp 5 (by decide)) e.symm)]; exact e3⟩)
        (fun _ => ⟨c, cp, rfl, e2, by rw [List.getElem?_set_ne (fun e => n35 (hp 3 (by decide)) (hp 5 (by decide)) e.symm)]; exact e3⟩)
        (fun h => let z := f4 (orF rfl h); ⟨z.1, fun h2 => by rw [List.getElem?_set_ne (fun e => n45 (orF rfl h) (hp 5 (by decide)) e.symm)]; exact z.2.1 (orN rfl h2), fun h2 => let ⟨A, a1, a2⟩ := z.2.2 (orF rfl h2); ⟨A, a1, by rw [List.getElem?_set_ne (fun e => n45 (orF rfl h) (hp 5 (by decide)) e.symm)]; exact a2⟩⟩)
        (fun _ => ⟨rfl, fun h2 => (noT (Bool.or_true _) h2).elim, fun _ => ⟨_, rfl, List.getElem?_set_self hlt⟩⟩)
        (fun h => let z := g61 (orF rfl h); ⟨orL z.1, orL z.2⟩)
        (fun _ => ⟨orL (hp 3 (by decide)), orL (hp 5 (by decide))⟩)
        (fun h h2 => n13 (orF rfl h) (orF rfl h2))
        (fun h h2 => n14 (orF rfl h) (orF rfl h2))
        (fun h h2 => n15 (orF rfl h) (orF rfl h2))
        (fun h h2 => n34 (orF rfl h) (orF rfl h2))
        (fun h h2 => n35 (orF rfl h) (orF rfl h2))
        (fun h h2 => n45 (orF rfl h) (orF rfl h2))
        (by rw [List.length_set, cn]; simp only [Nat.beq, Bool.or_false])
    conv => whnf
    trivial
  rintro S s hall ⟨x33, x34, x35, x36, x6, x7, q1, q3, q4, q5, news, f0, f2, f1, f3, f4, f5, g61, g73, n13, n14, n15, n34, n35, n45, cn⟩ _
  obtain rfl := f0 (hall 0 (by decide))
  obtain rfl := f2 (hall 2 (by decide))
  obtain ⟨cp, rest, rfl, hr, e1⟩ := f1 (hall 1 (by decide))
  obtain ⟨cc, cp2, rfl, ⟨w1, w2, w3⟩, e3⟩ := f3 (hall 3 (by decide))
  obtain ⟨rfl, _, h4⟩ := f4 (hall 4 (by decide))
  obtain ⟨A4, hA4, e4⟩ := h4 (hall 6 (by decide))
  cases hA4
  obtain ⟨rfl, _, h5⟩ := f5 (hall 5 (by decide))
  obtain ⟨A5, hA5, e5⟩ := h5 (hall 7 (by decide))
  cases hA5
  have n1 := n13 (hall 1 (by decide)) (hall 3 (by decide))
  have n2 := n14 (hall 1 (by decide)) (hall 4 (by decide))
  have n3 := n15 (hall 1 (by decide)) (hall 5 (by decide))
  have n4 := n34 (hall 3 (by decide)) (hall 4 (by decide))
  have n5 := n35 (hall 3 (by decide)) (hall 5 (by decide))
  have n6 := n45 (hall 4 (by decide)) (hall 5 (by decide))
  clear h4 h5 f1 f3 f4 f5 g61 g73 n13 n14 n15 n34 n35 n45 cn f0 f2
  have rc := rowI_clean hr
  refine ⟨tq 6 [q1, q3, q4, q5], ⟨[[(.agg (confC (slc 0 off l.length cap) g b tp nr me)), (.agg #[I64 step, (slc 1 off1 bl.length cap1)]), ptr 2 0, ptr 3 0, .bool false, ptr 5 0, ptr 8 0, ptr 9 0, undef, undef, undef, undef, undef, undef, undef, undef],
      [undef, undef, undef, undef, undef, undef, undef, undef, undef, undef, (.agg (confC (slc 0 off l.length cap) g b tp nr me)), (.agg #[I64 step, (slc 1 off1 bl.length cap1)]), .bool true, .bool (!true), undef, (.agg #[I64 step, (slc 1 off1 bl.length cap1)])],
      [(.agg #[I64 (wrapS .i64 (0 - step)), slc 4 0 (bl.map negB).length cpt]), (.agg (confC (slc 0 off l.length cap) g b tp nr me)), .agg (confC (slc 6 0 l.length cp) g b tp nr me), (.agg #[I64 step, (slc 1 off1 bl.length cap1)]), .agg #[I64 step, slc 7 0 bl.length cp2], undef, undef, undef, undef, undef, undef, undef, undef, undef, undef, undef],
      [undef, undef, undef, undef, undef, undef, undef, undef, undef, undef, undef, undef, undef, undef, undef, undef],
      [undef, undef, undef, undef, undef, undef, undef, undef, undef, undef, undef, undef, undef, undef, undef, undef],
      [undef, undef, undef, undef, undef, undef, undef, undef, undef, undef, undef, undef, undef, undef, undef, undef],
      [undef, undef, undef, undef, undef, undef, undef, undef, undef, undef, undef, undef, undef, undef, undef, undef],
      [undef, undef, undef, undef, undef, undef, undef, undef, undef, undef, undef, undef, undef, undef, undef, undef],
      [undef, undef, undef, undef, undef, undef, undef, undef, undef, undef, undef, undef, undef, undef, undef, undef],
      [undef, undef, undef, undef, undef, undef, undef, undef, undef, undef, undef, undef, undef, undef, undef, undef],
      [undef, undef, undef, undef, undef, undef, undef, undef, undef, undef, undef, undef, undef, undef, undef, undef],
      [undef]],
    [.pending c0 t0, .pending c1 t1, .cells (confC (slc 0 off l.length cap) g b tp nr me) 39, .cells #[I64 step, (slc 1 off1 bl.length cap1)] 42, .cells ct 61, .cells #[I64 (wrapS .i64 (0 - step)), slc 4 0 (bl.map negB).length cpt] 42, .cells ⟨l.map I64 ++ rest⟩ 3, .cells cc 61, .cells (confC (slc 6 0 l.length cp) g b tp nr me) 39, .cells #[I64 step, slc 7 0 bl.length cp2] 42], []⟩, ?_, ?_⟩
  · refine ren_list2 (base := [.pending c0 t0, .pending c1 t1, .cells (confC (slc 0 off l.length cap) g b tp nr me) 39, .cells #[I64 step, (slc 1 off1 bl.length cap1)] 42, .cells ct 61, .cells #[I64 (wrapS .i64 (0 - step)), slc 4 0 (bl.map negB).length cpt] 42]) (us := [.cells ⟨l.map I64 ++ rest⟩ 3, .cells cc 61, .cells (confC (slc 6 0 l.length cp) g b tp nr me) 39, .cells #[I64 step, slc 7 0 bl.length cp2] 42]) (Nat.le_refl _) rfl (by simp [n1, n2, n3, n4, n5, n6]) ?_ ?_ ?_ (by simp [r3, r2, r1, r0, rA, tq, Nat.blt, undef]) (by simp [isMark, scop3, scop2, scop1, scop0, scopA, undef])
    · intro j o hj
      match j, hj with
      | 0, hj => cases hj; rw [rO_cl rc]; exact e1
      | 1, hj => cases hj; rw [rO_cl w1]; exact e3
      | 2, hj => cases hj; simpa [rO, r1, r0, rA, tq, Nat.blt] using e4
      | 3, hj => cases hj; simpa [rO, r1, r0, rA, tq, Nat.blt] using e5
      | j + 4, hj => simp at hj
    · intro o ho
      rcases List.mem_cons.1 ho with rfl | ho
      · exact fun v hv => clean_sc (rc v hv) _
      rcases List.mem_cons.1 ho with rfl | ho
      · exact fun v hv => clean_sc (w1 v hv) _
      intro v hv
      refine scop1_ok (List.all_eq_true.1 ?_ v hv)
      rcases List.mem_cons.1 ho with rfl | ho
      · rfl
      rcases List.mem_singleton.1 ho with rfl
      rfl
    · intro o ho
      intro v hv
      rcases List.mem_cons.1 ho with rfl | ho
      · cases hv
      rcases List.mem_cons.1 ho with rfl | ho
      · cases hv
      rcases List.mem_cons.1 ho with rfl | ho
      · exact scop1_ok (List.all_eq_true.1 (by rfl : (cellsOf (.cells (confC (slc 0 off l.length cap) g b tp nr me) 39)).all (scop1 6) = true) v hv)
      rcases List.mem_cons.1 ho with rfl | ho
      · exact scop1_ok (List.all_eq_true.1 (by rfl : (cellsOf (.cells #[I64 step, (slc 1 off1 bl.length cap1)] 42)).all (scop1 6) = true) v hv)
      rcases List.mem_cons.1 ho with rfl | ho
      · exact clean_sc (k1 v hv) _
      rcases List.mem_singleton.1 ho with rfl
      exact scop1_ok (List.all_eq_true.1 (by rfl : (cellsOf (.cells #[I64 (wrapS .i64 (0 - step)), slc 4 0 (bl.map negB).length cpt] 42)).all (scop1 6) = true) v hv)
  conv => whnf
  clear e1 e3 e4 e5 n1 n2 n3 n4 n5 n6
  refine aw_inv tabOk [[false, false, true, true, true, true, true, true, true, true, false, false, false, false, false, false], [false, false, false, false, false, false, false, false, false, false, false, false, false, false, false, false], [false, false, false, false, false, false, false, false, false, false, false, false, false, false, false, false], [false, false, false, false, false, false, false, false, false, false, false, false, false, false, false, false], [false, false, false, false, false, false, false, false, false, false, false, false, false, false, false, false], [false, false, false, false, false, false, false, false, false, false, false, false, false, false, false, false], [false, false, false, false, false, false, false, false, false, false, false, false, false, false, false, false], [false, false, false, false, false, false, false, false, false, false, false, false, false, false, false, false], [false, false, false, false, false, false, false, false, false, false, false, false, false, false, false, false], [false, false, false, false, false, false, false, false, false, false, false, false, false, false, false, false], [false, false, false, false, false, false, false, false, false, false, false, false, false, false, false, false], [false]] (fun m s' => ∃ (i : Nat) (c6 c7 : Array Value), m = bl.length - i ∧ i ≤ bl.length ∧ (∀ x ∈ c6.toList, cleanV x = true) ∧ (∀ x ∈ c7.toList, cleanV x = true) ∧ WinI c6 0 (l.reverse.take i ++ l.drop i) ∧ WinB c7 0 (bl.reverse.take i ++ bl.drop i) ∧
    s' = ⟨[[.chan none, .chan none, ptr 2 0, ptr 3 0, .bool false, ptr 5 0, ptr 8 0, ptr 9 0, I64 (bl.length : Int), I64 (i : Int), .chan none, .chan none, .chan none, .chan none, .chan none, .chan none],
      [.chan none, .chan none, .chan none, .chan none, .chan none, .chan none, .chan none, .chan none, .chan none, .chan none, .chan none, .chan none, .chan none, .chan none, .chan none, .chan none],
      [.chan none, .chan none, .chan none, .chan none, .chan none, .chan none, .chan none, .chan none, .chan none, .chan none, .chan none, .chan none, .chan none, .chan none, .chan none, .chan none],
      [.chan none, .chan none, .chan none, .chan none, .chan none, .chan none, .chan none, .chan none, .chan none, .chan none, .chan none, .chan none, .chan none, .chan none, .chan none, .chan none],
      [.chan none, .chan none, .chan none, .chan none, .chan none, .chan none, .chan none, .chan none, .chan none, .chan none, .chan none, .chan none, .chan none, .chan none, .chan none, .chan none],
      [.chan none, .chan none, .chan none, .chan none, .chan none, .chan none, .chan none, .chan none, .chan none, .chan none, .chan none, .chan none, .chan none, .chan none, .chan none, .chan none],
      [.chan none, .chan none, .chan none, .chan none, .chan none, .chan none, .chan none, .chan none, .chan none, .chan none, .chan none, .chan none, .chan none, .chan none, .chan none, .chan none],
      [.chan none, .chan none, .chan none, .chan none, .chan none, .chan none, .chan none, .chan none, .chan none, .chan none, .chan none, .chan none, .chan none, .chan none, .chan none, .chan none],
      [.chan none, .chan none, .chan none, .chan none, .chan none, .chan none, .chan none, .chan none, .chan none, .chan none, .chan none, .chan none, .chan none, .chan none, .chan none, .chan none],
      [.chan none, .chan none, .chan none, .chan none, .chan none, .chan none, .chan none, .chan none, .chan none, .chan none, .chan none, .chan none, .chan none, .chan none, .chan none, .chan none],
      [.chan none, .chan none, .chan none, .chan none, .chan none, .chan none, .chan none, .chan none, .chan none, .chan none, .chan none, .chan none, .chan none, .chan none, .chan none, .chan none],
      [.chan none]],
      [.pending c0 t0, .pending c1 t1, .cells (confC (slc 0 off l.length cap) g b tp nr me) 39, .cells #[I64 step, (slc 1 off1 bl.length cap1)] 42, .cells ct 61, .cells #[I64 (wrapS .i64 (0 - step)), slc 4 0 (bl.map negB).length cpt] 42, .cells c6 3, .cells c7 61, .cells (confC (slc 6 0 l.length cp) g b tp nr me) 39, .cells #[I64 step, slc 7 0 bl.length cp2] 42], []⟩) bl.length ?_ ⟨0, _, _, rfl, Nat.zero_le _, rc, w1, winI_own, w2, rfl⟩
  rintro m s' ⟨i, c6, c7, rfl, hi, u6, u7, v6, v7, rfl⟩
  conv => whnf
  refine ways (fun h2 => ?_) (fun h2 => ?_) <;> conv => whnf
  · have hlt : i < bl.length := by have := of_decide_eq_true h2; omega
    have hi1 : wrapS .i64 ((bl.length : Int) - 1) = ((bl.length - 1 : Nat) : Int) := by rw [wrapI (by omega) (by omega)]; omega
    have hix : wrapS .i64 (((bl.length - 1 : Nat) : Int) - (i : Int)) = ((bl.length - 1 - i : Nat) : Int) := by rw [wrapI (by omega) (by omega)]; omega
    obtain ⟨x, hx⟩ : ∃ x, l[bl.length - 1 - i]? = some x := ⟨_, List.getElem?_eq_getElem (by omega)⟩
    have hx' : l.reverse[i]? = some x := by rw [List.getElem?_reverse (by omega), hlen]; exact hx
    obtain ⟨y, hy⟩ : ∃ y, bl[bl.length - 1 - i]? = some y := ⟨_, List.getElem?_eq_getElem (by omega)⟩
    have hy' : bl.reverse[i]? = some y := by rw [List.getElem?_reverse (by omega)]; exact hy
    obtain ⟨y0, hy0⟩ := mix_at (l := bl) (r := bl.reverse) (i := i) (by simp) (by simp; omega)
    have hs6 : i < c6.size := by
      obtain ⟨x0, hx0⟩ := mix_at (l := l) (r := l.reverse) (i := i) (by simp) (by simp; omega)
      have := v6 i x0 hx0
      rw [Nat.zero_add] at this
      exact (Array.getElem?_eq_some_iff.1 this).1
    refine ad_of tabOk (by kernel_rfl) [(0, false), (1, false), (2, false), (3, false), (4, false), (5, false), (6, false), (7, false), (8, false), (9, false), (10, false), (11, false), (12, true)] (by kernel_rfl) ?_
    conv => whnf
    rw [hi1, hix]
    refine way1 (by rw [decide_eq_true_iff]; omega) ?_
    conv => whnf
    refine nthK_of (l := c0.toList) (hw.at hx) ?_
    conv => whnf
    refine way1 (by rw [decide_eq_true_iff]; omega) ?_
    conv => whnf
    refine write_cell (c := c6) (i := i) (v := I64 x) hs6 rfl ?_
    intro c6' hs' hat hcl'
    have v6' := winI_set (by simp; omega) v6 hat
    rw [mix_next (by simp) hx'] at v6'
    have u6' := hcl' u6
    clear v6 u6 hcl' hat hs' hs6
    conv => whnf
    refine ad_of tabOk (by kernel_rfl) [(0, false), (1, false), (2, false), (3, false), (4, false), (5, false), (6, false), (7, false), (8, false), (9, false), (10, false), (11, false), (12, true)] (by kernel_rfl) ?_
    conv => whnf
    rw [hi1, hix]
    refine way1 (by rw [decide_eq_true_iff]; omega) ?_
    conv => whnf
    refine hw1.body hy ?_
    conv => whnf
    refine way1 (by rw [decide_eq_true_iff]; omega) ?_
    conv => whnf
    refine write_bd (q := 0) (b := y0) (b' := y) (vs := y.cells) v7 hy0 (Nat.le_refl 6) (by simp [cleanV, Bd.cells]) (fun j hj => by rw [Nat.zero_add]) (fun j hj ho => by have : y.cells.length = 6 := rfl; omega) ?_
    intro c7' hcl7 v7'
    rw [mix_next (by simp) hy'] at v7'
    have u7' := hcl7 u7
    conv => whnf
    rw [show wrapS .i64 ((i : Int) + 1) = ((i + 1 : Nat) : Int) by rw [wrapI (by omega) (by omega)]; omega]
    exact ⟨bl.length - (i + 1), by omega, i + 1, c6', c7', rfl, by omega, u6', u7', v6', v7', rfl⟩
  have hin : i = bl.length := by have := of_decide_eq_false h2; omega
  subst hin
  rw [List.take_of_length_le (by simp; omega), List.drop_of_length_le (by omega), List.append_nil] at v6
  rw [List.take_of_length_le (by simp), List.drop_length, List.append_nil] at v7
  obtain ⟨p1, p2, p3⟩ := P_opp l bl
  obtain ⟨p4, p5, p6⟩ := L_opp hfit
  have p7 := sumF_rev ofV hlen
  have p8 := sumF_rev ofL hlen
  have p9 := sumF_rev ofX hlen
  have okT := fits_neg hfit
  have okR := fits_rev hfit

  refine ac_mono (P_s tt (l := l) (bl := bl) (.inr ⟨0, off, cap, c0, t0, rfl, .inl rfl, hw, hcap⟩) (.inr ⟨1, off1, cap1, c1, t1, rfl, .inl rfl, hw1, hcap1⟩) hl hl1 g b tp nr me step) ?_
  rintro v h' ⟨rfl, rfl⟩
  rw [hfit]
  conv => whnf
  refine ac_mono (L_s tt (l := l) (bl := bl) (.inr ⟨0, off, cap, c0, t0, rfl, .inl rfl, hw, hcap⟩) (.inr ⟨1, off1, cap1, c1, t1, rfl, .inl rfl, hw1, hcap1⟩) hl hl1 g b tp nr me step) ?_
  rintro v h' ⟨rfl, rfl⟩
  rw [hfit]
  conv => whnf
  refine ac_mono (Mid_s tt (l := l) (bl := bl) (.inr ⟨0, off, cap, c0, t0, rfl, .inl rfl, hw, hcap⟩) (.inr ⟨1, off1, cap1, c1, t1, rfl, .inl rfl, hw1, hcap1⟩) hl hl1 g b tp nr me step) ?_
  rintro v h' ⟨rfl, rfl⟩
  rw [hfit]
  conv => whnf
  refine ac_mono (P_s tt (l := l) (bl := (bl.map negB)) (.inr ⟨0, off, cap, c0, t0, rfl, .inl rfl, hw, hcap⟩) (.inr ⟨4, 0, cpt, ct, 61, rfl, .inr ⟨k1, _, rfl⟩, k2, k3⟩) hl (by rw [List.length_map]; exact hl1) g b tp nr me (wrapS .i64 (0 - step))) ?_
  rintro v h' ⟨rfl, rfl⟩
  rw [okT]
  conv => whnf
  refine ac_mono (L_s tt (l := l) (bl := (bl.map negB)) (.inr ⟨0, off, cap, c0, t0, rfl, .inl rfl, hw, hcap⟩) (.inr ⟨4, 0, cpt, ct, 61, rfl, .inr ⟨k1, _, rfl⟩, k2, k3⟩) hl (by rw [List.length_map]; exact hl1) g b tp nr me (wrapS .i64 (0 - step))) ?_
  rintro v h' ⟨rfl, rfl⟩
  rw [okT]
  conv => whnf
  refine ac_mono (P_s tt (l := l.reverse) (bl := bl.reverse) (.inr ⟨6, 0, cp, c6, 3, by rw [List.length_reverse], .inr ⟨u6, _, rfl⟩, v6, by rw [List.length_reverse]; have := hr.1; omega⟩) (.inr ⟨7, 0, cp2, c7, 61, by rw [List.length_reverse], .inr ⟨u7, _, rfl⟩, v7, by rw [List.length_reverse]; exact w3⟩) (by rw [List.length_reverse]; exact hl) (by rw [List.length_reverse]; exact hl1) g b tp nr me step) ?_
  rintro v h' ⟨rfl, rfl⟩
  rw [okR, p7]
  conv => whnf
  refine ac_mono (L_s tt (l := l.reverse) (bl := bl.reverse) (.inr ⟨6, 0, cp, c6, 3, by rw [List.length_reverse], .inr ⟨u6, _, rfl⟩, v6, by rw [List.length_reverse]; have := hr.1; omega⟩) (.inr ⟨7, 0, cp2, c7, 61, by rw [List.length_reverse], .inr ⟨u7, _, rfl⟩, v7, by rw [List.length_reverse]; exact w3⟩) (by rw [List.length_reverse]; exact hl) (by rw [List.length_reverse]; exact hl1) g b tp nr me step) ?_
  rintro v h' ⟨rfl, rfl⟩
  rw [okR, p8]
  conv => whnf
  refine ac_mono (Mid_s tt (l := l.reverse) (bl := bl.reverse) (.inr ⟨6, 0, cp, c6, 3, by rw [List.length_reverse], .inr ⟨u6, _, rfl⟩, v6, by rw [List.length_reverse]; have := hr.1; omega⟩) (.inr ⟨7, 0, cp2, c7, 61, by rw [List.length_reverse], .inr ⟨u7, _, rfl⟩, v7, by rw [List.length_reverse]; exact w3⟩) (by rw [List.length_reverse]; exact hl) (by rw [List.length_reverse]; exact hl1) g b tp nr me step) ?_
  rintro v h' ⟨rfl, rfl⟩
  rw [okR, p9]
  conv => whnf
  refine ad_of tabOk (by kernel_rfl) [(0, false), (1, false), (3, false), (2, false), (4, false), (5, false), (6, false), (7, false), (9, false), (8, false), (10, false), (11, false), (12, false), (13, false), (14, false), (15, false), (16, false), (17, false), (18, false), (19, false), (20, false), (21, false), (22, false), (23, false), (24, false), (25, false), (26, false), (27, false), (28, false), (29, false), (30, false)] (by kernel_rfl) ?_
  conv => whnf
  refine Lost_q (GM tt) _ _ _ 0 0 0 ?_
  conv => whnf
  rw [p1, p2, p3]
  conv => whnf
  refine way1 (by simp) ?_
  conv => whnf
  refine Lost_q (GM tt) _ _ _ 0 0 0 ?_
  conv => whnf
  rw [p4, p5, p6]
  refine way1 (by simp) ?_
  conv => whnf
  refine way1 (by simp) ?_
  conv => whnf
  refine way1 (by simp) ?_
  conv => whnf
  refine way1 (by simp) ?_
  conv => whnf
  refine MwakesT_q tt ?_
  conv => whnf
  refine ⟨rfl, fin_turnedK rfl ?_⟩
  conv => whnf
  exact ⟨rfl, rfl⟩
theorem Turned9_nr (tt : TypeId) (c1 : Array Value) (t1 : TypeId) (off1 cap1 : Nat) (bl : List Bd) (hw1 : WinB c1 off1 bl) (hcap1 : bl.length ≤ cap1) (g b tp nr me step : Int) :
    AC Tryd.prog (GM tt) 9 [.agg (confC (.slice none 0 0) g b tp nr me), .agg #[I64 step, (slc 0 off1 bl.length cap1)]] [.pending c1 t1] (fun v h => v = .bool true ∧ h = [.pending c1 t1]) := by
  refine ac_of_body tabOk has9 ?_
  unfold BodyOk
  conv => whnf
  refine ac_mono (RFitsU_s tt (l := ([] : List Int)) (bl := bl) (h := [.pending c1 t1, .cells (confC (.slice none 0 0) g b tp nr me) 39, .cells #[I64 step, (slc 0 off1 bl.length cap1)] 42]) (.inl ⟨rfl, rfl⟩) (.inr ⟨0, off1, cap1, c1, t1, rfl, .inl rfl, hw1, hcap1⟩) g b tp nr me step) ?_
  rintro v h' ⟨rfl, rfl⟩
  conv => whnf
  rw [fits_nil1 g b tp nr me step bl]
  conv => whnf
  refine ac_pure (Mwakes_c tt) rfl ?_
  rintro v h' ⟨rfl, rfl⟩
  refine ⟨rfl, rfl, ?_⟩
  conv => whnf
  refine ⟨rfl, fin_turnedK rfl ?_⟩
  conv => whnf
  exact ⟨rfl, rfl⟩

theorem Turned9_rn (tt : TypeId) (c0 : Array Value) (t0 : TypeId) (off cap : Nat) (l : List Int) (hw : WinI c0 off l) (hcap : l.length ≤ cap) (g b tp nr me step : Int) :
    AC Tryd.prog (GM tt) 9 [.agg (confC (slc 0 off l.length cap) g b tp nr me), .agg #[I64 step, (.slice none 0 0)]] [.pending c0 t0] (fun v h => v = .bool true ∧ h = [.pending c0 t0]) := by
  refine ac_of_body tabOk has9 ?_
  unfold BodyOk
  conv => whnf
  refine ac_mono (RFitsU_s tt (l := l) (bl := ([] : List Bd)) (h := [.pending c0 t0, .cells (confC (slc 0 off l.length cap) g b tp nr me) 39, .cells #[I64 step, (.slice none 0 0)] 42]) (.inr ⟨0, off, cap, c0, t0, rfl, .inl rfl, hw, hcap⟩) (.inl ⟨rfl, rfl⟩) g b tp nr me step) ?_
  rintro v h' ⟨rfl, rfl⟩
  conv => whnf
  rw [fits_nil2 l g b tp nr me step]
  conv => whnf
  refine ac_pure (Mwakes_c tt) rfl ?_
  rintro v h' ⟨rfl, rfl⟩
  refine ⟨rfl, rfl, ?_⟩
  conv => whnf
  refine ⟨rfl, fin_turnedK rfl ?_⟩
  conv => whnf
  exact ⟨rfl, rfl⟩

theorem Turned9_nn (tt : TypeId) (g b tp nr me step : Int) :
    AC Tryd.prog (GM tt) 9 [.agg (confC (.slice none 0 0) g b tp nr me), .agg #[I64 step, (.slice none 0 0)]] [] (fun v h => v = .bool true ∧ h = []) := by
  refine ac_of_body tabOk has9 ?_
  unfold BodyOk
  conv => whnf
  refine ac_mono (RFitsU_s tt (l := ([] : List Int)) (bl := ([] : List Bd)) (h := [.cells (confC (.slice none 0 0) g b tp nr me) 39, .cells #[I64 step, (.slice none 0 0)] 42]) (.inl ⟨rfl, rfl⟩) (.inl ⟨rfl, rfl⟩) g b tp nr me step) ?_
  rintro v h' ⟨rfl, rfl⟩
  conv => whnf
  rw [fits_nil1 g b tp nr me step ([] : List Bd)]
  conv => whnf
  refine ac_pure (Mwakes_c tt) rfl ?_
  rintro v h' ⟨rfl, rfl⟩
  refine ⟨rfl, rfl, ?_⟩
  conv => whnf
  refine ⟨rfl, fin_turnedK rfl ?_⟩
  conv => whnf
  exact ⟨rfl, rfl⟩

end Go.Proofs.YtjpjnjidchdlbaaDoor
