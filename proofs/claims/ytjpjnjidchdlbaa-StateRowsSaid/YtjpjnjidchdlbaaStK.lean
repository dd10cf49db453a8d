/-
  state.Of (no condition).
-/
import Derived.Test.YtjpjnjidchdlbaaStJ
namespace Go.Proofs.Ytjpjnjidchdlbaa
set_option linter.unusedSimpArgs false
set_option linter.unusedVariables false
open Go
set_option maxRecDepth 100000
set_option maxHeartbeats 4000000
def bdAt (l : List Int) (i : Nat) : Bd := ⟨l.getD (2 + i * 6) 0, l.getD (2 + i * 6 + 1) 0, l.getD (2 + i * 6 + 2) 0, l.getD (2 + i * 6 + 3) 0, l.getD (2 + i * 6 + 4) 0, l.getD (2 + i * 6 + 5) 0⟩
/-- the bodies that a row tells -/
def bdsOf (l : List Int) : List Bd := (List.range (l.length / 6)).map (bdAt l)
def shapeOk (l : List Int) : Bool := decide (8 ≤ l.length) && (decide (l.length % 6 = 2) && decide (l.getD 1 0 = ((l.length / 6 : Nat) : Int)))
def ofOk (l : List Int) : Bool := shapeOk l && okState (l.getD 0 0) (bdsOf l)
theorem getD_some {l : List Int} {i : Nat} {x : Int} (h : l[i]? = some x) : l.getD i 0 = x := by rw [List.getD_eq_getElem?_getD, h]; rfl
theorem bdsOf_len (l : List Int) : (bdsOf l).length = l.length / 6 := by simp [bdsOf]
theorem bdsOf_at {l : List Int} {i : Nat} (h : i < l.length / 6) : (bdsOf l)[i]? = some (bdAt l i) := by simp [bdsOf, h]
theorem bdAt_lies {c0 : Array Value} {off : Nat} {l : List Int} (hw : WinI c0 off l) {i : Nat} (h : 2 + i * 6 + 6 ≤ l.length) : ∀ (j : Nat) (v : Value), (bdAt l i).cells[j]? = some v → c0[off + 2 + i * 6 + j]? = some v := by
  have key : ∀ j, j < 6 → c0[off + 2 + i * 6 + j]? = some (I64 (l.getD (2 + i * 6 + j) 0)) := by
    intro j hj
    have hlt : 2 + i * 6 + j < l.length := by omega
    have := hw (2 + i * 6 + j) _ (List.getElem?_eq_getElem hlt)
    rw [show off + 2 + i * 6 + j = off + (2 + i * 6 + j) from by omega, this, getD_some (List.getElem?_eq_getElem hlt)]
  intro j v hj
  match j, hj with
  | 0, hj => cases hj; exact key 0 (by decide)
  | 1, hj => cases hj; exact key 1 (by decide)
  | 2, hj => cases hj; exact key 2 (by decide)
  | 3, hj => cases hj; exact key 3 (by decide)
  | 4, hj => cases hj; exact key 4 (by decide)
  | 5, hj => cases hj; exact key 5 (by decide)
  | j + 6, hj => simp at hj
theorem not_shape1 {l : List Int} (h : (l.length : Int) < 8) : ofOk l = false := by
  unfold ofOk shapeOk
  rw [decide_eq_false (by omega : ¬ 8 ≤ l.length)]
  rfl
theorem tmod6 (n : Nat) : ((n : Int).tmod 6) = ((n % 6 : Nat) : Int) := by
  rw [Int.tmod_eq_emod_of_nonneg (by omega)]
  omega
theorem tdiv6 (n : Nat) : ((n : Int).tdiv 6) = ((n / 6 : Nat) : Int) := by
  rw [Int.tdiv_eq_ediv_of_nonneg (by omega)]
  omega
theorem not_shape2 {l : List Int} (h : ((l.length : Int).tmod 6 != 2) = true) : ofOk l = false := by
  have h2 : ¬ l.length % 6 = 2 := by
    intro h3
    rw [tmod6, h3] at h
    simp at h
  unfold ofOk shapeOk
  rw [decide_eq_false h2]
  simp
theorem shape2 {l : List Int} (h : ((l.length : Int).tmod 6 != 2) = false) : l.length % 6 = 2 := by
  rw [tmod6] at h
  simp at h
  omega
theorem not_shape3 {l : List Int} {x : Int} (hx : l[1]? = some x) (hl : l.length ≤ 1000000000000) (h : (x != wrapS .i64 ((l.length : Int).tdiv 6)) = true) : ofOk l = false := by
  rw [tdiv6, wrapI (by omega) (by omega)] at h
  have h2 : ¬ l.getD 1 0 = ((l.length / 6 : Nat) : Int) := by
    rw [getD_some hx]
    intro h3
    rw [h3] at h
    simp at h
  unfold ofOk shapeOk
  rw [decide_eq_false h2]
  simp
theorem shape3 {l : List Int} {x : Int} (hx : l[1]? = some x) (hl : l.length ≤ 1000000000000) (h : (x != wrapS .i64 ((l.length : Int).tdiv 6)) = false) : x = ((l.length / 6 : Nat) : Int) := by
  rw [tdiv6, wrapI (by omega) (by omega)] at h
  simpa using h
/-- what Of leaves -/
def OfPost (l : List Int) (m : Nat) (h : List Obj) (v : Value) (h' : List Obj) : Prop :=
  (ofOk l = false ∧ v = .tuple #[.agg #[I64 0, .slice none 0 0], I64 2] ∧ h' = h) ∨
  (ofOk l = true ∧ ∃ (c : Array Value) (cp : Nat), v = .tuple #[.agg #[I64 (l.getD 0 0), slc m 0 (bdsOf l).length cp], I64 0] ∧ h' = h ++ [.cells c 56] ∧ (∀ x ∈ c.toList, cleanV x = true) ∧ WinB c 0 (bdsOf l) ∧ (bdsOf l).length ≤ cp)
theorem Of26_r (G) (c0 : Array Value) (t0 : TypeId) (off cap : Nat) (l : List Int) (hw : WinI c0 off l) (hcap : l.length ≤ cap) (hl : l.length ≤ 1000000000000) :
    AC Try.prog G 26 [slc 0 off l.length cap] [.pending c0 t0] (OfPost l 1 [.pending c0 t0]) := by
  refine ac_of_body tabOk has26 ?_
  unfold BodyOk
  conv => whnf
  refine aw_scope tabOk 0 rfl ?_
  conv => whnf
  refine ways (fun h1 => ?_) (fun h1 => ?_) <;> conv => whnf
  · refine And.intro rfl ?_
    conv => whnf
    refine ⟨rfl, fin_turnedK rfl ?_⟩
    conv => whnf
    exact .inl ⟨not_shape1 (of_decide_eq_true h1), rfl, rfl⟩
  have h8 : 8 ≤ l.length := by have := of_decide_eq_false h1; omega
  refine ways (fun h2 => ?_) (fun h2 => ?_) <;> conv => whnf
  · refine And.intro rfl ?_
    conv => whnf
    refine ⟨rfl, fin_turnedK rfl ?_⟩
    conv => whnf
    exact .inl ⟨not_shape2 h2, rfl, rfl⟩
  have h62 := shape2 h2
  refine way1 (by rw [decide_eq_true_iff]; omega) ?_
  conv => whnf
  refine exk (l := l) (i := 1) (by omega) fun x1 hx1 => ?_
  refine nthK_of (l := c0.toList) (hw.at (k := 1) hx1) ?_
  conv => whnf
  refine ways (fun h3 => ?_) (fun h3 => ?_) <;> conv => whnf
  · refine And.intro rfl ?_
    conv => whnf
    refine ⟨rfl, fin_turnedK rfl ?_⟩
    conv => whnf
    exact .inl ⟨not_shape3 hx1 hl h3, rfl, rfl⟩
  have hn := shape3 hx1 hl h3
  refine way1 (by rw [decide_eq_true_iff]; omega) ?_
  conv => whnf
  refine exk (l := l) (i := 0) (by omega) fun x0 hx0 => ?_
  refine nthK_of (l := c0.toList) (hw.at (k := 0) hx0) ?_
  conv => whnf
  refine way1 (by rw [decide_eq_true_iff]; omega) ?_
  conv => whnf
  refine ac_args (args' := [slc 0 (off + 2) (l.length - 2) (cap - 2), I64 6]) (by rw [sliceAddr_ne (by show cap ≠ 2; omega)]; rfl) ?_
  refine ac_of_body tabOk has44 ?_
  unfold BodyOk
  conv => whnf
  refine ⟨rfl, fin_all [_, _] [_, _] rfl rfl rfl rfl rfl ?_⟩
  conv => whnf
  refine aw_rangeK tabOk ?_
  conv => whnf
  intro ln fn
  refine ac_loop fun L hL => ?_
  have yieldB : ∀ {o : Oper} {cl : Call} {f : Operand} {t : List (List Value)} {K : St → Prop} {o1 : Nat} {b : Bd} {news : List Obj} {w : Value} {acc : List Bd}, o.op = .call cl → cl.callee = .value f → evK ⟨t, (.pending c0 t0 :: .cells #[I64 x0, w] 42 :: .cells #[slc 0 (off + 2) (l.length - 2) (cap - 2)] 43 :: .cells #[I64 6] 3 :: .deferred (some []) :: .loop L :: news), []⟩ f (fun v => v = .func (.yield ln) #[] #[]) → evsK ⟨t, (.pending c0 t0 :: .cells #[I64 x0, w] 42 :: .cells #[slc 0 (off + 2) (l.length - 2) (cap - 2)] 43 :: .cells #[I64 6] 3 :: .deferred (some []) :: .loop L :: news), []⟩ cl.args.toList (fun vs => vs = [slc 0 o1 6 6]) →
      (∀ (j : Nat) (v : Value), b.cells[j]? = some v → c0[o1 + j]? = some v) → AccV 6 news w acc → acc.length ≤ 1000000000000 → (∀ news' q' cp', AccB news' q' cp' (acc ++ [b]) → putK ⟨t, (.pending c0 t0 :: .cells #[I64 x0, slc (q' + 6) 0 (acc ++ [b]).length cp'] 42 :: .cells #[slc 0 (off + 2) (l.length - 2) (cap - 2)] 43 :: .cells #[I64 6] 3 :: .deferred (some []) :: .loop L :: news'), []⟩ o.dst (.bool true) K) → AO Try.prog G none o ⟨t, (.pending c0 t0 :: .cells #[I64 x0, w] 42 :: .cells #[slc 0 (off + 2) (l.length - 2) (cap - 2)] 43 :: .cells #[I64 6] 3 :: .deferred (some []) :: .loop L :: news), []⟩ K := by
    intro o cl f t K o1 b news w acc hop hcal hf hx hb hV hal hk
    obtain ⟨vs, rfl, hg⟩ := tr2_evs (L := fun _ => True) (s := ⟨t, (.pending c0 t0 :: .cells #[I64 x0, w] 42 :: .cells #[slc 0 (off + 2) (l.length - 2) (cap - 2)] 43 :: .cells #[I64 6] 3 :: .deferred (some []) :: .loop L :: news), []⟩) (s' := ⟨t, (.pending c0 t0 :: .cells #[I64 x0, w] 42 :: .cells #[slc 0 (off + 2) (l.length - 2) (cap - 2)] 43 :: .cells #[I64 6] 3 :: .deferred (some []) :: .loop L :: news), []⟩) ⟨fun _ _ _ h => h, fun _ _ h => h⟩ cl.args.toList (fun _ _ => trivial) _ hx
    refine ao_yieldK 5 4 hop hcal hf (hg _ ?_)
    subst hL
    have hV' := hV
    have hb3 : ∀ (j : Nat) (v : Value), [I64 b.x, I64 b.y, I64 b.z][j]? = some v → c0[o1 + 3 * 1 + j]? = some v := by
      intro j v hj
      have hj3 : j < 3 := (List.getElem?_eq_some_iff.1 hj).1
      have := hb (3 + j) v (by rw [← hj]; show (b.cells)[3 + j]? = _; rw [Nat.add_comm]; rfl)
      rwa [← Nat.add_assoc] at this
    rcases hV with ⟨rfl, rfl⟩ | ⟨q, cp, rfl, hB⟩
    all_goals
      conv => whnf
      repeat' first
        | (refine run_ok tabOk _ _ _ ?_; conv => whnf)
        | (refine And.intro rfl (And.intro rfl ?_); conv => whnf)
        | (refine And.intro rfl ?_; conv => whnf)
      refine ad_of tabOk (by kernel_rfl) [(0, false), (1, false), (2, false), (3, false), (4, false), (5, false), (6, false), (7, false), (8, false), (9, false), (10, false), (11, false), (12, true), (13, true), (14, true)] (by kernel_rfl) ?_
      conv => whnf
      refine cells_part (xs := [I64 b.a, I64 b.b, I64 b.c]) (fun j v hj => hb j v (getL (m := [I64 b.x, I64 b.y, I64 b.z]) hj)) rfl (by simp) ?_
      conv => whnf
      refine cells_part (xs := [I64 b.x, I64 b.y, I64 b.z]) (fun j v hj => hb3 j v hj) rfl (by simp) ?_
      conv => whnf
      refine cnt_of ?_
      conv => whnf
      refine app_of ?_
      conv => whnf
      refine ao_pushB (m := 6) rfl [_, _, _, _, _, _] rfl hV' (b := b) rfl (by (conv => whnf) <;> rfl) (by (conv => whnf) <;> rfl) hal ?_
      intro news' q' cp' hB'
      conv => whnf
      repeat' first
        | (refine run_ok tabOk _ _ _ ?_; conv => whnf)
        | (refine And.intro rfl (And.intro rfl ?_); conv => whnf)
        | (refine And.intro rfl ?_; conv => whnf)
      exact hk news' q' cp' hB'
  refine ac_of_body tabOk has54 ?_
  unfold BodyOk
  conv => whnf
  refine aw_inv tabOk [[true, true, true, false, true, false, false, false, false, false, false, false, false, false, false, false], [false, false, false, false, false, false, false, false, false, false, false, false, false, false, false]] (fun m s' => ∃ (i : Nat) (news : List Obj) (w : Value), m = l.length / 6 - i ∧ i ≤ l.length / 6 ∧ AccV 6 news w ((bdsOf l).take i) ∧
    s' = ⟨[[.func (.yield ln) #[] #[], ptr 2 0, ptr 3 0, .chan none, I64 ((i * 6 : Nat) : Int), .chan none, .chan none, .chan none, .chan none, .chan none, .chan none, .chan none, .chan none, .chan none, .chan none, .chan none],
      [.chan none, .chan none, .chan none, .chan none, .chan none, .chan none, .chan none, .chan none, .chan none, .chan none, .chan none, .chan none, .chan none, .chan none, .chan none]], (.pending c0 t0 :: .cells #[I64 x0, w] 42 :: .cells #[slc 0 (off + 2) (l.length - 2) (cap - 2)] 43 :: .cells #[I64 6] 3 :: .deferred (some []) :: .loop L :: news), []⟩) (l.length / 6) ?_ ⟨0, [], .slice none 0 0, rfl, Nat.zero_le _, .inl ⟨rfl, rfl⟩, rfl⟩
  rintro m s' ⟨i, news, w, rfl, hi, hV, rfl⟩
  conv => whnf
  refine ways (fun h4 => ?_) (fun h4 => ?_) <;> conv => whnf
  · have hlt : i < l.length / 6 := by have := of_decide_eq_true h4; omega
    refine ad_of tabOk (by kernel_rfl) [(0, false), (1, false), (2, false), (3, false), (4, false), (5, false), (6, false)] (by kernel_rfl) ?_
    conv => whnf
    refine way1 (by rw [decide_eq_true_iff]; omega) ?_
    conv => whnf
    obtain ⟨mn, hmn0⟩ : ∃ mn : Int, mn = (if (((l.length - 2 - ((i * 6 : Nat) : Int).toNat : Nat)) : Int) < 6 then (((l.length - 2 - ((i * 6 : Nat) : Int).toNat : Nat)) : Int) else 6) := ⟨_, rfl⟩
    have hmn : mn = 6 := by rw [hmn0, if_neg (by omega)]
    have h12 : wrapS .i64 (((i * 6 : Nat) : Int) + mn) = ((i * 6 + 6 : Nat) : Int) := by rw [hmn, wrapI (by omega) (by omega)]; omega
    rw [hmn0] at h12
    have hc2 : i * 6 + 6 ≤ cap - 2 := by omega
    refine way1 (by show decide ((0:Int) ≤ wrapS .i64 (((i*6:Nat):Int) + (if _ then _ else _)) ∧ wrapS .i64 (((i*6:Nat):Int) + (if _ then _ else _)) ≤ ((cap - 2 : Nat) : Int)) = true; rw [h12, decide_eq_true_iff]; omega) ?_
    conv => whnf
    refine way1 (by show decide ((0:Int) ≤ wrapS .i64 (((i*6:Nat):Int) + (if _ then _ else _)) ∧ wrapS .i64 (((i*6:Nat):Int) + (if _ then _ else _)) ≤ ((Int.toNat (wrapS .i64 (((i*6:Nat):Int) + (if _ then _ else _))) : Nat) : Int)) = true; rw [h12, decide_eq_true_iff]; omega) ?_
    conv => whnf
    refine way1 (by show decide ((0:Int) ≤ ((i*6:Nat):Int) ∧ ((i*6:Nat):Int) ≤ ((Int.toNat (wrapS .i64 (((i*6:Nat):Int) + (if _ then _ else _))) : Nat) : Int)) = true; rw [h12, decide_eq_true_iff]; omega) ?_
    conv => whnf
    refine yieldB (o1 := off + 2 + i * 6) (b := bdAt l i) rfl rfl (by (conv => whnf) <;> rfl) ?_ (bdAt_lies hw (by omega)) hV (by rw [List.length_take, bdsOf_len]; omega) fun news' q' cp' hB' => ?_
    · conv => whnf
      show [Value.slice (some (sliceAddr ⟨0, off + 2, some 0⟩ (((i * 6 : Nat) : Int).toNat) (Int.toNat (wrapS .i64 (((i*6:Nat):Int) + (if _ then _ else _)))) 1)) (Int.toNat (wrapS .i64 (((i*6:Nat):Int) + (if _ then _ else _))) - ((i * 6 : Nat) : Int).toNat) (Int.toNat (wrapS .i64 (((i*6:Nat):Int) + (if _ then _ else _))) - ((i * 6 : Nat) : Int).toNat)] = _
      rw [h12, sliceAddr_ne (by omega), show ((i * 6 : Nat) : Int).toNat = i * 6 from by omega, show ((i * 6 + 6 : Nat) : Int).toNat - i * 6 = 6 from by omega, Nat.mul_one]
    conv => whnf
    rw [show (bdsOf l).take i ++ [bdAt l i] = (bdsOf l).take (i + 1) from by rw [List.take_succ_eq_append_getElem (by rw [bdsOf_len]; exact hlt), (List.getElem?_eq_some_iff.1 (bdsOf_at hlt)).2]] at hB' ⊢
    rw [show wrapS .i64 (((i * 6 : Nat) : Int) + 6) = (((i + 1) * 6 : Nat) : Int) by rw [wrapI (by omega) (by omega)]; omega]
    exact ⟨l.length / 6 - (i + 1), by omega, i + 1, news', _, rfl, by omega, .inr ⟨q', cp', rfl, hB'⟩, rfl⟩
  · have hin : i = l.length / 6 := by have := of_decide_eq_false h4; omega
    subst hin
    rw [show (bdsOf l).take (l.length / 6) = bdsOf l from by rw [← bdsOf_len, List.take_length]] at hV
    clear yieldB
    rcases hV with ⟨_, hnil⟩ | ⟨q, cp, rfl, hB⟩
    · have := bdsOf_len l
      rw [hnil] at this
      simp at this
      omega
    refine Exists.elim hB.at_ fun rest hqr => ?_
    have hcl := rowB_clean (l := bdsOf l) hqr.2.2
    subst hL
    refine And.intro rfl (fin_keep1 (h1 := [.pending c0 t0, .cells #[I64 x0, slc 6 0 (bdsOf l).length cp] 42, .cells #[slc 0 (off + 2) (l.length - 2) (cap - 2)] 43, .cells #[I64 6] 3, .deferred (some []), .loop _]) (m := q + 6) rfl (by show 6 ≤ q + 6; omega) hqr.1 hcl ?_ rfl ?_)
    · intro j o hj
      match j, hj with
      | 0, hj => cases hj; exact .inl ⟨rfl, rfl⟩
      | 1, hj => cases hj; exact .inr (told_slc2 (n := 6) rfl)
      | 2, hj => cases hj; exact .inl ⟨rfl, rfl⟩
      | 3, hj => cases hj; exact .inl ⟨rfl, rfl⟩
      | 4, hj => cases hj; exact .inl ⟨rfl, rfl⟩
      | 5, hj => cases hj; exact .inl ⟨rfl, rfl⟩
      | j + 6, hj => simp at hj
    conv => whnf
    repeat' first
      | (refine And.intro (Eq.refl true) ?_)
      | (refine And.intro rfl (And.intro (fun h => by cases h) ?_); conv => whnf)
      | (refine And.intro rfl (And.intro rfl ?_); conv => whnf)
      | (refine And.intro rfl ?_; conv => whnf)
    refine ac_mono (Right_s G x0 (l := bdsOf l) (.inr ⟨6, 0, cp, ⟨flatB (bdsOf l) ++ rest⟩, 56, rfl, .inr ⟨hcl, (0, 0), rfl⟩, winB_own, hB.le⟩) (by rw [bdsOf_len]; omega)) ?_
    rintro v h' ⟨rfl, rfl⟩
    conv => whnf
    refine ways (fun h5 => ?_) (fun h5 => ?_) <;> conv => whnf
    · refine And.intro rfl (fin_oneB 6 (c := ⟨flatB (bdsOf l) ++ rest⟩) (t := 56) (f := (0, 0)) ⟨[_, _, _, _, _, _], rfl⟩ (by simp) rfl hcl (u := .tuple #[.agg #[I64 x0, slc 1 0 (bdsOf l).length cp], I64 0]) ?_ rfl ?_)
      · simp [r3, r2, r1, r0, rA, tau]
      · refine .inr ⟨?_, ⟨flatB (bdsOf l) ++ rest⟩, cp, ?_, rfl, hcl, winB_own, hB.le⟩
        · unfold ofOk shapeOk
          rw [getD_some hx1, getD_some hx0, h5, decide_eq_true h8, decide_eq_true h62, decide_eq_true hn]
          rfl
        · rw [getD_some hx0]
    · refine And.intro rfl (fin_turnedK rfl ?_)
      conv => whnf
      refine .inl ⟨?_, rfl, rfl⟩
      unfold ofOk
      rw [getD_some hx0, h5, Bool.and_false]
end Go.Proofs.Ytjpjnjidchdlbaa
