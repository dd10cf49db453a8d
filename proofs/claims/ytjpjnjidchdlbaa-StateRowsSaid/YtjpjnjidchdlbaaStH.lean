/-
  state.Row (no condition).
-/
import Derived.Test.YtjpjnjidchdlbaaStG
namespace Go.Proofs.Ytjpjnjidchdlbaa
set_option linter.unusedSimpArgs false
set_option linter.unusedVariables false
open Go
set_option maxRecDepth 100000
set_option maxHeartbeats 4000000
theorem len4 {step : Int} {l : List Bd} (h : okState step l = true) : l.length ≤ 4 := by
  unfold okState at h
  simp only [Bool.and_eq_true, decide_eq_true_iff] at h
  omega
def rowN (step : Int) (n : Nat) (l : List Bd) : List Int := [step, (n : Int)] ++ l.flatMap numsB
def rowOf (step : Int) (l : List Bd) : List Int := rowN step l.length l
theorem rowN_next {step : Int} {n i : Nat} {l : List Bd} {x : Bd} (hx : l[i]? = some x) : rowN step n (l.take i) ++ (numsB x).take 6 = rowN step n (l.take (i + 1)) := by
  have hi : i < l.length := (List.getElem?_eq_some_iff.1 hx).1
  unfold rowN
  rw [List.take_succ_eq_append_getElem hi, (List.getElem?_eq_some_iff.1 hx).2, List.flatMap_append, List.append_assoc]
  simp
  rfl
theorem take_next {acc L : List Int} {k : Nat} {x : Int} (hx : L[k]? = some x) : acc ++ L.take k ++ [x] = acc ++ L.take (k + 1) := by
  have hi : k < L.length := (List.getElem?_eq_some_iff.1 hx).1
  rw [List.take_succ_eq_append_getElem hi, (List.getElem?_eq_some_iff.1 hx).2, List.append_assoc]
theorem numsB_len (b : Bd) : (numsB b).length = 6 := rfl
theorem rowN_len (step : Int) (n : Nat) (l : List Bd) : (rowN step n l).length = 2 + 6 * l.length := by
  unfold rowN
  rw [List.length_append, List.length_flatMap]
  have : l.map (fun a => (numsB a).length) = List.replicate l.length 6 := by
    rw [List.eq_replicate_iff]
    exact ⟨by simp, fun b hb => by obtain ⟨a, _, rfl⟩ := List.mem_map.1 hb; rfl⟩
  rw [this]
  simp
  omega
abbrev WB (M : Nat) : Obj := .cells #[slc M 0 3 3, slc M 3 3 3] 43
inductive J52 (A0 A1 A21 A22 A23 A24 A25 A26 : Value) (o0 o1 o2 o3 o4 o5 : Obj) (old : List Obj) (M : Nat) (b : Bd) (S : Nat → Bool) : St → Prop where
  | mk (x27 x28 x29 x30 x31 x32 x33 x34 : Value) (more : List Obj) (f0 : S 0 = true → x27 = ptr M 0) (f1 : S 1 = true → x28 = slc M 0 3 3) (f2 : S 2 = true → x29 = ptr M 3) (f3 : S 3 = true → x30 = slc M 3 3 3) (f4 : S 4 = true → x31 = slc (M + 1) 0 2 2)
    (f5 : S 5 = true → ∃ cp, x32 = slc (M + 2) 0 6 cp) (f6 : S 6 = true → x33 = I64 6) (f7 : S 7 = true → x34 = I64 0) (tl : List Obj) (htl : tl = old ++ more) (m4 : S 4 = false → more = []) (m5 : S 4 = true → S 5 = false → more = [WB M]) (s5 : S 5 = true → S 4 = true)
    (m6 : S 5 = true → ∃ c : Array Value, more = [WB M, .cells c 3] ∧ (∀ x ∈ c.toList, cleanV x = true) ∧ WinI c 0 (numsB b)) : J52 A0 A1 A21 A22 A23 A24 A25 A26 o0 o1 o2 o3 o4 o5 old M b S
      ⟨[[A0, A1, .chan none, .chan none, ptr M 0, .chan none, .chan none, .chan none, .chan none, .chan none, .chan none, .chan none, .chan none, .chan none, .chan none, .chan none],
      [.chan none, .chan none, .chan none, .chan none, .chan none, A21, A22, A23, A24, A25, A26, x27, x28, x29, x30, x31],
      [x32, x33, x34, .chan none, .chan none, .chan none, .chan none, .chan none, .chan none, .chan none, .chan none, .chan none]],
        o0 :: o1 :: o2 :: o3 :: o4 :: o5 :: tl, []⟩
theorem ad52 {G : List (Nat × Obj)} {ro : Option Nat} {ops : Array Oper} {A0 A1 A21 A22 A23 A24 A25 A26 : Value} {o0 o1 o2 o3 o4 o5 : Obj} {s : St} {K : St → Prop} (old : List Obj) (M : Nat) (b : Bd) (hm : Try.prog.follows .mixedOrders = true) (hlow : lowB ops.toList 0 = true) (hsz : ops.size = 8)
    (h0 : J52 A0 A1 A21 A22 A23 A24 A25 A26 o0 o1 o2 o3 o4 o5 old M b (fun _ => false) s) (hstep : stepsK Try.prog tab G ro ops.toList (J52 A0 A1 A21 A22 A23 A24 A25 A26 o0 o1 o2 o3 o4 o5 old M b) ops.toList 0)
    (h : ∀ (c : Array Value) (cp2 : Nat), (∀ x ∈ c.toList, cleanV x = true) → WinI c 0 (numsB b) → K ⟨[[A0, A1, .chan none, .chan none, ptr M 0, .chan none, .chan none, .chan none, .chan none, .chan none, .chan none, .chan none, .chan none, .chan none, .chan none, .chan none],
      [.chan none, .chan none, .chan none, .chan none, .chan none, A21, A22, A23, A24, A25, A26, ptr M 0, slc M 0 3 3, ptr M 3, slc M 3 3 3, slc (M + 1) 0 2 2],
      [slc (M + 2) 0 6 cp2, I64 6, I64 0, .chan none, .chan none, .chan none, .chan none, .chan none, .chan none, .chan none, .chan none, .chan none]],
        o0 :: o1 :: o2 :: o3 :: o4 :: o5 :: (old ++ [WB M, .cells c 3]), []⟩) : AD Try.prog G ro ops s K := by
  refine ad_inv tabOk hm hlow _ h0 hstep ?_
  rintro S s hall ⟨x27, x28, x29, x30, x31, x32, x33, x34, more, f0, f1, f2, f3, f4, f5, f6, f7, tl, htl, m4, m5, s5, m6⟩ _
  rw [hsz] at hall
  have z0 := f0 (hall 0 (by decide))
  have z1 := f1 (hall 1 (by decide))
  have z2 := f2 (hall 2 (by decide))
  have z3 := f3 (hall 3 (by decide))
  have z4 := f4 (hall 4 (by decide))
  have z6 := f6 (hall 6 (by decide))
  have z7 := f7 (hall 7 (by decide))
  obtain ⟨cp2, z5⟩ := f5 (hall 5 (by decide))
  obtain ⟨c, hm, hcl, hwc⟩ := m6 (hall 5 (by decide))
  subst z0 z1 z2 z3 z4 z5 z6 z7 hm htl
  exact h c cp2 hcl hwc
theorem no5 {b c : Bool} (h : c = true → b = true) (hb : b = false) : c = false := by
  cases c with
  | false => rfl
  | true => rw [h rfl] at hb; cases hb
theorem Row24_r (G) (step : Int) (c0 : Array Value) (t0 : TypeId) (off cap : Nat) (l : List Bd) (hw : WinB c0 off l) (hcap : l.length ≤ cap) (hl : l.length ≤ 1000000000000) (hok : okState step l = true) :
    AC Try.prog G 24 [.agg #[I64 step, slc 0 off l.length cap]] [.pending c0 t0] (fun v h => ∃ (c : Array Value) (cp : Nat), v = .tuple #[slc 1 0 (rowOf step l).length cp, I64 0] ∧ h = [.pending c0 t0, .cells c 3] ∧ (∀ x ∈ c.toList, cleanV x = true) ∧ WinI c 0 (rowOf step l) ∧ (rowOf step l).length ≤ cp) := by
  have h4 : l.length ≤ 4 := len4 hok
  refine ac_of_body tabOk has24 ?_
  unfold BodyOk
  conv => whnf
  refine ac_mono (Right_s G step (l := l) (h := [.pending c0 t0, .cells #[I64 step, slc 0 off l.length cap] 42]) (.inr ⟨0, off, cap, c0, t0, rfl, .inl rfl, hw, hcap⟩) hl) ?_
  rintro v h' ⟨rfl, rfl⟩
  conv => whnf
  rw [hok]
  conv => whnf
  refine ac_of_body tabOk has42 ?_
  unfold BodyOk
  conv => whnf
  refine ⟨rfl, fin_all [_, _] [_] rfl rfl rfl rfl rfl ?_⟩
  conv => whnf
  refine ac_of_body tabOk has41 ?_
  unfold BodyOk
  conv => whnf
  refine ac_of_body tabOk has51 ?_
  unfold BodyOk
  conv => whnf
  refine aw_rangeK tabOk ?_
  conv => whnf
  intro ln fn
  refine ac_loop fun L hL => ?_
  refine ac_of_body tabOk has52 ?_
  unfold BodyOk
  conv => whnf
  have yield1 : ∀ {o : Oper} {cl : Call} {f : Operand} {t : List (List Value)} {K : St → Prop} {xv : Int}, o.op = .call cl → cl.callee = .value f → evK ⟨t, (.pending c0 t0 :: .cells #[I64 step, slc 0 off l.length cap] 42 :: .cells #[I64 step, slc 0 off l.length cap] 42 :: .cells #[.slice none 0 0] 43 :: .deferred (some []) :: .loop L :: []), []⟩ f (fun v => v = .func (.yield ln) #[] #[]) → evsK ⟨t, (.pending c0 t0 :: .cells #[I64 step, slc 0 off l.length cap] 42 :: .cells #[I64 step, slc 0 off l.length cap] 42 :: .cells #[.slice none 0 0] 43 :: .deferred (some []) :: .loop L :: []), []⟩ cl.args.toList (fun vs => vs = [I64 xv]) →
      (∀ news' q' cp', AccI news' q' cp' [xv] → putK ⟨t, (.pending c0 t0 :: .cells #[I64 step, slc 0 off l.length cap] 42 :: .cells #[I64 step, slc 0 off l.length cap] 42 :: .cells #[slc (q' + 6) 0 1 cp'] 43 :: .deferred (some []) :: .loop L :: news'), []⟩ o.dst (.bool true) K) → AO Try.prog G none o ⟨t, (.pending c0 t0 :: .cells #[I64 step, slc 0 off l.length cap] 42 :: .cells #[I64 step, slc 0 off l.length cap] 42 :: .cells #[.slice none 0 0] 43 :: .deferred (some []) :: .loop L :: []), []⟩ K := by
    intro o cl f t K xv hop hcal hf hx hk
    obtain ⟨vs, rfl, hg⟩ := tr2_evs (L := fun _ => True) (s := ⟨t, (.pending c0 t0 :: .cells #[I64 step, slc 0 off l.length cap] 42 :: .cells #[I64 step, slc 0 off l.length cap] 42 :: .cells #[.slice none 0 0] 43 :: .deferred (some []) :: .loop L :: []), []⟩) (s' := ⟨t, (.pending c0 t0 :: .cells #[I64 step, slc 0 off l.length cap] 42 :: .cells #[I64 step, slc 0 off l.length cap] 42 :: .cells #[.slice none 0 0] 43 :: .deferred (some []) :: .loop L :: []), []⟩) ⟨fun _ _ _ h => h, fun _ _ h => h⟩ cl.args.toList (fun _ _ => trivial) _ hx
    refine ao_yieldK 5 1 hop hcal hf (hg _ ?_)
    subst hL
    conv => whnf
    repeat' first
      | (refine run_ok tabOk _ _ _ ?_; conv => whnf)
      | (refine And.intro rfl (And.intro rfl ?_); conv => whnf)
      | (refine And.intro rfl ?_; conv => whnf)
    refine ao_grow (lx := 0) (cx := 0) (ly := 1) (olds := []) (news := [I64 xv]) (px := none) (vx := .slice none 0 0) (vy := slc 6 0 1 1) (i := ti43) (j := ti3) (e := 3) tabOk rfl (by (conv => whnf) <;> rfl) (by (conv => whnf) <;> rfl) rfl rfl rfl rfl rfl rfl (.nil 0) (.row (ob := .cells ⟨[I64 xv]⟩ 3) rfl (row6 (k := 0) (fun j x hj => hj)) rfl (by simp [cleanV])) (by decide) (by decide) (by decide) ?_
    intro cp hcp
    conv => whnf
    repeat' first
      | (refine run_ok tabOk _ _ _ ?_; conv => whnf)
      | (refine And.intro rfl (And.intro rfl ?_); conv => whnf)
      | (refine And.intro rfl ?_; conv => whnf)
    exact hk [.cells ⟨[I64 xv]⟩ 3, .cells ⟨[xv].map I64 ++ (Builtin.zeroCells ti3.zero.cells (cp - (0 + 1))).toList⟩ 3] 1 cp ⟨by simp, _, rfl, by rw [zeros_len]; show 1 + (cp - (0 + 1)) * 1 = cp; omega, zeros_cleanB ti3.zero.cells rfl _⟩
  have yieldN : ∀ {o : Oper} {cl : Call} {f : Operand} {t : List (List Value)} {K : St → Prop} {xv : Int} {news : List Obj} {q cp : Nat} {acc : List Int}, o.op = .call cl → cl.callee = .value f → evK ⟨t, (.pending c0 t0 :: .cells #[I64 step, slc 0 off l.length cap] 42 :: .cells #[I64 step, slc 0 off l.length cap] 42 :: .cells #[slc (q + 6) 0 acc.length cp] 43 :: .deferred (some []) :: .loop L :: news), []⟩ f (fun v => v = .func (.yield ln) #[] #[]) → evsK ⟨t, (.pending c0 t0 :: .cells #[I64 step, slc 0 off l.length cap] 42 :: .cells #[I64 step, slc 0 off l.length cap] 42 :: .cells #[slc (q + 6) 0 acc.length cp] 43 :: .deferred (some []) :: .loop L :: news), []⟩ cl.args.toList (fun vs => vs = [I64 xv]) → AccI news q cp acc → acc.length ≤ 1000000000000 →
      (∀ news' q' cp', AccI news' q' cp' (acc ++ [xv]) → (∀ (j : Nat) (ob : Obj), j ≠ q → news[j]? = some ob → news'[j]? = some ob ∧ j ≠ q') → putK ⟨t, (.pending c0 t0 :: .cells #[I64 step, slc 0 off l.length cap] 42 :: .cells #[I64 step, slc 0 off l.length cap] 42 :: .cells #[slc (q' + 6) 0 (acc ++ [xv]).length cp'] 43 :: .deferred (some []) :: .loop L :: news'), []⟩ o.dst (.bool true) K) → AO Try.prog G none o ⟨t, (.pending c0 t0 :: .cells #[I64 step, slc 0 off l.length cap] 42 :: .cells #[I64 step, slc 0 off l.length cap] 42 :: .cells #[slc (q + 6) 0 acc.length cp] 43 :: .deferred (some []) :: .loop L :: news), []⟩ K := by
    intro o cl f t K xv news q cp acc hop hcal hf hx hA hb hk
    obtain ⟨vs, rfl, hg⟩ := tr2_evs (L := fun _ => True) (s := ⟨t, (.pending c0 t0 :: .cells #[I64 step, slc 0 off l.length cap] 42 :: .cells #[I64 step, slc 0 off l.length cap] 42 :: .cells #[slc (q + 6) 0 acc.length cp] 43 :: .deferred (some []) :: .loop L :: news), []⟩) (s' := ⟨t, (.pending c0 t0 :: .cells #[I64 step, slc 0 off l.length cap] 42 :: .cells #[I64 step, slc 0 off l.length cap] 42 :: .cells #[slc (q + 6) 0 acc.length cp] 43 :: .deferred (some []) :: .loop L :: news), []⟩) ⟨fun _ _ _ h => h, fun _ _ h => h⟩ cl.args.toList (fun _ _ => trivial) _ hx
    refine ao_yieldK 5 1 hop hcal hf (hg _ ?_)
    subst hL
    conv => whnf
    repeat' first
      | (refine run_ok tabOk _ _ _ ?_; conv => whnf)
      | (refine And.intro rfl (And.intro rfl ?_); conv => whnf)
      | (refine And.intro rfl ?_; conv => whnf)
    refine cnt_of ?_
    conv => whnf
    refine app_of ?_
    conv => whnf
    repeat' first
      | (refine run_ok tabOk _ _ _ ?_; conv => whnf)
      | (refine And.intro rfl (And.intro rfl ?_); conv => whnf)
      | (refine And.intro rfl ?_; conv => whnf)
    refine ao_pushI (m := 6) rfl [_, _, _, _, _, _] rfl hA (xv := xv) rfl (by (conv => whnf) <;> rfl) (by (conv => whnf) <;> rfl) hb ?_
    intro news' q' cp' hA' hk'
    conv => whnf
    repeat' first
      | (refine run_ok tabOk _ _ _ ?_; conv => whnf)
      | (refine And.intro rfl (And.intro rfl ?_); conv => whnf)
      | (refine And.intro rfl ?_; conv => whnf)
    exact hk news' q' cp' hA' hk'
  refine yield1 rfl rfl (by (conv => whnf) <;> rfl) (by (conv => whnf) <;> rfl) fun news q cp hA => ?_
  conv => whnf
  refine yieldN rfl rfl (by (conv => whnf) <;> rfl) (by (conv => whnf) <;> rfl) hA (by simp) fun news q cp hA hK => ?_
  clear hK yield1
  conv => whnf
  refine aw_inv tabOk [[true, true, false, false, false, false, false, false, false, false, false, false, false, false, false, false], [false, false, false, false, false, true, true, true, false, false, false, false, false, false, false, false], [false, false, false, false, false, false, false, false, false, false, false, false]] (fun m s' => ∃ (i : Nat) (news : List Obj) (q cp : Nat), m = l.length - i ∧ i ≤ l.length ∧ AccI news q cp (rowN step l.length (l.take i)) ∧
    s' = ⟨[[.func (.yield ln) #[] #[], ptr 2 0, .chan none, .chan none, .chan none, .chan none, .chan none, .chan none, .chan none, .chan none, .chan none, .chan none, .chan none, .chan none, .chan none, .chan none],
      [.chan none, .chan none, .chan none, .chan none, .chan none, slc 0 off l.length cap, I64 (l.length : Int), I64 (i : Int), .chan none, .chan none, .chan none, .chan none, .chan none, .chan none, .chan none, .chan none],
      [.chan none, .chan none, .chan none, .chan none, .chan none, .chan none, .chan none, .chan none, .chan none, .chan none, .chan none, .chan none]], (.pending c0 t0 :: .cells #[I64 step, slc 0 off l.length cap] 42 :: .cells #[I64 step, slc 0 off l.length cap] 42 :: .cells #[slc (q + 6) 0 (rowN step l.length (l.take i)).length cp] 43 :: .deferred (some []) :: .loop L :: news), []⟩) l.length ?_ ⟨0, news, q, cp, rfl, Nat.zero_le _, hA, rfl⟩
  clear hA
  rintro m s' ⟨i, news, q, cp, rfl, hi, hA, rfl⟩
  conv => whnf
  refine ways (fun h2 => ?_) (fun h2 => ?_) <;> conv => whnf
  · have hlt : i < l.length := by have := of_decide_eq_true h2; omega
    refine exk hlt fun x hx => ?_
    refine way1 (by rw [decide_eq_true_iff]; omega) ?_
    conv => whnf
    refine hw.body hx ?_
    conv => whnf
    refine cnt_of ?_
    conv => whnf
    refine app_of ?_
    conv => whnf
    refine nthK_of (get_last _ _) ?_
    conv => whnf
    refine set_ofL ?_
    conv => whnf
    refine ad52 (A0 := ?A0) (A1 := ?A1) (A21 := ?A21) (A22 := ?A22) (A23 := ?A23) (A24 := ?A24) (A25 := ?A25) (A26 := ?A26) (o0 := ?o0) (o1 := ?o1) (o2 := ?o2) (o3 := ?o3) (o4 := ?o4) (o5 := ?o5) (news ++ [.cells ⟨x.cells⟩ 56]) (news.length + 6) x (by kernel_rfl) (by kernel_rfl) rfl ?h0 ?h1 ?h2
    case h0 => exact J52.mk (S := fun _ => false) (.chan none) (.chan none) (.chan none) (.chan none) (.chan none) (.chan none) (.chan none) (.chan none) [] (fun h => absurd h Bool.false_ne_true) (fun h => absurd h Bool.false_ne_true) (fun h => absurd h Bool.false_ne_true) (fun h => absurd h Bool.false_ne_true) (fun h => absurd h Bool.false_ne_true) (fun h => absurd h Bool.false_ne_true) (fun h => absurd h Bool.false_ne_true) (fun h => absurd h Bool.false_ne_true) _ (List.append_nil _).symm (fun _ => rfl) (fun h => absurd h Bool.false_ne_true) (fun h => absurd h Bool.false_ne_true) (fun h => absurd h Bool.false_ne_true)
    case h1 =>
      conv => whnf
      refine ⟨?_, ?_⟩
      · rintro S s ⟨x27, x28, x29, x30, x31, x32, x33, x34, more, f0, f1, f2, f3, f4, f5, f6, f7, tl, htl, m4, m5, s5, m6⟩ hS hp
        conv => whnf
        exact J52.mk (S := fun j => S j || Nat.beq j 0) (ptr (news.length + 6) 0) x28 x29 x30 x31 x32 x33 x34 more (fun _ => rfl) (fun h => f1 (orF rfl h)) (fun h => f2 (orF rfl h)) (fun h => f3 (orF rfl h)) (fun h => f4 (orF rfl h)) (fun h => f5 (orF rfl h)) (fun h => f6 (orF rfl h)) (fun h => f7 (orF rfl h)) tl htl (fun h => m4 (orN rfl h)) (fun h h2 => m5 (orF rfl h) (orN rfl h2)) (fun h => orL (s5 (orF rfl h))) (fun h => m6 (orF rfl h))
      conv => whnf
      refine ⟨?_, ?_⟩
      · rintro S s ⟨x27, x28, x29, x30, x31, x32, x33, x34, more, f0, f1, f2, f3, f4, f5, f6, f7, tl, htl, m4, m5, s5, m6⟩ hS hp
        have z0 := f0 (hp 0 (by decide))
        subst z0
        conv => whnf
        exact J52.mk (S := fun j => S j || Nat.beq j 1) (ptr (news.length + 6) 0) (slc (news.length + 6) 0 3 3) x29 x30 x31 x32 x33 x34 more (fun h => f0 (orF rfl h)) (fun _ => rfl) (fun h => f2 (orF rfl h)) (fun h => f3 (orF rfl h)) (fun h => f4 (orF rfl h)) (fun h => f5 (orF rfl h)) (fun h => f6 (orF rfl h)) (fun h => f7 (orF rfl h)) tl htl (fun h => m4 (orN rfl h)) (fun h h2 => m5 (orF rfl h) (orN rfl h2)) (fun h => orL (s5 (orF rfl h))) (fun h => m6 (orF rfl h))
      conv => whnf
      refine ⟨?_, ?_⟩
      · rintro S s ⟨x27, x28, x29, x30, x31, x32, x33, x34, more, f0, f1, f2, f3, f4, f5, f6, f7, tl, htl, m4, m5, s5, m6⟩ hS hp
        conv => whnf
        exact J52.mk (S := fun j => S j || Nat.beq j 2) x27 x28 (ptr (news.length + 6) 3) x30 x31 x32 x33 x34 more (fun h => f0 (orF rfl h)) (fun h => f1 (orF rfl h)) (fun _ => rfl) (fun h => f3 (orF rfl h)) (fun h => f4 (orF rfl h)) (fun h => f5 (orF rfl h)) (fun h => f6 (orF rfl h)) (fun h => f7 (orF rfl h)) tl htl (fun h => m4 (orN rfl h)) (fun h h2 => m5 (orF rfl h) (orN rfl h2)) (fun h => orL (s5 (orF rfl h))) (fun h => m6 (orF rfl h))
      conv => whnf
      refine ⟨?_, ?_⟩
      · rintro S s ⟨x27, x28, x29, x30, x31, x32, x33, x34, more, f0, f1, f2, f3, f4, f5, f6, f7, tl, htl, m4, m5, s5, m6⟩ hS hp
        have z2 := f2 (hp 2 (by decide))
        subst z2
        conv => whnf
        exact J52.mk (S := fun j => S j || Nat.beq j 3) x27 x28 (ptr (news.length + 6) 3) (slc (news.length + 6) 3 3 3) x31 x32 x33 x34 more (fun h => f0 (orF rfl h)) (fun h => f1 (orF rfl h)) (fun h => f2 (orF rfl h)) (fun _ => rfl) (fun h => f4 (orF rfl h)) (fun h => f5 (orF rfl h)) (fun h => f6 (orF rfl h)) (fun h => f7 (orF rfl h)) tl htl (fun h => m4 (orN rfl h)) (fun h h2 => m5 (orF rfl h) (orN rfl h2)) (fun h => orL (s5 (orF rfl h))) (fun h => m6 (orF rfl h))
      conv => whnf
      refine ⟨?_, ?_⟩
      · rintro S s ⟨x27, x28, x29, x30, x31, x32, x33, x34, more, f0, f1, f2, f3, f4, f5, f6, f7, tl, htl, m4, m5, s5, m6⟩ hS hp
        have z1 := f1 (hp 1 (by decide))
        subst z1
        have z3 := f3 (hp 3 (by decide))
        subst z3
        have hm := m4 hS
        subst hm
        have h5 : S 5 = false := no5 s5 hS
        conv => whnf
        refine cnt_of ?_
        conv => whnf
        refine app_of ?_
        conv => whnf
        have hM2 : tl.length + 6 = (news.length + 6) + 1 := by rw [htl, List.length_append, List.length_append]; show news.length + 1 + 0 + 6 = news.length + 6 + 1; omega
        exact J52.mk (S := fun j => S j || Nat.beq j 4) x27 (slc (news.length + 6) 0 3 3) x29 (slc (news.length + 6) 3 3 3) (slc (tl.length + 6) 0 2 2) x32 x33 x34 [WB (news.length + 6)] (fun h => f0 (orF rfl h)) (fun h => f1 (orF rfl h)) (fun h => f2 (orF rfl h)) (fun h => f3 (orF rfl h)) (fun _ => by rw [hM2]) (fun h => f5 (orF rfl h)) (fun h => f6 (orF rfl h)) (fun h => f7 (orF rfl h)) (tl ++ [WB (news.length + 6)]) (by rw [htl]; simp) (fun h => (noT (Bool.or_true _) h).elim) (fun _ _ => rfl) (fun _ => Bool.or_true _) (fun h => by rw [orF rfl h] at h5; cases h5)
      conv => whnf
      refine ⟨?_, ?_⟩
      · rintro S s ⟨x27, x28, x29, x30, x31, x32, x33, x34, more, f0, f1, f2, f3, f4, f5, f6, f7, tl, htl, m4, m5, s5, m6⟩ hS hp
        have z4 := f4 (hp 4 (by decide))
        subst z4
        have hm := m5 (hp 4 (by decide)) hS
        subst hm
        have hN : ((.pending c0 t0) :: (.cells #[I64 step, slc 0 off l.length cap] 42) :: (.cells #[I64 step, slc 0 off l.length cap] 42) :: (.cells #[slc (q + 6) 0 (rowN step l.length (l.take i)).length cp] 43) :: (.deferred (some [])) :: (.loop L) :: tl : List Obj).length = (news.length + 6) + 2 := by rw [htl]; simp only [List.length_cons, List.length_append, List.length_nil]
        have hB : ((.pending c0 t0) :: (.cells #[I64 step, slc 0 off l.length cap] 42) :: (.cells #[I64 step, slc 0 off l.length cap] 42) :: (.cells #[slc (q + 6) 0 (rowN step l.length (l.take i)).length cp] 43) :: (.deferred (some [])) :: (.loop L) :: tl : List Obj)[(news.length + 6)]? = some (.cells ⟨x.cells⟩ 56) := by show tl[news.length]? = _; rw [htl]; exact getL (get_last _ _)
        have hW : ((.pending c0 t0) :: (.cells #[I64 step, slc 0 off l.length cap] 42) :: (.cells #[I64 step, slc 0 off l.length cap] 42) :: (.cells #[slc (q + 6) 0 (rowN step l.length (l.take i)).length cp] 43) :: (.deferred (some [])) :: (.loop L) :: tl : List Obj)[(news.length + 6) + 1]? = some (WB (news.length + 6)) := by show tl[news.length + 1]? = _; rw [htl, List.getElem?_append_right (by simp)]; simp
        conv => whnf
        refine ac_mono (Concat_s G x hN hB hW) ?_
        rintro v h' ⟨c, cp2, rfl, rfl, q1, q2⟩
        conv => whnf
        exact J52.mk (S := fun j => S j || Nat.beq j 5) x27 x28 x29 x30 (slc ((news.length + 6) + 1) 0 2 2) (slc ((news.length + 6) + 2) 0 6 cp2) x33 x34 [WB (news.length + 6), .cells c 3] (fun h => f0 (orF rfl h)) (fun h => f1 (orF rfl h)) (fun h => f2 (orF rfl h)) (fun h => f3 (orF rfl h)) (fun h => f4 (orF rfl h)) (fun _ => ⟨cp2, rfl⟩) (fun h => f6 (orF rfl h)) (fun h => f7 (orF rfl h)) (tl ++ [.cells c 3]) (by rw [htl, List.append_assoc]; rfl) (fun h => by have h4 := orN rfl h; rw [hp 4 (by decide)] at h4; cases h4) (fun _ h => (noT (Bool.or_true _) h).elim) (fun _ => orL (hp 4 (by decide))) (fun _ => ⟨c, rfl, q1, q2⟩)
      conv => whnf
      refine ⟨?_, ?_⟩
      · rintro S s ⟨x27, x28, x29, x30, x31, x32, x33, x34, more, f0, f1, f2, f3, f4, f5, f6, f7, tl, htl, m4, m5, s5, m6⟩ hS hp
        obtain ⟨cp2, z5⟩ := f5 (hp 5 (by decide))
        subst z5
        conv => whnf
        exact J52.mk (S := fun j => S j || Nat.beq j 6) x27 x28 x29 x30 x31 (slc ((news.length + 6) + 2) 0 6 cp2) (I64 6) x34 more (fun h => f0 (orF rfl h)) (fun h => f1 (orF rfl h)) (fun h => f2 (orF rfl h)) (fun h => f3 (orF rfl h)) (fun h => f4 (orF rfl h)) (fun h => f5 (orF rfl h)) (fun _ => rfl) (fun h => f7 (orF rfl h)) tl htl (fun h => m4 (orN rfl h)) (fun h h2 => m5 (orF rfl h) (orN rfl h2)) (fun h => orL (s5 (orF rfl h))) (fun h => m6 (orF rfl h))
      conv => whnf
      refine ⟨?_, ?_⟩
      · rintro S s ⟨x27, x28, x29, x30, x31, x32, x33, x34, more, f0, f1, f2, f3, f4, f5, f6, f7, tl, htl, m4, m5, s5, m6⟩ hS hp
        conv => whnf
        exact J52.mk (S := fun j => S j || Nat.beq j 7) x27 x28 x29 x30 x31 x32 x33 (I64 0) more (fun h => f0 (orF rfl h)) (fun h => f1 (orF rfl h)) (fun h => f2 (orF rfl h)) (fun h => f3 (orF rfl h)) (fun h => f4 (orF rfl h)) (fun h => f5 (orF rfl h)) (fun h => f6 (orF rfl h)) (fun _ => rfl) tl htl (fun h => m4 (orN rfl h)) (fun h h2 => m5 (orF rfl h) (orN rfl h2)) (fun h => orL (s5 (orF rfl h))) (fun h => m6 (orF rfl h))
      conv => whnf
      trivial
    intro c cp2 hcl hwc
    conv => whnf
    refine aw_inv tabOk [[true, true, false, false, false, false, false, false, false, false, false, false, false, false, false, false], [false, false, false, false, false, true, true, true, false, false, false, false, false, false, false, false], [true, true, true, false, false, false, false, false, false, false, false, false]] (fun m s' => ∃ (k : Nat) (news2 : List Obj) (q2 cp3 : Nat), m = 6 - k ∧ k ≤ 6 ∧ AccI news2 q2 cp3 (rowN step l.length (l.take i) ++ (numsB x).take k) ∧ news2[news.length + 2]? = some (.cells c 3) ∧ news.length + 2 ≠ q2 ∧
      s' = ⟨[[.func (.yield ln) #[] #[], ptr 2 0, .chan none, .chan none, .chan none, .chan none, .chan none, .chan none, .chan none, .chan none, .chan none, .chan none, .chan none, .chan none, .chan none, .chan none],
      [.chan none, .chan none, .chan none, .chan none, .chan none, slc 0 off l.length cap, I64 (l.length : Int), I64 (i : Int), .chan none, .chan none, .chan none, .chan none, .chan none, .chan none, .chan none, .chan none],
      [slc (news.length + 6 + 2) 0 6 cp2, I64 6, I64 (k : Int), .chan none, .chan none, .chan none, .chan none, .chan none, .chan none, .chan none, .chan none, .chan none]], (.pending c0 t0 :: .cells #[I64 step, slc 0 off l.length cap] 42 :: .cells #[I64 step, slc 0 off l.length cap] 42 :: .cells #[slc (q2 + 6) 0 (rowN step l.length (l.take i) ++ (numsB x).take k).length cp3] 43 :: .deferred (some []) :: .loop L :: news2), []⟩) 6 ?_ ⟨0, news ++ [.cells ⟨x.cells⟩ 56] ++ [WB (news.length + 6), .cells c 3], q, cp, rfl, Nat.zero_le _, ?_, ?_, ?_, ?_⟩
    rotate_left
    · rw [List.take_zero, List.append_nil]
      exact (hA.app _).app _
    · rw [List.append_assoc, List.getElem?_append_right (by omega), Nat.add_sub_cancel_left]
      rfl
    · have := hA.lt
      omega
    · rw [List.take_zero, List.append_nil]
      rfl
    rintro m s' ⟨k, news2, q2, cp3, rfl, hk, hA2, hblk, hne, rfl⟩
    conv => whnf
    refine ways (fun h3 => ?_) (fun h3 => ?_) <;> conv => whnf
    · have hk6 : k < 6 := by have := of_decide_eq_true h3; omega
      refine exk (l := numsB x) (i := k) hk6 fun y hy => ?_
      refine way1 (by rw [decide_eq_true_iff]; omega) ?_
      conv => whnf
      refine nthK_of hblk ?_
      conv => whnf
      refine nthK_of (l := c.toList) (hwc.at hy) ?_
      conv => whnf
      refine yieldN rfl rfl (by (conv => whnf) <;> rfl) (by (conv => whnf) <;> rfl) hA2 (by rw [List.length_append, rowN_len, List.length_take, List.length_take]; omega) fun news3 q3 cp4 hA3 hK3 => ?_
      conv => whnf
      obtain ⟨hb3, hn3⟩ := hK3 _ _ hne hblk
      rw [take_next hy] at hA3
      rw [take_next hy, show wrapS .i64 ((k : Int) + 1) = ((k + 1 : Nat) : Int) by rw [wrapI (by omega) (by omega)]; omega]
      exact ⟨6 - (k + 1), by omega, k + 1, news3, q3, cp4, rfl, by omega, hA3, hb3, hn3, rfl⟩
    · have hk6 : k = 6 := by have := of_decide_eq_false h3; omega
      subst hk6
      rw [rowN_next hx] at hA2
      rw [rowN_next hx, show wrapS .i64 ((i : Int) + 1) = ((i + 1 : Nat) : Int) by rw [wrapI (by omega) (by omega)]; omega]
      exact ⟨l.length - (i + 1), by omega, i + 1, news2, q2, cp3, rfl, by omega, hA2, rfl⟩
  · have hin : i = l.length := by have := of_decide_eq_false h2; omega
    subst hin
    refine Exists.elim hA.at_ fun rest hqr => ?_
    subst hL
    refine And.intro rfl (fin_keep1 (h1 := [.pending c0 t0, .cells #[I64 step, slc 0 off l.length cap] 42, .cells #[I64 step, slc 0 off l.length cap] 42, .cells #[slc 6 0 (rowN step l.length (l.take l.length)).length cp] 43, .deferred (some []), .loop _]) (m := q + 6) rfl (by show 6 ≤ q + 6; omega) hqr.1 (rowI_clean hqr.2) ?_ rfl ?_)
    · intro j o hj
      match j, hj with
      | 0, hj => cases hj; exact .inl ⟨rfl, rfl⟩
      | 1, hj => cases hj; exact .inl ⟨rfl, rfl⟩
      | 2, hj => cases hj; exact .inl ⟨rfl, rfl⟩
      | 3, hj => cases hj; exact .inr (told_slc (n := 6) rfl)
      | 4, hj => cases hj; exact .inl ⟨rfl, rfl⟩
      | 5, hj => cases hj; exact .inl ⟨rfl, rfl⟩
      | j + 6, hj => simp at hj
    clear yieldN
    conv => whnf
    repeat' first
      | (refine And.intro (Eq.refl true) ?_)
      | (refine And.intro rfl (And.intro (fun h => by cases h) ?_); conv => whnf)
      | (refine And.intro rfl (And.intro rfl ?_); conv => whnf)
      | (refine And.intro rfl ?_; conv => whnf)
    refine fin_oneB 6 (c := ⟨(rowN step l.length (l.take l.length)).map I64 ++ rest⟩) (t := 3) (f := (0, 0)) ⟨[_, _, _, _], rfl⟩ (by simp) rfl (rowI_clean hqr.2) (u := slc 3 0 (rowN step l.length (l.take l.length)).length cp) rfl rfl ?_
    conv => whnf
    refine And.intro rfl (fin_oneB 3 (c := ⟨(rowN step l.length (l.take l.length)).map I64 ++ rest⟩) (t := 3) (f := (0, 0)) ⟨[_], rfl⟩ (by simp) rfl (rowI_clean hqr.2) (u := slc 3 0 (rowN step l.length (l.take l.length)).length cp) rfl rfl ?_)
    conv => whnf
    refine And.intro rfl (fin_oneB 3 (c := ⟨(rowN step l.length (l.take l.length)).map I64 ++ rest⟩) (t := 3) (f := (0, 0)) ⟨[_, _, _], rfl⟩ (by simp) rfl (rowI_clean hqr.2) (u := .tuple #[slc 1 0 (rowN step l.length (l.take l.length)).length cp, I64 0]) ?_ rfl ?_)
    · simp [r3, r2, r1, r0, rA, tau]
    · rw [List.take_length] at hqr ⊢
      exact ⟨_, cp, rfl, rfl, rowI_clean hqr.2, winI_own, by have := hqr.2.1; unfold rowOf; omega⟩
end Go.Proofs.Ytjpjnjidchdlbaa
