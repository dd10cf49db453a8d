/-
  Regions that draw their order, joined with the machine: what one order computes, every order computes.
-/
import Derived.Test.YtjpjnjidchdlbaaDoorEngP
namespace Go.Proofs.YtjpjnjidchdlbaaDoor
set_option linter.unusedSimpArgs false
set_option linter.unusedVariables false
open Go Go.RowKit

section
variable {P : Program} {G : List (Nat × Obj)} {T : Tab} {ops : Array Oper} {h0 : List Obj} {ro : Option Nat} {F : List Nat}
theorem form_cases (o : Oper) : form F o = 0 ∨ form F o = 1 ∨ form F o = 2 ∨ form F o = 4 ∨ form F o = 3 ∨ form F o = 5 ∨ form F o = 6 := by
  unfold form
  cases o.op <;> first | exact .inl rfl | exact .inr (.inl rfl) | exact .inr (.inr (.inr (.inr (.inl rfl)))) | skip
  · simp only []
    cases freshB F o.dst
    · exact .inl rfl
    · exact .inr (.inr (.inr (.inr (.inr (.inl rfl)))))
  · simp only []
    cases freshB F o.dst
    · exact .inl rfl
    · exact .inr (.inr (.inr (.inr (.inr (.inl rfl)))))
  rename_i c
  obtain ⟨c, _, _⟩ := c
  cases c <;> first | exact .inl rfl | skip
  simp only []
  cases freshB F o.dst
  · simp only []
    cases freshB F (o.dst.map (· + 1000))
    · exact .inr (.inr (.inl rfl))
    · exact .inr (.inr (.inr (.inr (.inr (.inr rfl)))))
  · exact .inr (.inr (.inr (.inl rfl)))
theorem gd_forms {o : Oper} {s : St} {K : St → Prop} (h : GD P T G F h0 ops s o K) :
    FA (fun s K => GD P T G F h0 ops s o K) ops o s K ∨ (form F o = 1 ∧ FC (fun s K => GD P T G F h0 ops s o K) ops o s K) ∨ (form F o = 2 ∧ FB P G h0 (fun s K => GD P T G F h0 ops s o K) ops o s K) ∨ (form F o = 4 ∧ FD P G h0 (fun s K => GD P T G F h0 ops s o K) ops o s K) ∨ (form F o = 3 ∧ FW (fun s K => GD P T G F h0 ops s o K) ops o s K) ∨ (form F o = 5 ∧ FE (fun s K => GD P T G F h0 ops s o K) ops o s K) ∨ (form F o = 6 ∧ FG P G (fun s K => GD P T G F h0 ops s o K) ops o s K) := by
  obtain ⟨h1, h2, h3, h5, h4, h6, h7⟩ := gd_form h
  rcases form_cases (F := F) o with e | e | e | e | e | e | e
  · exact .inl (h1 e)
  · rcases h2 e with h | h
    · exact .inl h
    · exact .inr (.inl ⟨e, h⟩)
  · rcases h3 e with h | h
    · exact .inl h
    · exact .inr (.inr (.inl ⟨e, h⟩))
  · rcases h5 e with h | h
    · exact .inl h
    · exact .inr (.inr (.inr (.inl ⟨e, h⟩)))
  · rcases h4 e with h | h
    · exact .inl h
    · exact .inr (.inr (.inr (.inr (.inl ⟨e, h⟩))))
  · rcases h6 e with h | h
    · exact .inl h
    · exact .inr (.inr (.inr (.inr (.inr (.inl ⟨e, h⟩)))))
  · rcases h7 e with h | h
    · exact .inl h
    · exact .inr (.inr (.inr (.inr (.inr (.inr ⟨e, h⟩)))))
theorem gd_mono {o : Oper} {s : St} {K K' : St → Prop} (hk : ∀ s, K s → K' s) (h : GD P T G F h0 ops s o K) : GD P T G F h0 ops s o K' := by
  rcases gd_forms h with ⟨v, f, k, g⟩ | ⟨_, b, p, f, k, g⟩ | ⟨_, n, all, k, g⟩ | ⟨_, n, all, k, g⟩ | ⟨_, h', f, k, g⟩ | ⟨_, v, f, k, g⟩ | ⟨_, n, all, k, g⟩
  · exact g s K' (fun _ _ _ h => h) f (hk _ k)
  · exact g s K' (fun _ _ _ h => h) f (hk _ k)
  · exact g s K' (fun _ _ _ h => h) (k.mono fun v hc q => ⟨q.1, hk _ q.2⟩)
  · exact g s K' (fun _ _ _ h => h) (k.mono fun ob p q => ⟨q.1, hk _ q.2⟩)
  · exact g s K' (fun _ _ _ h => h) rfl f (hk _ k)
  · exact g s K' (fun _ _ _ h => h) rfl f (hk _ k)
  · exact g s K' (fun _ _ _ h => h) rfl (ac_mono k fun v h' q => ⟨q.1, q.2.1, q.2.2.1, hk _ q.2.2.2⟩)
theorem gd_swap {k i : Oper} {s : St} {K : St → Prop} (hap : k.apart ops i = true) (hf : swF (form F k) (form F i) = true)
    (h : GD P T G F h0 ops s k (fun s1 => GD P T G F h0 ops s1 i K)) : GD P T G F h0 ops s i (fun s1 => GD P T G F h0 ops s1 k K) := by
  have va : FA (fun s K => GD P T G F h0 ops s k K) ops k s (fun s1 => GD P T G F h0 ops s1 i K) → GD P T G F h0 ops s i (fun s1 => GD P T G F h0 ops s1 k K) := fun h => by
    refine swap_a (P := P) (G := G) (h0 := h0) (X := fun s K => GD P T G F h0 ops s k K) (Y := fun s K => GD P T G F h0 ops s i K) hap h fun s1 hs => ?_
    rcases gd_forms hs with h | ⟨_, h⟩ | ⟨_, h⟩ | ⟨_, h⟩ | ⟨_, h⟩ | ⟨_, h⟩ | ⟨_, h⟩
    · exact .inl h
    · exact .inr (.inr (.inl h))
    · exact .inr (.inl h)
    · exact .inr (.inr (.inr (.inr (.inl h))))
    · exact .inr (.inr (.inr (.inl h)))
    · exact .inr (.inr (.inr (.inr (.inr (.inl h)))))
    · exact .inr (.inr (.inr (.inr (.inr (.inr h)))))
  rcases gd_forms h with h | ⟨e, h⟩ | ⟨e, _⟩ | ⟨e, _⟩ | ⟨e, _⟩ | ⟨e, h⟩ | ⟨e, _⟩
  · exact va h
  · refine swap_x (P := P) (G := G) (h0 := h0) (X := fun s K => GD P T G F h0 ops s k K) (Y := fun s K => GD P T G F h0 ops s i K) hap (.inr h) fun s1 hs => ?_
    rw [e] at hf
    rcases gd_forms hs with h | ⟨e, _⟩ | ⟨_, h⟩ | ⟨e, h⟩ | ⟨e, _⟩ | ⟨e, _⟩ | ⟨e, _⟩
    · exact .inl h
    · rw [e] at hf; cases hf
    · exact .inr h
    · rw [e] at hf; cases hf
    · rw [e] at hf; cases hf
    · rw [e] at hf; cases hf
    · rw [e] at hf; cases hf
  · rw [e] at hf; cases hf
  · rw [e] at hf; cases hf
  · rw [e] at hf; cases hf
  · refine swap_e (P := P) (G := G) (h0 := h0) (X := fun s K => GD P T G F h0 ops s k K) (Y := fun s K => GD P T G F h0 ops s i K) hap h fun s1 hs => ?_
    rw [e] at hf
    rcases gd_forms hs with h | ⟨e, _⟩ | ⟨_, h⟩ | ⟨e, h⟩ | ⟨e, _⟩ | ⟨e, _⟩ | ⟨e, _⟩
    · exact .inl h
    · rw [e] at hf; cases hf
    · exact .inr h
    · rw [e] at hf; cases hf
    · rw [e] at hf; cases hf
    · rw [e] at hf; cases hf
    · rw [e] at hf; cases hf
  · rw [e] at hf; cases hf
/-! ## What lay at the region's start lies -/
theorem dop_op (hT : TabOk P T) {o : Oper} {s : St} {K : St → Prop} (hp : Pre h0 s.h) (h : dopK P T G F h0 s o K) : opK P T G ro s o fun s' => K s' ∧ Pre h0 s'.h := by
  have val : vK T G h0 s o K → pureK T G s o.op fun v => putK s o.dst v fun s' => K s' ∧ Pre h0 s'.h := by
    intro h
    have hl : Like (fun x => x ∈ o.op.operands.toList) (⟨s.t, h0, s.d⟩ : St) s := ⟨fun _ _ _ h => h, hp⟩
    obtain ⟨v, hv, g⟩ := tr2_pure (T := T) (G := G) hl o.op (fun _ h => h) _ h
    obtain ⟨f, hK⟩ := (putK_iff _ _ _ _).1 hv
    exact g _ ((putK_iff _ _ _ _).2 ⟨f, hK, by rw [put_h]; exact hp⟩)
  obtain ⟨dst, op, type, pos, after, guard⟩ := o
  cases op
  case alloc t =>
    obtain ⟨i, q1, q2, hk⟩ := (tiK_iff _ _ _).1 h
    rw [arrK_iff, pushK_iff, putK_iff] at hk
    refine (tiK_iff _ _ _).2 ⟨i, q1, q2, ?_⟩
    rw [arrK_iff, pushK_iff, putK_iff]
    refine ⟨hk.1, hk.2, fun b o hb hs => ?_⟩
    rw [put_h]
    have hlt : b < s.h.length := (List.getElem?_eq_some_iff.1 (hp b o hb hs)).1
    simp only [grow]
    rw [List.getElem?_append_left hlt]
    exact hp b o hb hs
  case convert src dst' x =>
    have hdk : dopK P T G F h0 s (⟨dst, .convert src dst' x, type, pos, after, guard⟩ : Oper) K = match freshB F dst with
      | true => vK T G s.h s (⟨dst, .convert src dst' x, type, pos, after, guard⟩ : Oper) K
      | false => vK T G h0 s (⟨dst, .convert src dst' x, type, pos, after, guard⟩ : Oper) K := rfl
    rw [hdk] at h
    have h' : pureK T G s (.convert src dst' x) fun v => putK s dst v fun s' => K s' ∧ Pre h0 s'.h := by
      cases hb : freshB F dst with
      | false => rw [hb] at h; exact val h
      | true =>
        rw [hb] at h
        have h2 : pureK T G s (.convert src dst' x) fun v => putK s dst v K := h
        have hl : Like (fun z => z ∈ (Op.convert src dst' x).operands.toList) (⟨s.t, s.h, s.d⟩ : St) s := ⟨fun _ _ _ h => h, fun _ _ h _ => h⟩
        obtain ⟨v, hv, g⟩ := tr2_pure (T := T) (G := G) hl (.convert src dst' x) (fun _ h => h) _ h2
        obtain ⟨f, hK⟩ := (putK_iff _ _ _ _).1 hv
        exact g _ ((putK_iff _ _ _ _).2 ⟨f, hK, by rw [put_h]; exact hp⟩)
    show (match Nat.beq src dst' with
      | true => AO P G ro _ s _
      | false => pureK T G s _ fun v => putK s _ v _)
    cases Nat.beq src dst' with
    | true => exact ao_pure hT (by intro c; simp) h'
    | false => exact h'
  case load t' x =>
    have hdk : dopK P T G F h0 s (⟨dst, .load t' x, type, pos, after, guard⟩ : Oper) K = match freshB F dst with
      | true => vK T G s.h s (⟨dst, .load t' x, type, pos, after, guard⟩ : Oper) K
      | false => vK T G h0 s (⟨dst, .load t' x, type, pos, after, guard⟩ : Oper) K := rfl
    rw [hdk] at h
    have h' : pureK T G s (.load t' x) fun v => putK s dst v fun s' => K s' ∧ Pre h0 s'.h := by
      cases hb : freshB F dst with
      | false => rw [hb] at h; exact val h
      | true =>
        rw [hb] at h
        have h2 : pureK T G s (.load t' x) fun v => putK s dst v K := h
        have hl : Like (fun z => z ∈ (Op.load t' x).operands.toList) (⟨s.t, s.h, s.d⟩ : St) s := ⟨fun _ _ _ h => h, fun _ _ h _ => h⟩
        obtain ⟨v, hv, g⟩ := tr2_pure (T := T) (G := G) hl (.load t' x) (fun _ h => h) _ h2
        obtain ⟨f, hK⟩ := (putK_iff _ _ _ _).1 hv
        exact g _ ((putK_iff _ _ _ _).2 ⟨f, hK, by rw [put_h]; exact hp⟩)
    exact h'
  case buildSlice t len parts =>
    have h' : bsK T s t len parts fun q => pushK s (.cells ⟨q.1⟩ q.2) fun n s => putK s dst (slc n 0 len len) K := h
    have hl : Like (fun _ => True) (⟨s.t, [], s.d⟩ : St) ⟨s.t, [], s.d⟩ := ⟨fun _ _ _ h => h, fun _ _ h _ => h⟩
    obtain ⟨q, hq, g⟩ := tr2_bs (s := s) (s' := s) hl t len parts (fun _ _ => trivial) _ h'
    rw [pushK_iff, putK_iff] at hq
    refine g (fun q => pushK s (.cells ⟨q.1⟩ q.2) fun n s => putK s dst (slc n 0 len len) fun s' => K s' ∧ Pre h0 s'.h) ?_
    rw [pushK_iff, putK_iff]
    refine ⟨hq.1, hq.2, fun b o hb hs => ?_⟩
    rw [put_h]
    have hlt : b < s.h.length := (List.getElem?_eq_some_iff.1 (hp b o hb hs)).1
    simp only [grow]
    rw [List.getElem?_append_left hlt]
    exact hp b o hb hs
  case store t x y =>
    have hl : Like (fun _ => True) (⟨s.t, [], s.d⟩ : St) ⟨s.t, [], s.d⟩ := ⟨fun _ _ _ h => h, fun _ _ h _ => h⟩
    obtain ⟨h', hq, g⟩ := tr2_st (s := s) (s' := s) hl rfl t x y trivial trivial _ h
    rw [opK_store]
    refine g (fun h => heapK s h fun s => putK s dst undef fun s' => K s' ∧ Pre h0 s'.h) ?_
    show putK (setH s h') dst undef fun s' => K s' ∧ Pre h0 s'.h
    obtain ⟨f, hK⟩ := (putK_iff _ _ _ _).1 (show putK (setH s h') dst undef K from hq.2)
    refine (putK_iff (setH s h') _ _ _).2 ⟨f, hK, fun b o hb hs => ?_⟩
    rw [put_h]
    show h'[b]? = some o
    exact hq.1.pre b o hb hs
  case call c =>
    obtain ⟨callee, args, ats⟩ := c
    cases callee with
    | value f =>
      have hl : Like (fun _ => True) s s := ⟨fun _ _ _ h => h, fun _ _ h _ => h⟩
      obtain ⟨vf, h2, g1⟩ := tr2_ev hl trivial _ h
      obtain ⟨vs, h3, g2⟩ := tr2_evs hl _ (fun _ _ => trivial) _ h2
      refine g1 _ (g2 _ ?_)
      cases vf <;> try exact h3.elim
      rename_i fn fs cs
      cases fn <;> try exact h3.elim
      rename_i n
      obtain ⟨fs⟩ := fs
      cases fs <;> try exact h3.elim
      have h4 : arrK cs fun cs => appK vs cs fun all => CallOk P G F h0 s dst n all K := h3
      rw [arrK_iff, appK_iff] at h4
      show arrK cs fun cs => appK vs cs fun all => AC P G n all s.h fun v h => heapK s h fun s => putK s dst v fun s' => K s' ∧ Pre h0 s'.h
      rw [arrK_iff, appK_iff]
      cases hb : freshB F dst with
      | false =>
        have fin : ∀ (v : Value) (h' : List Obj), closedV v = true ∧ h' = s.h ∧ putK s dst v K → heapK s h' fun s => putK s dst v fun s' => K s' ∧ Pre h0 s'.h := by
          rintro v h' ⟨_, rfl, q⟩
          obtain ⟨f, hK⟩ := (putK_iff _ _ _ _).1 q
          have : putK s dst v fun s' => K s' ∧ Pre h0 s'.h := (putK_iff _ _ _ _).2 ⟨f, hK, by rw [put_h]; exact hp⟩
          exact this
        cases hb2 : freshB F (dst.map (· + 1000)) with
        | false =>
          rw [callOk_quiet hb hb2] at h4
          exact ac_mono (h4 s.h hp) fin
        | true =>
          rw [callOk_full hb hb2] at h4
          exact ac_mono h4 fin
      | true =>
        rw [callOk_fresh hb] at h4
        refine ac_mono (h4 s.h hp) ?_
        rintro v h' ⟨ob, p, rfl, rfl, q⟩
        obtain ⟨f, hK⟩ := (putK_iff _ _ _ _).1 q
        have : putK (grow s ob) dst (p s.h.length) fun s' => K s' ∧ Pre h0 s'.h := (putK_iff _ _ _ _).2 ⟨f, hK, by
          rw [put_h]
          intro b o hb hs
          simp only [grow]
          rw [List.getElem?_append_left (List.getElem?_eq_some_iff.1 (hp b o hb hs)).1]
          exact hp b o hb hs⟩
        exact this
    | builtin b =>
      cases b <;> first | exact h.elim | exact val h
    | invoke r m => exact h.elim
  all_goals first | exact val h | exact (val h).elim
theorem gd_sound (hT : TabOk P T) {o : Oper} {s : St} {K : St → Prop} (hp : Pre h0 s.h) (h : GD P T G F h0 ops s o K) : guardK P T G ro ops.toList s o fun s' => K s' ∧ Pre h0 s'.h := by
  obtain ⟨t, hw, h1, h2⟩ := h
  refine gd_guard ⟨t, hw, fun e => dop_op hT hp (h1 e), fun e => ?_⟩
  obtain ⟨f, hK⟩ := (putK_iff _ _ _ _).1 (h2 e)
  exact (putK_iff _ _ _ _).2 ⟨f, hK, by rw [put_h]; exact hp⟩

/-! ## The order that is walked -/
def drawK (P : Program) (T : Tab) (G : List (Nat × Obj)) (F : List Nat) (ro : Option Nat) (h0 : List Obj) (all : List Oper) (l : List (Nat × Bool)) : St → (St → Prop) → Prop :=
  List.rec (motive := fun _ => St → (St → Prop) → Prop) (fun s K => K s) (fun x _ ih s K => match x with
    | (i, ph) => nthK all i fun o => match ph with
      | false => dguardK P T G F h0 all s o fun s => ih s K
      | true => guardK P T G ro all s o fun s => ih s K) l
/-- an operation under its guard: what it owes -/
def AGu (P : Program) (G : List (Nat × Obj)) (ro : Option Nat) (ops : Array Oper) (s : St) (o : Oper) (K : St → Prop) : Prop :=
  ∀ (r : Ren) (a : Act) (w : World), RepS G r s a w → ∀ (N : Act → World → Prop) (Q : Exit → Act → World → Prop),
    (∀ r' s' a' w', Step r s.h w r' s'.h w' → RepS G r' s' a' w' → K s' → N a' w') →
    (Region.wanted o (yielded ops a.tmps) = true → o.wpIn (fen ro) 0 P a w N Q) ∧ (Region.wanted o (yielded ops a.tmps) = false → N (a.put o.dst undef) w)
theorem agu_mono {s : St} {o : Oper} {K K' : St → Prop} (hk : ∀ s, K s → K' s) (h : AGu P G ro ops s o K) : AGu P G ro ops s o K' :=
  fun r a w R N Q hN => h r a w R N Q fun r' s' a' w' S R' k => hN r' s' a' w' S R' (hk _ k)
theorem agu_of (hT : TabOk P T) {s : St} {o : Oper} {K : St → Prop} (h : guardK P T G ro ops.toList s o K) : AGu P G ro ops s o K :=
  fun _ _ _ R _ _ hN => guardK_ok hT R h hN
def RR (P : Program) (T : Tab) (G : List (Nat × Obj)) (F : List Nat) (ro : Option Nat) (h0 : List Obj) (ops : Array Oper) (K : St → Prop) : List (Nat × Bool) → St → Prop
  | [], s => K s
  | (i, false) :: l, s => ∃ o, ops[i]? = some o ∧ GD P T G F h0 ops s o (RR P T G F ro h0 ops K l)
  | (i, true) :: l, s => ∃ o, ops[i]? = some o ∧ AGu P G ro ops s o (RR P T G F ro h0 ops K l)
theorem gd_bubble {K : St → Prop} {i : Nat} {o : Oper} (ho : ops[i]? = some o) : ∀ (p q : List (Nat × Bool)) (s : St),
    (∀ k ∈ p, k.2 = false ∧ ∃ ok, ops[k.1]? = some ok ∧ ok.apart ops o = true ∧ swF (form F ok) (form F o) = true) →
    RR P T G F ro h0 ops K (p ++ (i, false) :: q) s → GD P T G F h0 ops s o (RR P T G F ro h0 ops K (p ++ q))
  | [], q, s, _, h => by
    obtain ⟨o', ho', h⟩ := h
    rw [ho] at ho'; cases ho'; exact h
  | (k, ph) :: p, q, s, hp, h => by
    obtain ⟨rfl, ok, hok, ha, h2⟩ := hp (k, ph) List.mem_cons_self
    obtain ⟨ok', hok', h⟩ := h
    simp only at hok
    rw [hok] at hok'; cases hok'
    have := gd_swap ha h2 (gd_mono (fun s1 hs => gd_bubble ho p q s1 (fun k hk => hp k (List.mem_cons_of_mem _ hk)) hs) h)
    exact gd_mono (fun s1 hs => ⟨ok, hok, hs⟩) this
theorem rr_of (hT : TabOk P T) {K : St → Prop} : ∀ (l : List (Nat × Bool)) (s : St), drawK P T G F ro h0 ops.toList l s K → RR P T G F ro h0 ops K l s
  | [], _, h => h
  | (i, false) :: l, s, h => by
    obtain ⟨o, ho, h⟩ := (nthK_iff _ _ _).1 h
    exact ⟨o, by simpa using ho, gd_mono (fun s hs => rr_of hT l s hs) (gd_of h)⟩
  | (i, true) :: l, s, h => by
    obtain ⟨o, ho, h⟩ := (nthK_iff _ _ _).1 h
    exact ⟨o, by simpa using ho, agu_mono (fun s hs => rr_of hT l s hs) (agu_of hT h)⟩

/-! ## What must come before what -/
def preds (o : Oper) : List Nat := (o.after.toList.filter fun e => Region.binds .any e).map (·.on)
def Closed (ops : Array Oper) (U : Nat → Prop) : Prop := ∀ m o, ops[m]? = some o → ¬ U m → ∀ p ∈ preds o, ¬ U p
/-- k has been before o may be -/
def Anc (ops : Array Oper) (o : Oper) (k : Nat) : Prop := ∀ U, Closed ops U → (∀ p ∈ preds o, ¬ U p) → ¬ U k
def look (E : List ((Nat × Bool) × Nat)) (p : Nat) : Nat := match E with
  | [] => 0
  | e :: E => match Nat.beq e.1.1 p with
    | true => e.2
    | false => look E p
def mask (E : List ((Nat × Bool) × Nat)) (ps : List Nat) : Nat := match ps with
  | [] => 0
  | p :: ps => 2 ^ p ||| (look E p ||| mask E ps)
noncomputable def swapB (F : List Nat) (ops : Array Oper) (k : Nat) (o : Oper) : Bool := match ops[k]? with
  | none => false
  | some ok => ok.apart ops o && swF (form F ok) (form F o)
noncomputable def chk (F : List Nat) (ops : Array Oper) (E : List ((Nat × Bool) × Nat)) (l : List (Nat × Bool)) : Bool := match l with
  | [] => true
  | x :: l => match ops[x.1]? with
    | none => false
    | some o => (preds o).all (fun p => E.any fun e => e.1.1 == p) && (!(E.any fun e => e.1.1 == x.1)) && (x.2 || !(E.any fun e => e.1.2)) &&
      (E.all fun e => (mask E (preds o)).testBit e.1.1 || (!x.2 && swapB F ops e.1.1 o)) && chk F ops ((x, mask E (preds o)) :: E) l
noncomputable def chkAll (F : List Nat) (ops : Array Oper) (l : List (Nat × Bool)) : Bool := chk F ops [] l && (List.range ops.size).all fun j => l.any fun x => x.1 == j
theorem look_spec {E : List ((Nat × Bool) × Nat)} {p k : Nat} (h : (look E p).testBit k = true) : ∃ e ∈ E, e.1.1 = p ∧ e.2.testBit k = true := by
  induction E with
  | nil => simp [look] at h
  | cons e E ih =>
    unfold look at h
    cases hb : Nat.beq e.1.1 p with
    | true => rw [hb] at h; exact ⟨e, List.mem_cons_self, Nat.eq_of_beq_eq_true hb, h⟩
    | false =>
      rw [hb] at h
      obtain ⟨e', he, h'⟩ := ih h
      exact ⟨e', List.mem_cons_of_mem _ he, h'⟩
theorem mask_spec {E : List ((Nat × Bool) × Nat)} {ps : List Nat} {k : Nat} (h : (mask E ps).testBit k = true) : ∃ p ∈ ps, k = p ∨ ∃ e ∈ E, e.1.1 = p ∧ e.2.testBit k = true := by
  induction ps with
  | nil => simp [mask] at h
  | cons p ps ih =>
    simp only [mask, Nat.testBit_or, Bool.or_eq_true] at h
    rcases h with h | h | h
    · refine ⟨p, List.mem_cons_self, .inl ?_⟩
      rw [Nat.testBit_two_pow] at h
      simpa [eq_comm] using h
    · exact ⟨p, List.mem_cons_self, .inr (look_spec h)⟩
    · obtain ⟨p', hp, h'⟩ := ih h
      exact ⟨p', List.mem_cons_of_mem _ hp, h'⟩
/-- a before b in the order that is walked -/
def Rel (F : List Nat) (ops : Array Oper) (a b : Nat × Bool) : Prop :=
  a.1 ≠ b.1 ∧ (a.2 = true → b.2 = true) ∧ (∀ o, ops[a.1]? = some o → b.1 ∉ preds o) ∧
  ∀ o, ops[b.1]? = some o → Anc ops o a.1 ∨ (a.2 = false ∧ b.2 = false ∧ ∃ ok, ops[a.1]? = some ok ∧ ok.apart ops o = true ∧ swF (form F ok) (form F o) = true)
def Val (ops : Array Oper) (a : Nat × Bool) : Prop := ∃ o, ops[a.1]? = some o ∧ a.1 ∉ preds o ∧ ∀ p ∈ preds o, p < ops.size
theorem chk_spec : ∀ (l : List (Nat × Bool)) (E : List ((Nat × Bool) × Nat)), (∀ e ∈ E, e.1.1 < ops.size ∧ ∀ o, ops[e.1.1]? = some o → ∀ k, e.2.testBit k = true → Anc ops o k) →
    (∀ e ∈ E, ∀ o, ops[e.1.1]? = some o → ∀ p ∈ preds o, ∃ e' ∈ E, e'.1.1 = p) →
    chk F ops E l = true → l.Pairwise (Rel F ops) ∧ (∀ a ∈ l, Val ops a) ∧ ∀ e ∈ E, ∀ b ∈ l, Rel F ops e.1 b
  | [], E, _, _, _ => ⟨List.Pairwise.nil, fun _ h => by simp at h, fun _ _ _ h => by simp at h⟩
  | x :: l, E, hE, hP, h => by
    unfold chk at h
    cases ho : ops[x.1]? with
    | none => rw [ho] at h; cases h
    | some o =>
      rw [ho] at h
      simp only [Bool.and_eq_true, List.all_eq_true, List.any_eq_true, Bool.not_eq_true', Bool.or_eq_true, List.any_eq_false] at h
      obtain ⟨⟨⟨⟨h1, h2⟩, h3⟩, h4⟩, h5⟩ := h
      have hx : x.1 < ops.size := (Array.getElem?_eq_some_iff.1 ho).1
      have hm : ∀ k, (mask E (preds o)).testBit k = true → Anc ops o k := by
        intro k hk U hU hpr
        obtain ⟨p, hp, hk⟩ := mask_spec hk
        rcases hk with rfl | ⟨e, he, rfl, hk⟩
        · exact hpr _ hp
        · obtain ⟨q1, q2⟩ := hE e he
          exact q2 _ (Array.getElem?_eq_getElem q1) k hk U hU (hU _ _ (Array.getElem?_eq_getElem q1) (hpr _ hp))
      have hpr : ∀ p ∈ preds o, ∃ e ∈ E, e.1.1 = p := fun p hp => by
        obtain ⟨e, he, hq⟩ := h1 p hp
        exact ⟨e, he, by simpa using hq⟩
      obtain ⟨g1, g2, g3⟩ := chk_spec l ((x, mask E (preds o)) :: E)
        (by
          intro e he
          rcases List.mem_cons.1 he with rfl | he
          · exact ⟨hx, fun o' ho' k hk => by simp only at ho'; rw [ho] at ho'; cases ho'; exact hm k hk⟩
          · exact hE e he)
        (by
          intro e he o' ho' p hp
          rcases List.mem_cons.1 he with rfl | he
          · simp only at ho'
            rw [ho] at ho'; cases ho'
            obtain ⟨e', he', hq⟩ := hpr p hp
            exact ⟨e', List.mem_cons_of_mem _ he', hq⟩
          · obtain ⟨e', he', hq⟩ := hP e he o' ho' p hp
            exact ⟨e', List.mem_cons_of_mem _ he', hq⟩) h5
      have hne : ∀ e ∈ E, e.1.1 ≠ x.1 := fun e he hq => by
        have := h2 e he
        simp [hq] at this
      refine ⟨List.pairwise_cons.2 ⟨fun b hb => g3 (x, _) List.mem_cons_self b hb, g1⟩, ?_, ?_⟩
      · intro a ha
        rcases List.mem_cons.1 ha with rfl | ha
        · refine ⟨o, ho, fun hc => ?_, fun p hp => ?_⟩
          · obtain ⟨e, he, hq⟩ := hpr _ hc
            exact hne e he hq
          · obtain ⟨e, he, rfl⟩ := hpr p hp
            exact (hE e he).1
        · exact g2 a ha
      · intro e he b hb
        rcases List.mem_cons.1 hb with rfl | hb
        · refine ⟨hne e he, fun ht => ?_, fun o' ho' hc => ?_, fun o' ho' => ?_⟩
          · rcases h3 with h3 | h3
            · exact h3
            · have := h3 e he
              rw [ht] at this; simp at this
          · obtain ⟨e', he', hq⟩ := hP e he o' ho' _ hc
            exact hne e' he' hq
          · rw [ho] at ho'; cases ho'
            rcases h4 e he with hb | hb
            · exact .inl (hm _ hb)
            · obtain ⟨hb1, hb2⟩ := hb
              right
              have he2 : e.1.2 = false := by
                rcases h3 with h3 | h3
                · rw [h3] at hb1; cases hb1
                · simpa using h3 e he
              refine ⟨he2, hb1, ?_⟩
              unfold swapB at hb2
              cases hk : ops[e.1.1]? with
              | none => rw [hk] at hb2; cases hb2
              | some ok =>
                rw [hk] at hb2
                simp only [Bool.and_eq_true] at hb2
                exact ⟨ok, rfl, hb2.1, hb2.2⟩
        · exact g3 e (List.mem_cons_of_mem _ he) b hb

/-! ## Whatever the order -/
def Listed (ops : Array Oper) (listed : Array Bool) (rest : List (Nat × Bool)) : Prop :=
  listed.size = ops.size ∧ ∀ j, j < ops.size → (listed.getD j true = true ↔ ∀ a ∈ rest, a.1 ≠ j)
theorem ready_spec {listed : Array Bool} {rest : List (Nat × Bool)} (hl : Listed ops listed rest) {i : Nat} (h : i ∈ Region.ready .any ops listed) :
    ∃ o, ops[i]? = some o ∧ (∃ a ∈ rest, a.1 = i) ∧ ∀ p ∈ preds o, ∀ a ∈ rest, a.1 ≠ p := by
  obtain ⟨hr, h⟩ := List.mem_filter.1 h
  have hi : i < ops.size := List.mem_range.1 hr
  simp only [Bool.and_eq_true, Bool.not_eq_true', Array.getElem?_eq_getElem hi, Option.map_some, Option.getD_some] at h
  obtain ⟨h1, h2⟩ := h
  refine ⟨_, Array.getElem?_eq_getElem hi, ?_, ?_⟩
  · refine Classical.byContradiction fun hc => ?_
    have := (hl.2 i hi).2 fun a ha he => hc ⟨a, ha, he⟩
    rw [h1] at this; cases this
  · intro p hp
    obtain ⟨e, he, rfl⟩ := List.mem_map.1 hp
    obtain ⟨he, hb⟩ := List.mem_filter.1 he
    have h3 : (!Region.binds .any e || listed.getD e.on false) = true := Array.all_eq_true'.1 h2 e (by simpa using he)
    rw [hb] at h3
    simp only [Bool.not_true, Bool.false_or] at h3
    have hlt : e.on < listed.size := by
      refine Classical.byContradiction fun hc => ?_
      rw [Array.getD_eq_getD_getElem?, Array.getElem?_eq_none (by omega)] at h3
      simp at h3
    refine (hl.2 e.on (by rw [← hl.1]; exact hlt)).1 ?_
    rw [Array.getD_eq_getD_getElem?, Array.getElem?_eq_getElem hlt] at h3 ⊢
    simpa using h3
theorem ready_head {listed : Array Bool} {x : Nat × Bool} {rest : List (Nat × Bool)} (hl : Listed ops listed (x :: rest)) (hp : (x :: rest).Pairwise (Rel F ops)) (hv : ∀ a ∈ x :: rest, Val ops a) :
    x.1 ∈ Region.ready .any ops listed := by
  obtain ⟨o, ho, hs, hb⟩ := hv x List.mem_cons_self
  have hi : x.1 < ops.size := (Array.getElem?_eq_some_iff.1 ho).1
  refine List.mem_filter.2 ⟨List.mem_range.2 hi, ?_⟩
  simp only [ho, Option.map_some, Option.getD_some, Bool.and_eq_true, Bool.not_eq_true']
  constructor
  · have : ¬ listed.getD x.1 true = true := fun hc => (hl.2 x.1 hi).1 hc x List.mem_cons_self rfl
    simpa using this
  · refine Array.all_eq_true'.2 fun e he => ?_
    cases hbd : Region.binds .any e with
    | false => rfl
    | true =>
      simp only [Bool.not_true, Bool.false_or]
      have hpr : e.on ∈ preds o := List.mem_map.2 ⟨e, List.mem_filter.2 ⟨by simpa using he, hbd⟩, rfl⟩
      have hlt := hb _ hpr
      have : listed.getD e.on true = true := (hl.2 _ hlt).2 fun a ha hc => by
        rcases List.mem_cons.1 ha with rfl | ha
        · rw [hc] at hs; exact hs hpr
        · exact ((List.pairwise_cons.1 hp).1 a ha).2.2.1 o ho (hc ▸ hpr)
      rw [Array.getD_eq_getD_getElem?, Array.getElem?_eq_getElem (by rw [hl.1]; exact hlt)] at this ⊢
      simpa using this
theorem listed_set {listed : Array Bool} {p q : List (Nat × Bool)} {x : Nat × Bool} (hl : Listed ops listed (p ++ x :: q)) (hn : ∀ a ∈ p ++ q, a.1 ≠ x.1) : Listed ops (listed.setIfInBounds x.1 true) (p ++ q) := by
  refine ⟨by simp [hl.1], fun j hj => ?_⟩
  have hjl : j < listed.size := by rw [hl.1]; exact hj
  by_cases hx : x.1 = j
  · subst hx
    refine ⟨fun _ => hn, fun _ => ?_⟩
    simp [Array.getD_eq_getD_getElem?, hjl]
  · have h1 := hl.2 j hj
    rw [Array.getD_eq_getD_getElem?] at h1 ⊢
    rw [Array.getElem?_setIfInBounds_ne hx, h1]
    constructor
    · exact fun h a ha => h a (by rcases List.mem_append.1 ha with h | h; exact List.mem_append_left _ h; exact List.mem_append_right _ (List.mem_cons_of_mem _ h))
    · intro h a ha
      rcases List.mem_append.1 ha with h' | h'
      · exact h a (List.mem_append_left _ h')
      · rcases List.mem_cons.1 h' with rfl | h'
        · exact hx
        · exact h a (List.mem_append_right _ h')
theorem wpAny_of (hT : TabOk P T) {K : St → Prop} {Q : Exit → Act → World → Prop} : ∀ (n : Nat) (rest : List (Nat × Bool)) (listed : Array Bool) (r : Ren) (s : St) (a : Act) (w : World),
    rest.length = n → Listed ops listed rest → rest.Pairwise (Rel F ops) → (∀ a ∈ rest, Val ops a) → Closed ops (fun j => ∃ a ∈ rest, a.1 = j) →
    RepS G r s a w → RR P T G F ro h0 ops K rest s → ((∃ a ∈ rest, a.2 = false) → Pre h0 s.h) →
    (∀ r' s' a' w', Step r s.h w r' s'.h w' → RepS G r' s' a' w' → K s' → Q .normal a' w') →
    wpAnyIn (fen ro) 0 P .any ops Q n listed a w := by
  intro n
  induction n with
  | zero =>
    intro rest listed r s a w hn hl _ _ _ R h _ hQ
    cases rest with
    | cons x rest => simp at hn
    | nil =>
      refine ⟨?_, hQ r s a w (Step.refl _ _ _) R h⟩
      refine List.eq_nil_iff_forall_not_mem.2 fun i hi => ?_
      obtain ⟨o, _, ⟨a, ha, _⟩, _⟩ := ready_spec hl hi
      simp at ha
  | succ n ih =>
    intro rest listed r s a w hn hl hp hv hc R h hpre hQ
    cases hrest : rest with
    | nil => rw [hrest] at hn; simp at hn
    | cons x0 rest0 =>
    refine ⟨fun he => ?_, fun i hi => ?_⟩
    · have := ready_head (by rw [hrest] at hl; exact hl) (by rw [hrest] at hp; exact hp) (by rw [hrest] at hv; exact hv)
      rw [he] at this; simp at this
    · obtain ⟨o, ho, ⟨x, hx, rfl⟩, hpr⟩ := ready_spec hl hi
      obtain ⟨p, q, hpq⟩ := List.append_of_mem hx
      subst hpq
      obtain ⟨hp1, hp2, hp3⟩ := List.pairwise_append.1 hp
      obtain ⟨hp4, hp5⟩ := List.pairwise_cons.1 hp2
      have hU : ∀ k ∈ p, k.2 = false ∧ x.2 = false ∧ ∃ ok, ops[k.1]? = some ok ∧ ok.apart ops o = true ∧ swF (form F ok) (form F o) = true := by
        intro k hk
        rcases (hp3 k hk x List.mem_cons_self).2.2.2 o ho with ha | ha
        · exact absurd ⟨k, List.mem_append_left _ hk, rfl⟩ (ha _ hc fun p' hp' ⟨a, ha, he⟩ => hpr p' hp' a ha he)
        · exact ha
      have hne : ∀ b ∈ p ++ q, b.1 ≠ x.1 := by
        intro b hb
        rcases List.mem_append.1 hb with hb | hb
        · exact (hp3 b hb x List.mem_cons_self).1
        · exact fun he => (hp4 b hb).1 he.symm
      have hl' := listed_set hl hne
      have hpp : (p ++ q).Pairwise (Rel F ops) := List.pairwise_append.2 ⟨hp1, hp5, fun b hb c hc => hp3 b hb c (List.mem_cons_of_mem _ hc)⟩
      have hmem : ∀ b ∈ p ++ q, b ∈ p ++ x :: q := fun b hb => by
        rcases List.mem_append.1 hb with hb | hb
        · exact List.mem_append_left _ hb
        · exact List.mem_append_right _ (List.mem_cons_of_mem _ hb)
      have hcc : Closed ops (fun j => ∃ a ∈ p ++ q, a.1 = j) := by
        intro m om hom hnm p' hp' ⟨b, hb, hbe⟩
        by_cases hmx : m = x.1
        · subst hmx
          rw [ho] at hom; cases hom
          exact hpr p' hp' b (hmem b hb) hbe
        · refine hc m om hom (fun ⟨b', hb', he'⟩ => hnm ?_) p' hp' ⟨b, hmem b hb, hbe⟩
          rcases List.mem_append.1 hb' with hb' | hb'
          · exact ⟨b', List.mem_append_left _ hb', he'⟩
          · rcases List.mem_cons.1 hb' with rfl | hb'
            · exact absurd he'.symm hmx
            · exact ⟨b', List.mem_append_right _ hb', he'⟩
      have hlen : (p ++ q).length = n := by simp at hn ⊢; omega
      have fin : AGu P G ro ops s o (fun s' => RR P T G F ro h0 ops K (p ++ q) s' ∧ ((∃ a ∈ p ++ q, a.2 = false) → Pre h0 s'.h)) → wpOpIn (fen ro) 0 P ops Q x.1 (wpAnyIn (fen ro) 0 P .any ops Q n (listed.setIfInBounds x.1 true)) a w := by
        intro hg
        have key := hg r a w R (wpAnyIn (fen ro) 0 P .any ops Q n (listed.setIfInBounds x.1 true)) Q (fun r' s' a' w' S R' k =>
          ih (p ++ q) _ r' s' a' w' hlen hl' hpp (fun b hb => hv b (hmem b hb)) hcc R' k.1 k.2 (fun r'' s'' a'' w'' S' R'' k' => hQ r'' s'' a'' w'' (S.trans S') R'' k'))
        unfold wpOpIn
        simp only [ho]
        by_cases hw : Region.wanted o (yielded ops a.tmps) = true
        · rw [if_pos hw]; exact key.1 hw
        · rw [if_neg hw]
          exact ⟨fun f _ => fen_fn ro f, key.2 (by simpa using hw)⟩
      obtain ⟨i, ph⟩ := x
      cases ph with
      | false =>
        have hb := gd_bubble ho p q s (fun k hk => ⟨(hU k hk).1, (hU k hk).2.2⟩) h
        refine fin (agu_mono (fun s' k => ⟨k.1, fun _ => k.2⟩) (agu_of hT (gd_sound hT (hpre ⟨(i, false), hx, rfl⟩) hb)))
      | true =>
        cases p with
        | cons k p => exact absurd (hU k List.mem_cons_self).2.1 (by simp)
        | nil =>
          obtain ⟨o', ho', hg⟩ := h
          simp only at ho
          rw [ho] at ho'; cases ho'
          refine fin (agu_mono (fun s' k => ⟨k, ?_⟩) hg)
          rintro ⟨b, hb, hbf⟩
          have := (hp4 b hb).2.1 rfl
          rw [this] at hbf; cases hbf
/-- a region that draws its order, by one order -/
theorem ad_hole (F : List Nat) (h0 : List Obj) (hT : TabOk P T) (hm : P.follows .mixedOrders = true) (l : List (Nat × Bool)) (hc : chkAll F ops l = true) {s : St} {K : St → Prop} (hp0 : Lies h0 s.h) (h : drawK P T G F ro h0 ops.toList l s K) : AD P G ro ops s K := by
  unfold AD
  intro id
  unfold AW
  intro r a w R
  simp only [chkAll, Bool.and_eq_true, List.all_eq_true, List.any_eq_true, List.mem_range] at hc
  obtain ⟨h1, h2⟩ := hc
  obtain ⟨g1, g2, _⟩ := chk_spec l [] (fun _ h => by simp at h) (fun _ h => by simp at h) h1
  have hlen : l.length = ops.size := by
    have hnd : (l.map (·.1)).Nodup := by
      refine List.pairwise_map.2 (g1.imp fun h => h.1)
    have p : (l.map (·.1)).Perm (List.range ops.size) := by
      refine (List.perm_ext_iff_of_nodup hnd List.nodup_range).2 fun j => ?_
      constructor
      · intro hj
        obtain ⟨a, ha, rfl⟩ := List.mem_map.1 hj
        obtain ⟨o, ho, _⟩ := g2 a ha
        exact List.mem_range.2 (Array.getElem?_eq_some_iff.1 ho).1
      · intro hj
        obtain ⟨a, ha, he⟩ := h2 j (List.mem_range.1 hj)
        exact List.mem_map.2 ⟨a, ha, by simpa using he⟩
    simpa using p.length_eq
  refine wpIn_region_any hm ?_
  have R' : RepS G r s a { w with drawn := w.drawn + 1 } := R.world rfl
  have S' : Step r s.h w r s.h { w with drawn := w.drawn + 1 } := Step.same rfl rfl rfl rfl
  rw [← hlen]
  refine wpAny_of hT l.length l _ r s a _ rfl ⟨by simp [hlen], fun j hj => ?_⟩ g1 g2 (fun m o ho hn => ?_) R' (rr_of hT l s h) (fun _ => hp0.pre)
    (fun r' s' a' w' S R' k => ⟨r', s', S'.trans S, R', k⟩)
  · rw [hlen]
    obtain ⟨a, ha, he⟩ := h2 j hj
    constructor
    · intro hx
      simp [Array.getD_eq_getD_getElem?, hj] at hx
    · intro hx
      exact absurd (by simpa using he) (hx a ha)
  · have hm : m < ops.size := (Array.getElem?_eq_some_iff.1 ho).1
    obtain ⟨a, ha, he⟩ := h2 m hm
    exact absurd ⟨a, ha, by simpa using he⟩ hn
theorem ad_fresh (F : List Nat) (hT : TabOk P T) (hm : P.follows .mixedOrders = true) (l : List (Nat × Bool)) (hc : chkAll F ops l = true) {s : St} {K : St → Prop} (h : drawK P T G F ro s.h ops.toList l s K) : AD P G ro ops s K :=
  ad_hole F s.h hT hm l hc (by have := Lies.same s.h []; rwa [List.append_nil] at this) h
/-- no call of the region lays a block -/
theorem ad_of (hT : TabOk P T) (hm : P.follows .mixedOrders = true) (l : List (Nat × Bool)) (hc : chkAll [] ops l = true) {s : St} {K : St → Prop} (h : drawK P T G [] ro s.h ops.toList l s K) : AD P G ro ops s K :=
  ad_fresh [] hT hm l hc h
end
end Go.Proofs.YtjpjnjidchdlbaaDoor
