/-
  Rows of bodies of one's own; the reference's Own and Turned (no condition).
-/
import Derived.Test.YtjpjnjidchdlbaaDoorMomN
namespace Go.Proofs.YtjpjnjidchdlbaaDoor
set_option linter.unusedSimpArgs false
set_option linter.unusedVariables false
open Go
set_option maxRecDepth 100000
set_option maxHeartbeats 4000000
theorem has41 : Has Tryd.prog 41 Tryd.f41 := ⟨Tryd.func41, by kernel_rfl, by kernel_rfl⟩
theorem has43 : Has Tryd.prog 43 Tryd.f43 := ⟨Tryd.func43, by kernel_rfl, by kernel_rfl⟩
theorem clean_scopM {v : Value} (h : cleanV v = true) (n : Nat) : scop1 n v = true := by
  cases v <;> first | rfl | (simp [cleanV] at h; done) | skip
  · rename_i p; cases p <;> first | rfl | (simp [cleanV] at h)
  · rename_i p l c; cases p <;> first | rfl | (simp [cleanV] at h)
  · rename_i p; cases p <;> first | rfl | (simp [cleanV] at h)
def flatB (l : List Bd) : List Value := l.flatMap Bd.cells
theorem flatB_len : ∀ l : List Bd, (flatB l).length = l.length * 6
  | [] => rfl
  | b :: l => by
    show (b.cells ++ flatB l).length = _
    rw [List.length_append, flatB_len l]
    show 6 + l.length * 6 = (l.length + 1) * 6
    omega
theorem flatB_at : ∀ (l : List Bd) (i q : Nat), q < 6 → (flatB l)[i * 6 + q]? = (l[i]?).bind fun b => b.cells[q]?
  | [], i, q, _ => by simp [flatB]
  | b :: l, 0, q, hq => by
    show (b.cells ++ flatB l)[0 * 6 + q]? = _
    rw [List.getElem?_append_left (by show 0 * 6 + q < 6; omega), Nat.zero_mul, Nat.zero_add]
    rfl
  | b :: l, i + 1, q, hq => by
    show (b.cells ++ flatB l)[(i + 1) * 6 + q]? = _
    rw [List.getElem?_append_right (by show 6 ≤ _; omega), show (i + 1) * 6 + q - b.cells.length = i * 6 + q from by show (i + 1) * 6 + q - 6 = _; omega, flatB_at l i q hq]
    simp
theorem flatB_clean (l : List Bd) : ∀ x ∈ flatB l, cleanV x = true := by
  intro x hx
  obtain ⟨b, _, hb⟩ := List.mem_flatMap.1 hx
  simp at hb
  rcases hb with rfl | rfl | rfl | rfl | rfl | rfl <;> rfl
theorem winB_row {h : List Obj} {m off cap : Nat} {c : Array Value} {t : TypeId} {l : List Bd} (hb : h[m]? = some (.pending c t)) (hw : WinB c off l) : RowIs h 6 (slc m off l.length cap) l.length (flatB l) := by
  refine .row hb ?_ (flatB_len l) (flatB_clean l)
  show ∀ j x, (flatB l)[j]? = some x → c[off + j]? = some x
  intro j x hj
  obtain ⟨i, q, hq, rfl⟩ : ∃ i q, q < 6 ∧ j = i * 6 + q := ⟨j / 6, j % 6, Nat.mod_lt _ (by omega), by omega⟩
  rw [flatB_at l i q hq, Option.bind_eq_some_iff] at hj
  obtain ⟨b, hb1, hb2⟩ := hj
  have := hw i b hb1 q x hb2
  rw [← Nat.add_assoc]
  exact this
theorem winB_own {l : List Bd} {rest : List Value} : WinB ⟨flatB l ++ rest⟩ 0 l := by
  intro i b hb q v hq
  have hq6 : q < 6 := (List.getElem?_eq_some_iff.1 hq).1
  have hi : i < l.length := (List.getElem?_eq_some_iff.1 hb).1
  show (flatB l ++ rest).toArray[0 + i * 6 + q]? = some v
  rw [Nat.zero_add, List.getElem?_toArray, List.getElem?_append_left (by rw [flatB_len]; omega), flatB_at l i q hq6, hb]
  exact hq
theorem zeros_cleanB (z : Array Value) (hz : z.toList.all cleanV = true) (n : Nat) : ∀ x ∈ (Builtin.zeroCells z n).toList, cleanV x = true := by
  intro x hx
  simp only [Builtin.zeroCells, Array.toList_map, List.mem_map] at hx
  obtain ⟨q, hq, rfl⟩ := hx
  by_cases h0 : z.size = 0
  · rw [h0] at hq; simp at hq
  · have hlt : q % z.size < z.size := Nat.mod_lt _ (by omega)
    rw [getElem!_pos (c := z) (i := q % z.size) (h := hlt)]
    exact List.all_eq_true.1 hz _ (by simp)
theorem rowB_clean {l : List Bd} {rest : List Value} (h : ∀ x ∈ rest, cleanV x = true) : ∀ x ∈ (⟨flatB l ++ rest⟩ : Array Value).toList, cleanV x = true := by
  intro x hx
  rcases List.mem_append.1 hx with hx | hx
  · exact flatB_clean l x hx
  · exact h x hx
/-- the body keeps one new block of clean cells; what it hands back is u, told over it -/
theorem fin_oneB {h0 : List Obj} {k : Value → List Obj → Prop} {v u : Value} {s : St} (m : Nat) {c : Array Value} {t : TypeId} {f : Nat × Nat} (hp : ∃ rest, s.h = h0 ++ rest) (hm : h0.length ≤ m) (hob : s.h[m]? = some (.cells c t f))
    (hc : ∀ x ∈ c.toList, cleanV x = true) (hv : v = r3 (tau h0.length [m]) u) (hu : scop3 (h0.length + 1) u = true) (hk : k u (h0 ++ [.cells c t f])) : Fin h0 k v s := by
  obtain ⟨rest, hp⟩ := hp
  have hrO : rO (tau h0.length [m]) (.cells c t f) = .cells c t f := by
    simp only [rO]
    rw [map_self _ _ fun x hx => (clean_s1 (hc x hx) 0).2 _]
  refine ⟨h0, [m], u, [.cells c t f], hv, (scop3_ok hu).1, rfl, fun i o hi => .inl ⟨hi, ?_⟩, rfl, fun j o hj => ?_, by simp, hk⟩
  · have : i < h0.length := (List.getElem?_eq_some_iff.1 hi).1
    rw [hp, List.getElem?_append_left this]; exact hi
  · cases j with
    | succ j => simp at hj
    | zero =>
      simp at hj
      subst hj
      refine ⟨.inl ⟨c, t, f, rfl⟩, fun x hx => ?_, hm, ?_⟩
      · exact clean_sc (hc x hx) _
      · rw [hrO]; exact hob
/-- what Own of a state leaves -/
def OwnPost (step : Int) (l : List Bd) (m : Nat) (h : List Obj) (v : Value) (h' : List Obj) : Prop :=
  ∃ c cp, v = .agg #[I64 step, slc m 0 l.length cp] ∧ h' = h ++ [.cells c 61] ∧ (∀ x ∈ c.toList, cleanV x = true) ∧ WinB c 0 l ∧ l.length ≤ cp
theorem OwnS_r (G) (step : Int) (c0 : Array Value) (t0 : TypeId) (off cap : Nat) (l : List Bd) (hw : WinB c0 off l) (hl : l.length ≤ 2932031007402) :
    AC Tryd.prog G 43 [.agg #[I64 step, (slc 0 off l.length cap)]] [.pending c0 t0] (OwnPost step l 1 [.pending c0 t0]) := by
  refine ac_of_body tabOk has43 ?_
  unfold BodyOk
  conv => whnf
  by_cases h0 : l.length = 0
  · have h1 : l = [] := List.length_eq_zero_iff.1 h0
    subst h1
    refine ao_room (b := 3) (off := 0) (lx := 0) (cx := 0) (ly := 0) (vy := slc 0 off ([] : List Bd).length cap) (i := ti40) (j := ti61) (e := 61) tabOk rfl (by conv => whnf) (by conv => whnf) rfl rfl rfl rfl rfl rfl rfl (winB_row rfl hw) (by decide) (by decide) ?_
    conv => whnf
    refine ⟨rfl, fin_oneB 3 ⟨[_, _, _], rfl⟩ (by simp) rfl (by simp [flatB]) (u := .agg #[I64 step, slc 1 0 0 0]) ?_ rfl ⟨_, 0, rfl, rfl, by simp [flatB], winB_own (l := []) (rest := []), Nat.le_refl _⟩⟩
    simp [r3, r2, r1, r0, rA, tau]
  · refine ao_grow (lx := 0) (cx := 0) (ly := l.length) (olds := []) (news := flatB l) (px := some ⟨3, 0, some 0⟩) (vx := slc 3 0 0 0) (vy := slc 0 off l.length cap) (i := ti40) (j := ti61) (e := 61) tabOk rfl (by conv => whnf) (by conv => whnf) rfl rfl rfl rfl rfl rfl
      (.row (ob := .cells ⟨[]⟩ 61) rfl (fun j x hj => by simp at hj) rfl (by simp)) (winB_row rfl hw) (by omega) (by show (0 + l.length) * 48 ≤ _; omega) (by omega) ?_
    intro cp hcp
    conv => whnf
    refine ⟨rfl, fin_oneB 4 ⟨[_, _, _, _], rfl⟩ (by simp) rfl ?_ (u := .agg #[I64 step, slc 1 0 (0 + l.length) cp]) ?_ rfl ⟨⟨flatB l ++ (Builtin.zeroCells ti61.zero.cells (cp - (0 + l.length))).toList⟩, cp, by rw [Nat.zero_add], rfl, ?_, winB_own, by omega⟩⟩
    · exact rowB_clean (zeros_cleanB ti61.zero.cells rfl _)
    · simp [r3, r2, r1, r0, rA, tau]
    · exact rowB_clean (zeros_cleanB ti61.zero.cells rfl _)
theorem OwnS_n (G) (step : Int) :
    AC Tryd.prog G 43 [.agg #[I64 step, (.slice none 0 0)]] [] (OwnPost step ([] : List Bd) 0 []) := by
  refine ac_of_body tabOk has43 ?_
  unfold BodyOk
  conv => whnf
  refine ao_room (b := 2) (off := 0) (lx := 0) (cx := 0) (ly := 0) (vy := .slice none 0 0) (i := ti40) (j := ti61) (e := 61) tabOk rfl (by conv => whnf) (by conv => whnf) rfl rfl rfl rfl rfl rfl rfl (.nil 0) (by decide) (by decide) ?_
  conv => whnf
  refine ⟨rfl, fin_oneB 2 ⟨[_, _, _], rfl⟩ (by simp) rfl (by simp [flatB]) (u := .agg #[I64 step, slc 0 0 0 0]) ?_ rfl ⟨_, 0, rfl, rfl, by simp [flatB], winB_own (l := []) (rest := []), Nat.le_refl _⟩⟩
  simp [r3, r2, r1, r0, rA, tau]
theorem own_lift {P : Program} {G : List (Nat × Obj)} {fn : FuncId} {st st2 : Int} {f : List Bd → List Bd} {h : List Obj} {m : Nat} (hm : h.length = m) {bs : Value} {l : List Bd} (hs : SlB h bs l) (hlen : ∀ l, (f l).length = l.length)
    (hn : AC P G fn [.agg #[I64 st, .slice none 0 0]] [] (OwnPost st2 (f []) 0 []))
    (hr : ∀ (c : Array Value) (t : TypeId) (off cap : Nat), WinB c off l → l.length ≤ cap → AC P G fn [.agg #[I64 st, slc 0 off l.length cap]] [.pending c t] (OwnPost st2 (f l) 1 [.pending c t])) :
    AC P G fn [.agg #[I64 st, bs]] h (OwnPost st2 (f l) m h) := by
  subst hm
  have hrO : ∀ (t : Ren) (c : Array Value), (∀ x ∈ c.toList, cleanV x = true) → rO t (.cells c 61) = .cells c 61 := fun t c hr => by
    simp only [rO]
    rw [map_self _ _ fun x hx => (clean_s1 (hr x hx) 0).2 _]
  rcases hs with ⟨rfl, rfl⟩ | ⟨m, off, cap, c, t, rfl, h2, h4, h5⟩
  · refine ac_frame [] hn (by simp [r3, r2, r1, r0]) (fun v hv => ?_) cold_0 ?_
    · rcases List.mem_singleton.1 hv with rfl
      exact (scop3_ok (n := 0) (by rfl)).1
    · rintro v h' ⟨c, cp, rfl, rfl, q1, q2, q3⟩
      refine ⟨_, rfl, c, cp, ?_, ?_, q1, q2, q3⟩
      · simp [r3, r2, r1, r0, rA, nu]
      · rw [List.map_cons, hrO _ _ q1]; rfl
  · refine ac_frame [m] (hr c t off cap h4 h5) (by simp [r3, r2, r1, r0, rA, nu]) (fun v hv => ?_) (cold_p h2) ?_
    · rcases List.mem_singleton.1 hv with rfl
      exact (scop3_ok (n := 1) (by rfl)).1
    · rintro v h' ⟨c, cp, rfl, rfl, q1, q2, q3⟩
      refine ⟨_, rfl, c, cp, ?_, ?_, q1, q2, q3⟩
      · simp [r3, r2, r1, r0, rA, nu]
      · rw [List.map_cons, hrO _ _ q1]; rfl
/-- as long as it can be laid -/
theorem OwnSW_s (G) (step : Int) {h : List Obj} {m : Nat} (hm : h.length = m) {bs : Value} {l : List Bd} (hs : SlB h bs l) (hl : l.length ≤ 2932031007402) :
    AC Tryd.prog G 43 [.agg #[I64 step, bs]] h (OwnPost step l m h) :=
  own_lift (f := fun l => l) hm hs (fun _ => rfl) (OwnS_n G step) fun c t off cap hw _ => OwnS_r G step c t off cap l hw hl
theorem OwnS_s (G) (step : Int) {h : List Obj} {m : Nat} (hm : h.length = m) {bs : Value} {l : List Bd} (hs : SlB h bs l) (hl : l.length ≤ 1000000000000) :
    AC Tryd.prog G 43 [.agg #[I64 step, bs]] h (OwnPost step l m h) := OwnSW_s G step hm hs (by omega)
/-! ## Stores into a row of bodies -/
theorem seg_at (c : Array Value) (n : Nat) (vs : List Value) (hn : n + vs.length ≤ c.size) (j : Nat) :
    (⟨c.toList.take n ++ vs ++ c.toList.drop (n + vs.length)⟩ : Array Value)[j]? = if n ≤ j ∧ j < n + vs.length then vs[j - n]? else c[j]? := by
  have hl : (c.toList.take n).length = n := by simp; omega
  show (c.toList.take n ++ vs ++ c.toList.drop (n + vs.length)).toArray[j]? = _
  rw [List.getElem?_toArray]
  by_cases h1 : j < n
  · rw [if_neg (by omega), List.append_assoc, List.getElem?_append_left (by omega), List.getElem?_take, if_pos h1]
    simp
  · by_cases h2 : j < n + vs.length
    · rw [if_pos ⟨by omega, h2⟩, List.getElem?_append_left (by rw [List.length_append, hl]; omega), List.getElem?_append_right (by omega), hl]
    · rw [if_neg (by omega), List.getElem?_append_right (by rw [List.length_append, hl]; omega), List.length_append, hl, List.getElem?_drop, show n + vs.length + (j - (n + vs.length)) = j from by omega]
      simp
/-- n cells of body i are written -/
theorem write_bd {c : Array Value} {l : List Bd} {i q : Nat} {b b' : Bd} {vs : List Value} {k : List Value → Prop} (hw : WinB c 0 l) (hb : l[i]? = some b) (hq : q + vs.length ≤ 6) (hv : ∀ x ∈ vs, cleanV x = true)
    (hin : ∀ j, j < vs.length → b'.cells[q + j]? = vs[j]?) (hout : ∀ j, j < 6 → (j < q ∨ q + vs.length ≤ j) → b'.cells[j]? = b.cells[j]?)
    (h : ∀ c' : Array Value, ((∀ x ∈ c.toList, cleanV x = true) → ∀ x ∈ c'.toList, cleanV x = true) → WinB c' 0 (l.set i b') → k c'.toList) : writeK c.toList (0 + Int.toNat (i : Int) * 6 + q) vs k := by
  have e : 0 + Int.toNat (i : Int) * 6 + q = i * 6 + q := by simp
  rw [e]
  have hsz : i * 6 + 5 < c.size := by
    have := hw i b hb 5 (I64 b.z) rfl
    have := (Array.getElem?_eq_some_iff.1 this).1
    omega
  have hn : i * 6 + q + vs.length ≤ c.size := by omega
  refine writeK_of (by rw [Array.length_toList]; exact hn) ?_
  refine h ⟨c.toList.take (i * 6 + q) ++ vs ++ c.toList.drop (i * 6 + q + vs.length)⟩ (fun hc x hx => ?_) ?_
  · rcases List.mem_append.1 hx with hx | hx
    · rcases List.mem_append.1 hx with hx | hx
      · exact hc x (List.mem_of_mem_take hx)
      · exact hv x hx
    · exact hc x (List.mem_of_mem_drop hx)
  · intro j y hj p v hp
    have hp6 : p < 6 := (List.getElem?_eq_some_iff.1 hp).1
    rw [Nat.zero_add, seg_at c _ vs hn]
    rw [List.getElem?_set] at hj
    by_cases hji : i = j
    · subst hji
      rw [if_pos rfl, if_pos (List.getElem?_eq_some_iff.1 hb).1] at hj
      cases hj
      by_cases hr : i * 6 + q ≤ i * 6 + p ∧ i * 6 + p < i * 6 + q + vs.length
      · rw [if_pos hr, show i * 6 + p - (i * 6 + q) = p - q from by omega, ← hin (p - q) (by omega), show q + (p - q) = p from by omega]
        exact hp
      · rw [if_neg hr]
        rw [hout p hp6 (by omega)] at hp
        have := hw i b hb p v hp
        rwa [Nat.zero_add] at this
    · rw [if_neg hji] at hj
      rw [if_neg (by omega)]
      have := hw j y hj p v hp
      rwa [Nat.zero_add] at this
theorem three {c : Array Value} {l : List Bd} {i : Nat} {b : Bd} (hw : WinB c 0 l) (hb : l[i]? = some b) : ∃ a0 a1 a2 t, c = ⟨a0 :: a1 :: a2 :: t⟩ := by
  have := hw i b hb 5 (I64 b.z) rfl
  have hsz := (Array.getElem?_eq_some_iff.1 this).1
  obtain ⟨L⟩ := c
  match L, hsz with
  | a0 :: a1 :: a2 :: t, _ => exact ⟨a0, a1, a2, t, rfl⟩
  | [], h => simp at h
  | [_], h => simp at h
  | [_, _], h => simp at h; omega
/-- three cells, those behind the first three, of body i are written -/
theorem write_bd3 {a0 a1 a2 : Value} {t : List Value} {l : List Bd} {i : Nat} {b b' : Bd} {vs : List Value} {k : List Value → Prop} (hw : WinB ⟨a0 :: a1 :: a2 :: t⟩ 0 l) (hb : l[i]? = some b) (hq : 3 + vs.length ≤ 6) (hv : ∀ x ∈ vs, cleanV x = true)
    (hin : ∀ j, j < vs.length → b'.cells[3 + j]? = vs[j]?) (hout : ∀ j, j < 6 → (j < 3 ∨ 3 + vs.length ≤ j) → b'.cells[j]? = b.cells[j]?)
    (h : ∀ t' : List Value, ((∀ x ∈ (⟨a0 :: a1 :: a2 :: t⟩ : Array Value).toList, cleanV x = true) → ∀ x ∈ (⟨a0 :: a1 :: a2 :: t'⟩ : Array Value).toList, cleanV x = true) → WinB ⟨a0 :: a1 :: a2 :: t'⟩ 0 (l.set i b') → k t') : writeK t (0 + Int.toNat (i : Int) * 6) vs k := by
  have key := write_bd (c := ⟨a0 :: a1 :: a2 :: t⟩) (q := 3) (k := fun L => ∃ t', L = a0 :: a1 :: a2 :: t' ∧ k t') hw hb hq hv hin hout
  rw [writeK_iff] at key ⊢
  have hn : (0 + Int.toNat (i : Int) * 6) + vs.length ≤ t.length := by
    have h5 := hw i b hb 5 (I64 b.z) rfl
    have h6 := (Array.getElem?_eq_some_iff.1 h5).1
    have h7 : 0 + i * 6 + 5 < t.length + 3 := h6
    simp
    omega
  refine ⟨hn, ?_⟩
  have e1 : ∀ X : Nat, (a0 :: a1 :: a2 :: t).take (X + 3) ++ vs ++ (a0 :: a1 :: a2 :: t).drop (X + 3 + vs.length) = a0 :: a1 :: a2 :: (t.take X ++ vs ++ t.drop (X + vs.length)) := by
    intro X
    rw [show X + 3 + vs.length = (X + vs.length) + 3 from by omega]
    rfl
  refine h _ (fun hc x hx => ?_) ?_
  · have hx' : x = a0 ∨ x = a1 ∨ x = a2 ∨ x ∈ (t.take (0 + Int.toNat (i : Int) * 6) ++ vs ++ t.drop (0 + Int.toNat (i : Int) * 6 + vs.length)) := by simpa using hx
    rcases hx' with rfl | rfl | rfl | hx'
    · exact hc _ (by simp)
    · exact hc _ (by simp)
    · exact hc _ (by simp)
    · rcases List.mem_append.1 hx' with hx' | hx'
      · rcases List.mem_append.1 hx' with hx' | hx'
        · exact hc x (by have := List.mem_of_mem_take hx'; simp [this])
        · exact hv x hx'
      · exact hc x (by have := List.mem_of_mem_drop hx'; simp [this])
  · have hw2 : ∀ c' : Array Value, c' = ⟨a0 :: a1 :: a2 :: (t.take (0 + Int.toNat (i : Int) * 6) ++ vs ++ t.drop (0 + Int.toNat (i : Int) * 6 + vs.length))⟩ → WinB c' 0 (l.set i b') := by
      intro c' hc'
      have := write_bd (c := ⟨a0 :: a1 :: a2 :: t⟩) (q := 3) (k := fun L => WinB ⟨L⟩ 0 (l.set i b')) hw hb hq hv hin hout (fun c2 _ h2 => h2)
      rw [writeK_iff] at this
      obtain ⟨_, h3⟩ := this
      rw [hc', ← e1]
      exact h3
    exact hw2 _ rfl
theorem clean_all {c : Array Value} (h : ∀ x ∈ c.toList, cleanV x = true) (n : Nat) (t : TypeId) : (cellsOf (.cells c t)).all (scop1 n) = true := List.all_eq_true.2 fun x hx => clean_scopM (h x hx) n
end Go.Proofs.YtjpjnjidchdlbaaDoor
