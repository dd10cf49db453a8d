/-
  append, told on abstract states (no condition).
-/
import Derived.Test.YtjpjnjidchdlbaaDoorEngU
import Derived.Deep.AppendSrc
namespace Go.Proofs.YtjpjnjidchdlbaaDoor
set_option linter.unusedSimpArgs false
set_option linter.unusedVariables false
open Go Go.RowKit

section
variable {P : Program} {T : Tab} {G : List (Nat × Obj)} {ro : Option Nat} {r : Ren} {s : St} {a : Act} {w : World}
/-- the first n elements of a slice are these cells -/
inductive RowIs (h : List Obj) (sz : Nat) : Value → Nat → List Value → Prop
  | nil (c : Nat) : RowIs h sz (.slice none 0 c) 0 []
  | row {b off n c q : Nat} {xs : List Value} {ob : Obj} (hb : h[b]? = some ob) (ha : HasAt ob off xs) (hl : xs.length = n * sz) (hc : ∀ x ∈ xs, cleanV x = true) : RowIs h sz (.slice (some ⟨b, off, some q⟩) n c) n xs
theorem clean_one {v : Value} (h : cleanV v = true) : v.oneCell' = true := by
  cases v <;> first | rfl | (simp [cleanV] at h)
theorem RowIs.cells {h : List Obj} (R : RepH G r h w) {sz : Nat} {v : Value} {n : Nat} {xs : List Value} (H : RowIs h sz v n xs) :
    (c3 r v = .slice none 0 0 ∨ ∃ c, c3 r v = .slice none 0 c) ∧ n = 0 ∧ xs = [] ∨ ∃ p c, c3 r v = .slice (some p) n c ∧ p.spot = none ∧ xs.length = n * sz ∧ (∀ x ∈ xs, cleanV x = true) ∧ ∀ j x, xs[j]? = some x → w.cell? (p.add j) = some x := by
  cases H with
  | nil c => exact .inl ⟨.inr ⟨c, rfl⟩, rfl, rfl⟩
  | row hb ha hl hc =>
    rename_i b off c q ob
    refine .inr ⟨⟨r b, off, none⟩, c, rfl, rfl, hl, hc, fun j x hj => ?_⟩
    have hadd : (⟨r b, off, none⟩ : Addr).add j = ⟨r b, off + j, none⟩ := Addr.add_lit _ _ _
    rw [hadd]
    exact hasAt_ok R hb ha hc hj
theorem RowIs.src {h : List Obj} (R : RepH G r h w) {sz : Nat} {v : Value} {n : Nat} {xs : List Value} (H : RowIs h sz v n xs) {t e : TypeId} (ht : P.underlying t = some (.slice e)) : Src P sz t (c3 r v) n xs w := by
  rcases H.cells R with ⟨hv, rfl, rfl⟩ | ⟨p, c, hv, hs, hl, hc, hw⟩
  · rcases hv with hv | ⟨c, hv⟩ <;> rw [hv] <;> exact Src.ofNil w ht _
  · rw [hv]
    exact Src.ofSlice w ht p n c xs hl hw (fun x hx => clean_one (hc x hx))
theorem RowIs.first {h : List Obj} (R : RepH G r h w) {sz : Nat} {v : Value} {n : Nat} {xs : List Value} (H : RowIs h sz v n xs) : (Builtin.firstCells sz n (c3 r v)).run P w = .ok xs.toArray w := by
  rcases H.cells R with ⟨hv, rfl, rfl⟩ | ⟨p, c, hv, hs, hl, hc, hw⟩
  · rcases hv with hv | ⟨c, hv⟩ <;> rw [hv] <;> exact run_firstCells_none w _ _ _ _
  · rw [hv]
    exact run_firstCells_some w sz n p n c xs hl hw
theorem run_append_op {o : Oper} {x y : Operand} {t : TypeId} (hop : o.op = .call ⟨.builtin .append, #[x, y], #[t, t]⟩) :
    (execOp a.eval o).run P w = ((Builtin.append_ #[t, t] o.type #[a.eval x, a.eval y]).run P w).andThen fun v w => .ok (.value v) w := by
  obtain ⟨dst, op, type, pos, after, guard⟩ := o
  simp only at hop
  subst hop
  have e : (#[x, y] : Array Operand).map a.eval = #[a.eval x, a.eval y] := by simp
  simp only [execOp, resolve, Sem.run_bind, Sem.run_pure, Result.andThen_ok, invoke, builtin, e]
/-- there is no room: a new block -/
theorem ao_grow (hT : TabOk P T) {o : Oper} {x y : Operand} {t : TypeId} (hop : o.op = .call ⟨.builtin .append, #[x, y], #[t, t]⟩) {vx vy : Value} (hx : evK s x fun v => v = vx) (hy : evK s y fun v => v = vy)
    {i j : TI} {e : TypeId} (hi : tiAt T t = some i) (hib : i.bad = false) (hd : i.desc = .slice e) (hj : tiAt T e = some j) (hjb : j.bad = false)
    {lx cx ly : Nat} {olds news : List Value} {px : Option Addr} (hvx : vx = .slice px lx cx) (rx : RowIs s.h j.size vx lx olds) (ry : RowIs s.h j.size vy ly news) (hfull : cx < lx + ly) (hfit : (lx + ly) * j.bytes ≤ 140737488355328) (hn : lx + ly ≤ 140737488355328)
    {K : St → Prop} (h : ∀ cap, lx + ly ≤ cap → putK (grow s (.cells ⟨olds ++ news ++ (Builtin.zeroCells j.zero.cells (cap - (lx + ly))).toList⟩ e)) o.dst (slc s.h.length 0 (lx + ly) cap) K) : AO P G ro o s K := by
  unfold AO
  intro r a w R N Q hN
  obtain ⟨vx', e1, e2, rfl⟩ := evK_ok R hx
  obtain ⟨vy', f1, f2, rfl⟩ := evK_ok R hy
  have ti := hT t i hi hib
  have tj := hT e j hj hjb
  have hu : P.underlying t = some (.slice e) := by rw [← hd]; exact ti.und
  obtain ⟨z, z1, z2, z3, z4⟩ := tj.inf
  have Rd : RepH G r s.h w.drew := R.heap.same rfl
  have hold : (Builtin.firstCells z.size lx (c3 r vx')).run P w.drew = .ok olds.toArray w.drew := by rw [z2]; exact rx.first Rd
  have hs : Src P z.size t (c3 r vy') ly news w := by rw [z2]; exact ry.src R.heap hu
  have hc3 : ∃ px', c3 r vx' = .slice px' lx cx := by rw [hvx]; cases px <;> exact ⟨_, rfl⟩
  obtain ⟨px', hpx⟩ := hc3
  have hrun := run_append_grow_src (P := P) w t t o.type e z j.zero hu z1 z4 px' lx cx olds (by rw [← hpx]; exact hold) (c3 r vy') ly news hs hfull (by omega) (growslice_fits hfull (by rw [z3]; exact hfit))
  rw [← hpx] at hrun
  let cs : Array Value := ⟨olds ++ news ++ (Builtin.zeroCells j.zero.cells (grownCap w (lx + ly) cx e - (lx + ly))).toList⟩
  have hcse : (olds ++ news).toArray ++ Builtin.zeroCells j.zero.cells (grownCap w (lx + ly) cx e - (lx + ly)) = cs := by
    apply Array.ext'
    simp [cs]
  rw [hcse] at hrun
  have hcl : ∀ u ∈ olds ++ news, cleanV u = true := by
    intro u hu'
    rcases List.mem_append.1 hu' with h1 | h1
    · rcases rx.cells R.heap with ⟨_, _, rfl⟩ | ⟨p, c, _, _, _, hc, _⟩
      · cases h1
      · exact hc u h1
    · rcases ry.cells R.heap with ⟨_, _, rfl⟩ | ⟨p, c, _, _, _, hc, _⟩
      · cases h1
      · exact hc u h1
  have hzc : ∀ u ∈ (Builtin.zeroCells j.zero.cells (grownCap w (lx + ly) cx e - (lx + ly))).toList, s1 0 u := by
    intro u hu'
    simp only [Builtin.zeroCells, Array.toList_map, List.mem_map] at hu'
    obtain ⟨q, hq, rfl⟩ := hu'
    by_cases h0 : j.zero.cells.size = 0
    · rw [h0] at hq; simp at hq
    · have hlt : q % j.zero.cells.size < j.zero.cells.size := Nat.mod_lt _ (by omega)
      rw [getElem!_pos (c := j.zero.cells) (i := q % j.zero.cells.size) (h := hlt)]
      exact (zero_cells tj.zsc r).2 _ (by simp)
  have hcs0 : ∀ u ∈ cs.toList, s1 0 u := by
    intro u hu'
    rcases List.mem_append.1 hu' with h1 | h1
    · exact clean_sc (hcl u h1) 0
    · exact hzc u h1
  have hcs : ∀ u ∈ cs.toList, s1 s.h.length u := fun u hu' => s1_mono (Nat.zero_le _) (hcs0 u hu')
  have hm : cs.map (c1 r) = cs := map_self _ _ fun u hu' => c1_zero (hcs0 u hu') r
  have R1 := (Rd.push (c := cs) e hcs)
  rw [hm] at R1
  have S1 : Step r s.h w (rpush r s.h w.drew) (s.h ++ [.cells cs e]) (w.drew.alloc (.cells cs e)) := (Step.same (w := w) (w' := w.drew) rfl rfl rfl rfl).trans (Step.push r s.h w.drew (.cells cs e) (.cells cs e))
  have R2 : RepS G (rpush r s.h w.drew) ⟨s.t, s.h ++ [.cells cs e], s.d⟩ a (w.drew.alloc (.cells cs e)) := R.move R1 (by simp) S1.ext S1.dfr
  have hk : putK ⟨s.t, s.h ++ [Obj.cells cs e], s.d⟩ o.dst (slc s.h.length 0 (lx + ly) (grownCap w (lx + ly) cx e)) K := h (grownCap w (lx + ly) cx e) (grownCap_ge w _ _ _)
  obtain ⟨s', g1, g2, g3⟩ := putK_ok R2 (v := slc s.h.length 0 (lx + ly) (grownCap w (lx + ly) cx e)) (by intro q hq; simp) hk
  refine wp_of_value (by intro c; rw [hop]; simp) (v := .slice (some ⟨w.heap.size, 0, none⟩) (lx + ly) (grownCap w (lx + ly) cx e)) ?_ (hN _ s' _ _ (by rw [g2]; exact S1) (by rw [c3_slc_push] at g1; exact g1) g3)
  rw [run_append_op hop, e1, f1, hrun]
  rfl
/-- there is room in a block of the frame's own -/
theorem ao_room (hT : TabOk P T) {o : Oper} {x y : Operand} {t : TypeId} (hop : o.op = .call ⟨.builtin .append, #[x, y], #[t, t]⟩) {vy : Value} {b off lx cx ly : Nat} (hx : evK s x fun v => v = slc b off lx cx) (hy : evK s y fun v => v = vy)
    {i j : TI} {e e' : TypeId} (hi : tiAt T t = some i) (hib : i.bad = false) (hd : i.desc = .slice e) (hj : tiAt T e = some j) (hjb : j.bad = false)
    {news : List Value} {c : Array Value} {f : Nat × Nat} (hb : s.h[b]? = some (.cells c e' f)) (hf : f.1 = 0) (ry : RowIs s.h j.size vy ly news) (hroom : lx + ly ≤ cx) (hcap : off + (lx + ly) * j.size ≤ c.size)
    {K : St → Prop} (h : putK (setH s (s.h.set b (.cells ⟨c.toList.take (off + lx * j.size) ++ news ++ c.toList.drop (off + lx * j.size + news.length)⟩ e'))) o.dst (slc b off (lx + ly) cx) K) : AO P G ro o s K := by
  unfold AO
  intro r a w R N Q hN
  obtain ⟨vx', e1, e2, rfl⟩ := evK_ok R hx
  obtain ⟨vy', f1, f2, rfl⟩ := evK_ok R hy
  have ti := hT t i hi hib
  have tj := hT e j hj hjb
  have hu : P.underlying t = some (.slice e) := by rw [← hd]; exact ti.und
  obtain ⟨z, z1, z2, z3, z4⟩ := tj.inf
  have hs : Src P z.size t (c3 r vy') ly news w := by rw [z2]; exact ry.src R.heap hu
  have hnl : news.length = ly * j.size := by rw [← z2]; exact hs.newsLen
  have hmul : (lx + ly) * j.size = lx * j.size + ly * j.size := Nat.add_mul _ _ _
  have hw : w.heap[r b]? = some (.cells (c.map (c1 r)) e' (0, 0)) := by
    have := R.heap.ok b _ hb
    simpa only [ObjOk, if_pos hf] using this
  have hst := run_storeCells (P := P) (r b) (off + lx * z.size) e' news 0 (c.map (c1 r)) w hw hs.one (by rw [z2]; simp; omega)
  simp only [Nat.add_zero] at hst
  have hrun : (Builtin.append_ #[t, t] o.type #[.slice (some ⟨r b, off, none⟩) lx cx, c3 r vy']).run P w = .ok (.slice (some ⟨r b, off, none⟩) (lx + ly) cx)
      { w with heap := w.heap.setIfInBounds (r b) (.cells ((c.map (c1 r)).toList.take (off + lx * z.size) ++ news ++ (c.map (c1 r)).toList.drop (off + lx * z.size + news.length)).toArray e' (0, 0)) } := by
    rcases hs.kind with ⟨e'', hk⟩ | hk <;> simp [Builtin.append_, run_underlying hu, sizeOf, typeInfo, z1, hs.len, hroom, hs.cells, Addr.add_lit, hst]
  have hcl : ∀ u ∈ news, cleanV u = true := by
    rcases ry.cells R.heap with ⟨_, _, rfl⟩ | ⟨p, c, _, _, _, hc, _⟩
    · intro u hu; cases hu
    · exact hc
  let c' : Array Value := ⟨c.toList.take (off + lx * j.size) ++ news ++ c.toList.drop (off + lx * j.size + news.length)⟩
  have hc' : ∀ u ∈ c'.toList, s1 s.h.length u := by
    intro u hu
    simp only [c', List.mem_append] at hu
    rcases hu with (hu | hu) | hu
    · exact R.heap.sc b _ hb u (List.mem_of_mem_take hu)
    · exact clean_sc (hcl u hu) _
    · exact R.heap.sc b _ hb u (List.mem_of_mem_drop hu)
  have hset : ((c.map (c1 r)).toList.take (off + lx * z.size) ++ news ++ (c.map (c1 r)).toList.drop (off + lx * z.size + news.length)).toArray = c'.map (c1 r) := by
    apply Array.ext'
    simp only [c', Array.toList_map, List.map_append, List.map_take, List.map_drop]
    rw [z2]
    congr 2
    conv => lhs; rw [← List.map_id news]
    exact List.map_congr_left fun u hu => (clean_c1 (hcl u hu) r).symm
  have H' := R.heap.set hb hf hc'
  have S' : Step r s.h w r (s.h.set b (.cells c' e')) { w with heap := w.heap.setIfInBounds (r b) (.cells (c'.map (c1 r)) e' (0, 0)) } := Step.set (c' := c') hb hf _
  have R' : RepS G r ⟨s.t, s.h.set b (.cells c' e'), s.d⟩ a { w with heap := w.heap.setIfInBounds (r b) (.cells (c'.map (c1 r)) e' (0, 0)) } := R.move H' (by simp) (fun _ _ => rfl) S'.dfr
  have hbl : b < s.h.length := (List.getElem?_eq_some_iff.1 hb).1
  obtain ⟨s', g1, g2, g3⟩ := putK_ok (s := ⟨s.t, s.h.set b (.cells c' e'), s.d⟩) R' (v := slc b off (lx + ly) cx) (by intro q hq; simpa using hbl) h
  refine wp_of_value (by intro c; rw [hop]; simp) (v := .slice (some ⟨r b, off, none⟩) (lx + ly) cx) ?_ (hN r s' _ _ (by rw [g2]; exact S') g1 g3)
  rw [run_append_op hop, e1, f1]
  have : c3 r (slc b off lx cx) = .slice (some ⟨r b, off, none⟩) lx cx := rfl
  rw [this, hrun, hset]
  rfl
/-- a literal's bytes: the block is read alone from here on -/
theorem RepH.cool {h : List Obj} (R : RepH G r h w) {b : Nat} {c : Array Value} {t : TypeId} {f g : Nat × Nat} (hb : h[b]? = some (.cells c t f)) (hf : f.1 = 0) :
    RepH G r (h.set b (.cells c t (1, 0))) { w with heap := w.heap.setIfInBounds (r b) (.cells (c.map (c1 r)) t g) } := by
  have hlt : b < h.length := (List.getElem?_eq_some_iff.1 hb).1
  have hhot : hot (.cells c t f) = true := by simp [hot, hf]
  have hrb : r b < w.heap.size := R.lt hb rfl
  have old : ∀ i o, (h.set b (.cells c t (1, 0)))[i]? = some o → (i ≠ b ∧ h[i]? = some o) ∨ (i = b ∧ o = .cells c t (1, 0)) := by
    intro i o hi
    rw [List.getElem?_set] at hi
    by_cases e : b = i
    · rw [if_pos e, if_pos hlt] at hi
      cases hi; exact .inr ⟨e.symm, rfl⟩
    · rw [if_neg e] at hi; exact .inl ⟨fun h => e h.symm, hi⟩
  refine ⟨fun i u hi => ?_, fun i j u v hi hj hu ha hr => ?_, fun i u hi v hv => ?_, fun gl u hg => ?_⟩
  · rcases old i u hi with ⟨h1, h2⟩ | ⟨rfl, rfl⟩
    · by_cases ha : alive u = true
      · refine ObjOk.congr (h := h) (fun _ _ => rfl) (R.sc i u h2) ?_ (R.ok i u h2)
        have : r b ≠ r i := fun e => h1 (R.inj b i _ u hb h2 hhot ha e).symm
        simp [this]
      · cases u <;> first | trivial | (simp [alive] at ha)
    · refine ⟨g, ?_⟩
      simp [hrb]
  · rcases old i u hi with ⟨h1, h2⟩ | ⟨rfl, rfl⟩
    · rcases old j v hj with ⟨g1, g2⟩ | ⟨rfl, rfl⟩
      · exact R.inj i j u v h2 g2 hu ha hr
      · exact R.inj i _ u _ h2 hb hu rfl hr
    · simp [hot] at hu
  · rw [List.length_set]
    rcases old i u hi with ⟨h1, h2⟩ | ⟨rfl, rfl⟩
    · exact R.sc i u h2 v hv
    · exact R.sc _ _ hb v hv
  · obtain ⟨⟨c0', t', f', rfl, h1, f'', h2⟩, h3⟩ := R.gl gl u hg
    have hne : r b ≠ gl := h3 b _ hb hhot
    refine ⟨⟨c0', t', f', rfl, h1, f'', by simp [hne, h2]⟩, fun i u hi hu => ?_⟩
    rcases old i u hi with ⟨g1, g2⟩ | ⟨rfl, rfl⟩
    · exact h3 i u g2 hu
    · simp [hot] at hu
theorem ao_cool (hT : TabOk P T) {o : Oper} {x : Operand} {t : TypeId} (hop : o.op = .convert t t x) {b off l c : Nat} (hx : evK s x fun v => v = slc b off l c)
    {i j : TI} {e e' : TypeId} (hi : tiAt T t = some i) (hib : i.bad = false) (hd : i.desc = .slice e) (hj : tiAt T e = some j) (hjb : j.bad = false) (hjd : j.desc = .int .u8)
    {arr : Array Value} {f : Nat × Nat} (hb : s.h[b]? = some (.cells arr e' f)) (hf : f.1 = 0)
    {K : St → Prop} (h : putK ⟨s.t, s.h.set b (.cells arr e' (1, 0)), s.d⟩ o.dst (slc b off l c) K) : AO P G ro o s K := by
  unfold AO
  intro r a w R N Q hN
  obtain ⟨vx', e1, e2, rfl⟩ := evK_ok R hx
  have ti := hT t i hi hib
  have tj := hT e j hj hjb
  have hu : P.underlying t = some (.slice e) := by rw [← hd]; exact ti.und
  have hu2 : P.underlying e = some (.int .u8) := by rw [← hjd]; exact tj.und
  have hw : w.heap[r b]? = some (.cells (arr.map (c1 r)) e' (0, 0)) := by
    have := R.heap.ok b _ hb
    simpa only [ObjOk, if_pos hf] using this
  have hbl : b < s.h.length := (List.getElem?_eq_some_iff.1 hb).1
  have hrun : (convert t t (.slice (some ⟨r b, off, none⟩) l c)).run P w = .ok (.slice (some ⟨r b, off, none⟩) l c)
      { w with heap := w.heap.setIfInBounds (r b) (.cells (arr.map (c1 r)) e' (arr.size, arr.size + 1)) } := by
    have hsh : w.shape? (r b) = some (e', arr.size) := by
      unfold World.shape?
      rw [hw]
      simp
    have hfz : w.freeze ⟨r b, arr.size, none⟩ 1 = { w with heap := w.heap.setIfInBounds (r b) (.cells (arr.map (c1 r)) e' (arr.size, arr.size + 1)) } := by
      have hlt : r b < w.heap.size := (Array.getElem?_eq_some_iff.1 hw).1
      have hg : w.heap[r b] = .cells (arr.map (c1 r)) e' (0, 0) := (Array.getElem?_eq_some_iff.1 hw).2
      unfold World.freeze
      rw [if_neg (by decide)]
      congr 1
      apply Array.ext_getElem?
      intro q
      by_cases hq : r b = q
      · subst hq
        rw [Array.getElem?_modify, if_pos rfl, Array.getElem?_setIfInBounds_self_of_lt hlt, hw]
        simp
      · rw [Array.getElem?_modify, if_neg hq, Array.getElem?_setIfInBounds_ne hq]
    simp [convert, run_underlying hu, run_underlying hu2, markStringish, hsh]
    exact hfz
  have H' := R.heap.cool (g := (arr.size, arr.size + 1)) hb hf
  have S' : Step r s.h w r (s.h.set b (.cells arr e' (1, 0))) { w with heap := w.heap.setIfInBounds (r b) (.cells (arr.map (c1 r)) e' (arr.size, arr.size + 1)) } :=
    Step.setO hb (by simp [hot, hf]) (by intro d hd'; cases hd') _
  have R' : RepS G r ⟨s.t, s.h.set b (.cells arr e' (1, 0)), s.d⟩ a { w with heap := w.heap.setIfInBounds (r b) (.cells (arr.map (c1 r)) e' (arr.size, arr.size + 1)) } := R.move H' (by simp) (fun _ _ => rfl) S'.dfr
  obtain ⟨s', g1, g2, g3⟩ := putK_ok R' (v := slc b off l c) (by intro q hq; simpa using hbl) h
  refine wp_of_value (by intro c; rw [hop]; simp) (v := .slice (some ⟨r b, off, none⟩) l c) ?_ (hN r s' _ _ (by rw [g2]; exact S') g1 g3)
  have he : (execOp a.eval o).run P w = ((convert t t (a.eval x)).run P w).andThen fun v w => .ok (.value v) w := by
    obtain ⟨dst, op, type, pos, after, guard⟩ := o
    simp only at hop
    subst hop
    simp only [execOp, Sem.run_bind, Sem.run_pure, Result.andThen_ok]
  rw [he, e1]
  have : c3 r (slc b off l c) = .slice (some ⟨r b, off, none⟩) l c := rfl
  rw [this, hrun]
  rfl
theorem toList_loop (bs : ByteArray) : ∀ (n i : Nat) (l : List UInt8), bs.size - i = n → ByteArray.toList.loop bs i l = l.reverse ++ bs.data.toList.drop i := by
  intro n
  induction n with
  | zero =>
    intro i l hn
    unfold ByteArray.toList.loop
    have hsz : bs.size = bs.data.toList.length := by rw [Array.length_toList]; rfl
    rw [if_neg (by omega), List.drop_eq_nil_of_le (by omega), List.append_nil]
  | succ n ih =>
    intro i l hn
    unfold ByteArray.toList.loop
    have hsz : bs.size = bs.data.toList.length := by rw [Array.length_toList]; rfl
    have hlt : i < bs.data.toList.length := by omega
    rw [if_pos (by omega), ih (i + 1) _ (by omega), List.drop_eq_getElem_cons hlt]
    have : bs.get! i = bs.data.toList[i] := by
      obtain ⟨d⟩ := bs
      simp [ByteArray.get!]
      have : i < d.size := by simpa using hlt
      simp [this]
    simp [this]
theorem toList_mk (l : List UInt8) : (⟨l.toArray⟩ : ByteArray).toList = l := by
  unfold ByteArray.toList
  rw [toList_loop _ _ 0 [] rfl]
  simp
end
end Go.Proofs.YtjpjnjidchdlbaaDoor
