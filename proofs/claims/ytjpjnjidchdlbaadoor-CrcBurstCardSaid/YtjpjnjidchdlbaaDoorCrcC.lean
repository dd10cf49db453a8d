/-
  Slices of bytes in whatever heap; Go, Seal, Equal, same over them.
-/
import Derived.Test.YtjpjnjidchdlbaaDoorCrcB
namespace Go.Proofs.YtjpjnjidchdlbaaDoor
set_option linter.unusedSimpArgs false
set_option linter.unusedVariables false
open Go
set_option maxRecDepth 100000
set_option maxHeartbeats 4000000
/-- v is a slice of the bytes l -/
def Sl (h : List Obj) (v : Value) (l : List UInt8) : Prop := (v = .slice none 0 0 ∧ l = []) ∨
  ∃ (m off cap : Nat) (c : Array Value) (t : TypeId), v = slc m off l.length cap ∧ (h[m]? = some (.pending c t) ∨ ((∀ x ∈ c.toList, cleanV x = true) ∧ ∃ g, h[m]? = some (.cells c t g))) ∧ Win c off l ∧ l.length ≤ cap
theorem Sl.pre {h0 h : List Obj} {v : Value} {l : List UInt8} (H : Sl h0 v l) (hp : Pre h0 h) : Sl h v l := by
  rcases H with H | ⟨m, off, cap, c, t, h1, h2 | ⟨h2, g, h3⟩, h4⟩
  · exact .inl H
  · exact .inr ⟨m, off, cap, c, t, h1, .inl (hp _ _ h2), h4⟩
  · exact .inr ⟨m, off, cap, c, t, h1, .inr ⟨h2, g, hp _ _ h3⟩, h4⟩
theorem Sl.app {h : List Obj} {v : Value} {l : List UInt8} (H : Sl h v l) (news : List Obj) : Sl (h ++ news) v l :=
  H.pre fun b o hb => by rw [List.getElem?_append_left (List.getElem?_eq_some_iff.1 hb).1]; exact hb
theorem clean_scop {v : Value} (h : cleanV v = true) (n : Nat) : scop1 n v = true := by
  cases v <;> first | rfl | (simp [cleanV] at h; done) | skip
  · rename_i p; cases p <;> first | rfl | (simp [cleanV] at h)
  · rename_i p l c; cases p <;> first | rfl | (simp [cleanV] at h)
theorem closed2_scop {v : Value} (h : closed2 v = true) (n : Nat) : scop2 n v = true := by
  by_cases hv : ∃ cs, v = .agg cs
  · obtain ⟨cs, rfl⟩ := hv
    have hc : ∀ x ∈ cs.toList, cleanV x = true := List.all_eq_true.1 h
    exact List.all_eq_true.2 fun x hx => clean_scop (hc x hx) n
  · have e1 : closed2 v = cleanV v := by cases v <;> first | rfl | exact absurd ⟨_, rfl⟩ hv
    have e2 : scop2 n v = scop1 n v := by cases v <;> first | rfl | exact absurd ⟨_, rfl⟩ hv
    rw [e2]; exact clean_scop (e1 ▸ h) n
theorem closed_scop {v : Value} (h : closedV v = true) {n : Nat} : scop3 n v = true := by
  by_cases hv : ∃ cs, v = .tuple cs
  · obtain ⟨vs, rfl⟩ := hv
    have hc : ∀ x ∈ vs.toList, closed2 x = true := List.all_eq_true.1 h
    exact List.all_eq_true.2 fun x hx => closed2_scop (hc x hx) n
  · have e1 : closedV v = closed2 v := by cases v <;> first | rfl | exact absurd ⟨_, rfl⟩ hv
    have e2 : scop3 n v = scop2 n v := by cases v <;> first | rfl | exact absurd ⟨_, rfl⟩ hv
    rw [e2]; exact closed2_scop (e1 ▸ h) n
/-- from a small heap to whatever heap: a call that reads one slice, behind closed arguments -/
theorem lift_s {P : Program} {G : List (Nat × Obj)} {f : FuncId} {pre : List Value} {l : List UInt8} {K : Value} {h : List Obj} {v : Value} (hpre : pre.all closedV = true) (hK : closedV K = true)
    (hnil : l = [] → AC P G f (pre ++ [.slice none 0 0]) [] (fun u h => u = K ∧ h = []))
    (hrow : ∀ (c : Array Value) (t : TypeId) (off cap : Nat), Win c off l → l.length ≤ cap → AC P G f (pre ++ [slc 0 off l.length cap]) [.pending c t] (fun u h => u = K ∧ h = [.pending c t]))
    (hs : Sl h v l) : AC P G f (pre ++ [v]) h (fun u h' => u = K ∧ h' = h) := by
  have hcl : ∀ x ∈ pre, closedV x = true := List.all_eq_true.1 hpre
  rcases hs with ⟨rfl, hl⟩ | ⟨m, off, cap, c, t, rfl, h2, h4, h5⟩
  · refine ac_pure (hnil hl) ?_ ?_
    · simp only [List.all_append, hpre, Bool.true_and]; rfl
    · rintro u h' ⟨rfl, rfl⟩
      exact ⟨hK, rfl, rfl, rfl⟩
  · refine ac_read [m] (hrow c t off cap h4 h5) ?_ ?_ ⟨h2, trivial⟩ ?_
    · rw [List.map_append]
      congr 1
      conv => lhs; rw [← List.map_id pre]
      exact List.map_congr_left fun x hx => ((closed_ok (hcl x hx) 0).2 _).symm
    · simp only [List.all_append, Bool.and_eq_true]
      refine ⟨List.all_eq_true.2 fun x hx => closed_scop (hcl x hx), rfl⟩
    · rintro u h' ⟨rfl, rfl⟩
      exact ⟨hK, rfl, rfl, rfl⟩
theorem Go_nil (tt : TypeId) (s : BitVec 32) : AC Tryd.prog (GC tt) 17 [W32 s, .slice none 0 0] [] (fun v h => v = W32 s ∧ h = []) := by
  refine ac_of_body tabOk has17 ?_
  unfold BodyOk
  conv => whnf
  refine ac_of_body tabOk has51 ?_
  unfold BodyOk
  conv => whnf
  refine ⟨rfl, fin_all [_] [_] rfl rfl rfl rfl rfl ?_⟩
  conv => whnf
  refine aw_rangeK tabOk ?_
  conv => whnf
  intro ln fn
  refine ac_of_body tabOk has65 ?_
  unfold BodyOk
  conv => whnf
  refine aw_rounds tabOk 1 ?_
  conv => whnf
  refine And.intro rfl (fin_turnedK rfl ?_)
  conv => whnf
  repeat' first
    | (refine And.intro (Eq.refl true) ?_)
    | (refine And.intro rfl (And.intro (fun h => by cases h) ?_); conv => whnf)
    | (refine And.intro rfl (And.intro rfl ?_); conv => whnf)
    | (refine And.intro rfl ?_; conv => whnf)
  refine fin_turnedK rfl ?_
  conv => whnf
  exact ⟨rfl, rfl⟩
theorem Go_s (tt : TypeId) (s : BitVec 32) {h : List Obj} {v : Value} {l : List UInt8} (hs : Sl h v l) (hl : l.length ≤ 1000000000000) : AC Tryd.prog (GC tt) 17 [W32 s, v] h (fun u h' => u = W32 (goF s l) ∧ h' = h) := by
  refine lift_s (pre := [W32 s]) rfl rfl (fun he => ?_) (fun c t off cap hw _ => Go_row tt t s c off cap l hw hl) hs
  subst he
  exact Go_nil tt s
def sealF (l : List UInt8) : BitVec 32 := ~~~ goF 4294967295#32 l
theorem not_w (s : BitVec 32) : wrapS .u32 (((BitVec.ofInt IntKind.u32.bits (if IntKind.u32.signed then -1 else IntKind.u32.max) ^^^ BitVec.ofInt IntKind.u32.bits (s.toNat : Int)).toNat : Nat) : Int) = ((~~~ s).toNat : Int) := by
  have e : (if IntKind.u32.signed then -1 else IntKind.u32.max : Int) = 4294967295 := by decide
  rw [e, xor_32, ofInt_32]
  have hx : BitVec.ofInt 32 4294967295 ^^^ s = ~~~ s := BitVec.allOnes_xor
  rw [hx]
theorem has19 : Has Tryd.prog 19 Tryd.f19 := ⟨Tryd.func19, by kernel_rfl, by kernel_rfl⟩
theorem Seal_s (tt : TypeId) {h : List Obj} {v : Value} {l : List UInt8} (hs : Sl h v l) (hl : l.length ≤ 1000000000000) : AC Tryd.prog (GC tt) 19 [v] h (fun u h' => u = W32 (sealF l) ∧ h' = h) := by
  refine lift_s (pre := []) rfl rfl (fun he => ?_) (fun c t off cap hw _ => ?_) hs
  · subst he
    refine ac_of_body tabOk has19 ?_
    unfold BodyOk
    conv => whnf
    refine ac_mono (Go_nil tt 4294967295#32) ?_
    rintro v h' ⟨rfl, rfl⟩
    conv => whnf
    refine ⟨rfl, fin_turnedK rfl ?_⟩
    conv => whnf
    exact ⟨by rw [not_w]; rfl, rfl⟩
  · refine ac_of_body tabOk has19 ?_
    unfold BodyOk
    conv => whnf
    refine ac_mono (Go_row tt t 4294967295#32 c off cap l hw hl) ?_
    rintro v h' ⟨rfl, rfl⟩
    conv => whnf
    refine ⟨rfl, fin_turnedK rfl ?_⟩
    conv => whnf
    exact ⟨by rw [not_w]; rfl, rfl⟩
/-- the body hands back a closed value, and has laid nothing -/
theorem fin_self {h0 : List Obj} {k : Value → List Obj → Prop} {v : Value} {s : St} (hv : closedV v = true) (hs : s.h = h0) (hk : k v h0) : Fin h0 k v s := by
  refine ⟨h0, [], v, [], ((closed_ok hv 0).2 _).symm, (closed_ok hv _).1, rfl, fun i o hi => .inl ⟨hi, by rw [hs]; exact hi⟩, rfl, fun j o hj => by simp at hj, List.nodup_nil, by simpa using hk⟩
theorem has21 : Has Tryd.prog 21 Tryd.f21 := ⟨Tryd.func21, by kernel_rfl, by kernel_rfl⟩
theorem has49 : Has Tryd.prog 49 Tryd.f49 := ⟨Tryd.func49, by kernel_rfl, by kernel_rfl⟩
theorem win_at {c : Array Value} {off : Nat} {l : List UInt8} (h : Win c off l) : ∀ j x, (l.map cU8)[j]? = some x → c[off + j]? = some x := by
  intro j x hj
  rw [List.getElem?_map] at hj
  obtain ⟨b, hb, rfl⟩ := Option.map_eq_some_iff.1 hj
  exact h j b hb
theorem Equal21_s (G) {h : List Obj} {v w : Value} {l m : List UInt8} (hs : Sl h v l) (ht : Sl h w m) : AC Tryd.prog G 21 [v, w] h (fun u h' => u = .bool (l == m) ∧ h' = h) := by
  have e0 : ByteArray.empty.toList = [] := by simp
  rcases hs with ⟨rfl, rfl⟩ | ⟨m1, off1, cap1, x1, t1, rfl, h2 | ⟨_, gg, h2⟩, h4, h5⟩ <;> rcases ht with ⟨rfl, rfl⟩ | ⟨m2, off2, cap2, x2, t2, rfl, g2 | ⟨_, gg2, g2⟩, g4, g5⟩
  all_goals
    refine ac_of_body tabOk has21 ?_
    unfold BodyOk
    conv => whnf
    repeat' first
      | (refine nthK_of (l := h) h2 ⟨l, rfl, win_at h4, ?_⟩; conv => whnf)
      | (refine nthK_of (l := h) g2 ⟨m, rfl, win_at g4, ?_⟩; conv => whnf)
    refine ⟨rfl, fin_self rfl rfl ⟨?_, rfl⟩⟩
    simp only [toList_mk, e0]
theorem Equal49_s (G) {h : List Obj} {v w : Value} {l m : List UInt8} (hs : Sl h v l) (ht : Sl h w m) : AC Tryd.prog G 49 [v, w] h (fun u h' => u = .bool (l == m) ∧ h' = h) := by
  have e0 : ByteArray.empty.toList = [] := by simp
  rcases hs with ⟨rfl, rfl⟩ | ⟨m1, off1, cap1, x1, t1, rfl, h2 | ⟨_, gg, h2⟩, h4, h5⟩ <;> rcases ht with ⟨rfl, rfl⟩ | ⟨m2, off2, cap2, x2, t2, rfl, g2 | ⟨_, gg2, g2⟩, g4, g5⟩
  all_goals
    refine ac_of_body tabOk has49 ?_
    unfold BodyOk
    conv => whnf
    repeat' first
      | (refine nthK_of (l := h) h2 ⟨l, rfl, win_at h4, ?_⟩; conv => whnf)
      | (refine nthK_of (l := h) g2 ⟨m, rfl, win_at g4, ?_⟩; conv => whnf)
    refine ⟨rfl, fin_self rfl rfl ⟨?_, rfl⟩⟩
    simp only [toList_mk, e0]
end Go.Proofs.YtjpjnjidchdlbaaDoor
