/-
  MomentMoved, the plain law (no condition).
-/
import Derived.Test.YtjpjnjidchdlbaaDoorMomY
namespace Go.Proofs.YtjpjnjidchdlbaaDoor
set_option linter.unusedSimpArgs false
set_option linter.unusedVariables false
open Go
set_option maxRecDepth 100000
set_option maxHeartbeats 4000000
theorem sum1_map (g : Bd → Int) (f : Bd → Bd) : ∀ (l : List Int) (bl : List Bd), sum1 g (l.zip (bl.map f)) = sum1 (fun b => g (f b)) (l.zip bl)
  | [], bl => by simp [sum1]
  | m :: l, [] => by simp [sum1]
  | m :: l, b :: bl => by
    rw [List.map_cons, List.zip_cons_cons, List.zip_cons_cons, sum1, sum1, sum1_map g f l bl]
theorem sumF_map (of : Bd → I3) (f : Bd → Bd) (l : List Int) (bl : List Bd) : sumF of l (bl.map f) = sumF (fun b => of (f b)) l bl := by
  rw [sumF_eq, sumF_eq, sum1_map, sum1_map, sum1_map]
theorem sum1_lin {g1 g2 u v : Bd → Int} (p q : Int) : ∀ (l : List Int) (bl : List Bd), (∀ b ∈ bl, (18446744073709551616 : Int) ∣ g1 b - g2 b - (p * u b - q * v b)) →
    (18446744073709551616 : Int) ∣ sum1 g1 (l.zip bl) - sum1 g2 (l.zip bl) - (p * sum1 u (l.zip bl) - q * sum1 v (l.zip bl))
  | [], bl, h => by simp [sum1]
  | m :: l, [], h => by simp [sum1]
  | m :: l, b :: bl, h => by
    have ih := sum1_lin p q l bl fun b hb => h b (List.mem_cons_of_mem _ hb)
    have h1 := Int.dvd_trans (h b List.mem_cons_self) (Int.dvd_mul_left m _)
    have e : sum1 g1 ((m :: l).zip (b :: bl)) - sum1 g2 ((m :: l).zip (b :: bl)) - (p * sum1 u ((m :: l).zip (b :: bl)) - q * sum1 v ((m :: l).zip (b :: bl))) = m * (g1 b - g2 b - (p * u b - q * v b)) + (sum1 g1 (l.zip bl) - sum1 g2 (l.zip bl) - (p * sum1 u (l.zip bl) - q * sum1 v (l.zip bl))) := by
      rw [List.zip_cons_cons]
      simp only [sum1]
      grind
    rw [e]
    exact Int.dvd_add h1 ih
theorem lin_eq {A B C E p q : Int} (h : (18446744073709551616 : Int) ∣ A - B - (p * C - q * E)) : wrapS .i64 (wrapS .i64 A - wrapS .i64 B) = wrapS .i64 (wrapS .i64 (p * wrapS .i64 C) - wrapS .i64 (q * wrapS .i64 E)) := wr_eq (by
  have h1 := wr_dvd A
  have h2 := wr_dvd B
  have h3 := Int.dvd_trans (wr_dvd C) (Int.dvd_mul_left p _)
  have h4 := Int.dvd_trans (wr_dvd E) (Int.dvd_mul_left q _)
  have h5 := wr_dvd (p * wrapS .i64 C)
  have h6 := wr_dvd (q * wrapS .i64 E)
  rw [Int.mul_sub] at h3 h4
  omega)
theorem rwin_in {n x : Int} (h : rwin n x = true) (hn0 : 0 ≤ n) (hn : n ≤ 1000000000000) : inB n x := by
  unfold rwin at h
  rw [wrapI (by omega) (by omega)] at h
  simp only [Bool.and_eq_true, Bool.not_eq_true', decide_eq_false_iff_not, Bool.or_eq_false_iff] at h
  unfold inB
  omega
theorem fits_mov {l : List Int} {g b tp nr me step x y z : Int} {bl : List Bd} (h : fitsF l g b tp nr me step bl = true) (hm : ∀ b ∈ bl, okM x y z b = true) : fitsF l g b tp nr me step (bl.map (movB x y z)) = true := by
  obtain ⟨h1, h2⟩ := fits_bodies h
  refine fits_mk h rfl (List.length_map _) rfl h1 fun b hb => ?_
  obtain ⟨b, hb', rfl⟩ := List.mem_map.1 hb
  have h3 := good_body (h2 b hb')
  have h4 := hm b hb'
  unfold okM inBox at h4
  simp only [Bool.and_eq_true] at h4
  exact body_good ⟨⟨rwin_in h4.2.1 (by decide) (by decide), rwin_in h4.2.2.1 (by decide) (by decide), rwin_in h4.2.2.2 (by decide) (by decide)⟩, h3.2⟩
theorem P_mov (l : List Int) (bl : List Bd) (x y z : Int) : sumF ofV l (bl.map (movB x y z)) = sumF ofV l bl := by
  rw [sumF_map]
  rfl
theorem ok6_good {b : Bd} (h : badB 1048576 65536 b = false) : ok6 b.a b.b b.c b.x b.y b.z = true := by
  obtain ⟨⟨k1, k2, k3⟩, k4, k5, k6⟩ := good_body h
  have q : ∀ {x}, inB 65536 x → inB 1048576 x := fun h => inB_le h (by decide)
  unfold ok6
  rw [okc_in k1, okc_in k2, okc_in k3, okc_in (q k4), okc_in (q k5), okc_in (q k6)]; rfl
theorem ofL_good {b : Bd} (h : badB 1048576 65536 b = false) : ofL b = (cr b.b b.c b.y b.z, cr b.c b.a b.z b.x, cr b.a b.b b.x b.y) := by
  unfold ofL
  rw [ok6_good h]
  rfl
theorem cr_mov (a b x y p q : Int) : (18446744073709551616 : Int) ∣ cr (wrapS .i64 (a + p)) (wrapS .i64 (b + q)) x y - cr a b x y - (p * y - q * x) := by
  unfold cr
  have h1 := wr_dvd (wrapS .i64 (wrapS .i64 (a + p) * y) - wrapS .i64 (wrapS .i64 (b + q) * x))
  have h2 := wr_dvd (wrapS .i64 (a * y) - wrapS .i64 (b * x))
  have h3 := wr_dvd (wrapS .i64 (a + p) * y)
  have h4 := wr_dvd (wrapS .i64 (b + q) * x)
  have h5 := wr_dvd (a * y)
  have h6 := wr_dvd (b * x)
  have h7 := Int.dvd_trans (wr_dvd (a + p)) (Int.dvd_mul_right _ y)
  have h8 := Int.dvd_trans (wr_dvd (b + q)) (Int.dvd_mul_right _ x)
  rw [Int.sub_mul, Int.add_mul] at h7 h8
  omega
theorem L_mov {l : List Int} {g b tp nr me step x y z : Int} {bl : List Bd} (h : fitsF l g b tp nr me step bl = true) (hm : ∀ b ∈ bl, okM x y z b = true) :
    wrapS .i64 ((sumF ofL l (bl.map (movB x y z))).1 - (sumF ofL l bl).1) = wrapS .i64 (wrapS .i64 (y * (sumF ofV l bl).2.2) - wrapS .i64 (z * (sumF ofV l bl).2.1)) ∧
    wrapS .i64 ((sumF ofL l (bl.map (movB x y z))).2.1 - (sumF ofL l bl).2.1) = wrapS .i64 (wrapS .i64 (z * (sumF ofV l bl).1) - wrapS .i64 (x * (sumF ofV l bl).2.2)) ∧
    wrapS .i64 ((sumF ofL l (bl.map (movB x y z))).2.2 - (sumF ofL l bl).2.2) = wrapS .i64 (wrapS .i64 (x * (sumF ofV l bl).2.1) - wrapS .i64 (y * (sumF ofV l bl).1)) := by
  have hb : ∀ b ∈ bl, badB 1048576 65536 b = false := (fits_bodies h).2
  have hb' : ∀ b ∈ bl, badB 1048576 65536 (movB x y z b) = false := fun b hb => (fits_bodies (fits_mov h hm)).2 _ (List.mem_map_of_mem hb)
  rw [sumF_map, sumF_eq, sumF_eq, sumF_eq]
  refine ⟨lin_eq (sum1_lin y z l bl fun b h1 => ?_), lin_eq (sum1_lin z x l bl fun b h1 => ?_), lin_eq (sum1_lin x y l bl fun b h1 => ?_)⟩
  · rw [ofL_good (hb b h1), ofL_good (hb' b h1)]
    exact cr_mov _ _ _ _ _ _
  · rw [ofL_good (hb b h1), ofL_good (hb' b h1)]
    exact cr_mov _ _ _ _ _ _
  · rw [ofL_good (hb b h1), ofL_good (hb' b h1)]
    exact cr_mov _ _ _ _ _ _
def isum : List Int → Int
  | [] => 0
  | m :: t => m + isum t
theorem tot_fold : ∀ (l : List Int) (s : Int), l.foldl (fun s m => wrapS .i64 (s + m)) (wrapS .i64 s) = wrapS .i64 (s + isum l)
  | [], s => by simp [isum]
  | m :: t, s => by
    rw [List.foldl_cons]
    have e : wrapS .i64 (wrapS .i64 s + m) = wrapS .i64 (s + m) := wr_eq (by have := wr_dvd s; omega)
    rw [e, tot_fold t, isum, Int.add_assoc]
theorem totF_eq (l : List Int) : totF l = wrapS .i64 (isum l) := by
  have := tot_fold l 0
  rw [Int.zero_add] at this
  exact this
theorem sum1_one : ∀ (l : List Int) (bl : List Bd), l.length = bl.length → sum1 (fun _ => 1) (l.zip bl) = isum l
  | [], [], _ => rfl
  | m :: l, b :: bl, h => by
    rw [List.zip_cons_cons]
    simp only [sum1, isum, Int.mul_one]
    rw [sum1_one l bl (by simpa using h)]
  | [], b :: bl, h => by simp at h
  | m :: l, [], h => by simp at h
theorem mid_eq {A B C p : Int} (h : (18446744073709551616 : Int) ∣ A - B - (p * C - 0 * C)) : wrapS .i64 (wrapS .i64 A - wrapS .i64 B) = wrapS .i64 (wrapS .i64 C * p) := wr_eq (by
  have h1 := wr_dvd A
  have h2 := wr_dvd B
  have h3 := Int.dvd_trans (wr_dvd C) (Int.dvd_mul_left p _)
  rw [Int.mul_sub] at h3
  rw [Int.mul_comm (wrapS .i64 C) p]
  omega)
theorem add_mov (a p : Int) : (18446744073709551616 : Int) ∣ wrapS .i64 (a + p) - a - (p * 1 - 0 * 1) := by
  have := wr_dvd (a + p)
  omega
theorem X_mov {l : List Int} {bl : List Bd} (x y z : Int) (h : l.length = bl.length) :
    wrapS .i64 ((sumF ofX l (bl.map (movB x y z))).1 - (sumF ofX l bl).1) = wrapS .i64 (totF l * x) ∧
    wrapS .i64 ((sumF ofX l (bl.map (movB x y z))).2.1 - (sumF ofX l bl).2.1) = wrapS .i64 (totF l * y) ∧
    wrapS .i64 ((sumF ofX l (bl.map (movB x y z))).2.2 - (sumF ofX l bl).2.2) = wrapS .i64 (totF l * z) := by
  rw [sumF_map, sumF_eq, sumF_eq, totF_eq, ← sum1_one l bl h]
  exact ⟨mid_eq (sum1_lin x 0 l bl fun b _ => add_mov _ _), mid_eq (sum1_lin y 0 l bl fun b _ => add_mov _ _), mid_eq (sum1_lin z 0 l bl fun b _ => add_mov _ _)⟩
end Go.Proofs.YtjpjnjidchdlbaaDoor
