/-
  The table of the types of this translation, printed by a program of ours, and that it fits (no condition).
-/
import Derived.Test.YtjpjnjidchdlbaaEngN
import Derived.Test.YtjpjnjidchdlbaaProg
import Derived.KernelRfl
namespace Go.Proofs.Ytjpjnjidchdlbaa
open Go

def tiNo : TI := { desc := .invalid, agg := false, size := 0, bytes := 0, zero := .nilIface, bad := true }
def ti3 : TI := { desc := .int .i64, agg := false, size := 1, bytes := 8, zero := .int .i64 0 }
def ti4 : TI := { desc := .bool, agg := false, size := 1, bytes := 1, zero := .bool false }
def ti22 : TI := { desc := .array 3 3, agg := true, size := 3, bytes := 24, zero := .agg #[.int .i64 0, .int .i64 0, .int .i64 0], len := 3, elem := 3, esz := 1, eqk := some .i64 }
def ti23 : TI := { desc := .array 3 3, agg := true, size := 3, bytes := 24, zero := .agg #[.int .i64 0, .int .i64 0, .int .i64 0], len := 3, elem := 3, esz := 1, eqk := some .i64 }
def ti26 : TI := { desc := .int .i64, agg := false, size := 1, bytes := 8, zero := .int .i64 0 }
def ti40 : TI := { desc := .slice 56, agg := false, size := 1, bytes := 24, zero := .slice none 0 0, len := 0, elem := 56, esz := 6 }
def ti42 : TI := { desc := .struct #[{ name := "Step", type := 3, offset := 0, embedded := false, tag := "", pkgPath := "", byteOffset := 0 }, { name := "B", type := 40, offset := 1, embedded := false, tag := "", pkgPath := "", byteOffset := 8 }], agg := true, size := 2, bytes := 32, zero := .agg #[.int .i64 0, .slice none 0 0], fields := [(0, 1), (1, 1)] }
def ti43 : TI := { desc := .slice 3, agg := false, size := 1, bytes := 24, zero := .slice none 0 0, len := 0, elem := 3, esz := 1 }
def ti56 : TI := { desc := .struct #[{ name := "X", type := 23, offset := 0, embedded := false, tag := "", pkgPath := "", byteOffset := 0 }, { name := "V", type := 23, offset := 3, embedded := false, tag := "", pkgPath := "", byteOffset := 24 }], agg := true, size := 6, bytes := 48, zero := .agg #[.int .i64 0, .int .i64 0, .int .i64 0, .int .i64 0, .int .i64 0, .int .i64 0], fields := [(0, 3), (3, 3)], eqk := some .i64 }
def ti59 : TI := { desc := .slice 23, agg := false, size := 1, bytes := 24, zero := .slice none 0 0, len := 0, elem := 23, esz := 3 }
def ti64 : TI := { desc := .func #[3, 3] #[3] false, agg := false, size := 1, bytes := 8, zero := .nilFunc }
def ti67 : TI := { desc := .func #[77] #[] false, agg := false, size := 1, bytes := 8, zero := .nilFunc }
def ti73 : TI := { desc := .func #[56] #[4] false, agg := false, size := 1, bytes := 8, zero := .nilFunc }
def ti82 : TI := { desc := .slice 43, agg := false, size := 1, bytes := 24, zero := .slice none 0 0, len := 0, elem := 43, esz := 1 }
def tab : Tab := [[tiNo, tiNo, tiNo, ti3, ti4, tiNo, tiNo, tiNo, tiNo, tiNo, tiNo, tiNo, tiNo, tiNo, tiNo, tiNo],
  [tiNo, tiNo, tiNo, tiNo, tiNo, tiNo, ti22, ti23, tiNo, tiNo, ti26, tiNo, tiNo, tiNo, tiNo, tiNo],
  [tiNo, tiNo, tiNo, tiNo, tiNo, tiNo, tiNo, tiNo, ti40, tiNo, ti42, ti43, tiNo, tiNo, tiNo, tiNo],
  [tiNo, tiNo, tiNo, tiNo, tiNo, tiNo, tiNo, tiNo, ti56, tiNo, tiNo, ti59, tiNo, tiNo, tiNo, tiNo],
  [ti64, tiNo, tiNo, ti67, tiNo, tiNo, tiNo, tiNo, tiNo, ti73, tiNo, tiNo, tiNo, tiNo, tiNo, tiNo],
  [tiNo, tiNo, ti82, tiNo, tiNo, tiNo, tiNo, tiNo, tiNo, tiNo, tiNo, tiNo, tiNo, tiNo, tiNo, tiNo],
  [tiNo, tiNo, tiNo, tiNo, tiNo]]
theorem ok3 : TiOk Try.prog 3 ti3 := ti_scalar ⟨fun _ => by simp, fun _ _ => by simp, fun _ => by simp⟩ (by kernel_rfl) (by kernel_rfl) rfl rfl
theorem ok4 : TiOk Try.prog 4 ti4 := ti_scalar ⟨fun _ => by simp, fun _ _ => by simp, fun _ => by simp⟩ (by kernel_rfl) (by kernel_rfl) rfl rfl
theorem ok22 : TiOk Try.prog 22 ti22 := ti_array (by kernel_rfl) (by kernel_rfl) (by kernel_rfl) rfl rfl (fun kd h => by cases h; exact eqOk_array (e := 3) .i64 (by kernel_rfl) (by kernel_rfl) (k := .i64) (by kernel_rfl) (by kernel_rfl))
theorem ok23 : TiOk Try.prog 23 ti23 := ti_array (by kernel_rfl) (by kernel_rfl) (by kernel_rfl) rfl rfl (fun kd h => by cases h; exact eqOk_array (e := 3) .i64 (by kernel_rfl) (by kernel_rfl) (k := .i64) (by kernel_rfl) (by kernel_rfl))
theorem ok26 : TiOk Try.prog 26 ti26 := ti_scalar ⟨fun _ => by simp, fun _ _ => by simp, fun _ => by simp⟩ (by kernel_rfl) (by kernel_rfl) rfl rfl
theorem ok40 : TiOk Try.prog 40 ti40 := ti_slice (by kernel_rfl) (by kernel_rfl) (by kernel_rfl)
theorem ok42 : TiOk Try.prog 42 ti42 := ti_struct (by kernel_rfl) (by kernel_rfl) (by kernel_rfl) rfl rfl (fun _ h => by cases h)
theorem ok43 : TiOk Try.prog 43 ti43 := ti_slice (by kernel_rfl) (by kernel_rfl) (by kernel_rfl)
theorem ok56 : TiOk Try.prog 56 ti56 := ti_struct (by kernel_rfl) (by kernel_rfl) (by kernel_rfl) rfl rfl (fun kd h => by cases h; exact eqOk_two (f1 := { name := "X", type := 23, offset := 0, embedded := false, tag := "", pkgPath := "", byteOffset := 0 }) (f2 := { name := "V", type := 23, offset := 3, embedded := false, tag := "", pkgPath := "", byteOffset := 24 }) (t1 := 23) (t2 := 23) (n1 := 3) (n2 := 3) (e := 3) (k := .i64) .i64 (by kernel_rfl) (by kernel_rfl) (by kernel_rfl) rfl rfl rfl rfl (by decide) (by decide) (by kernel_rfl) (by kernel_rfl) (by kernel_rfl) (by kernel_rfl) (by kernel_rfl) (by kernel_rfl))
theorem ok59 : TiOk Try.prog 59 ti59 := ti_slice (by kernel_rfl) (by kernel_rfl) (by kernel_rfl)
theorem ok64 : TiOk Try.prog 64 ti64 := ti_scalar ⟨fun _ => by simp, fun _ _ => by simp, fun _ => by simp⟩ (by kernel_rfl) (by kernel_rfl) rfl rfl
theorem ok67 : TiOk Try.prog 67 ti67 := ti_scalar ⟨fun _ => by simp, fun _ _ => by simp, fun _ => by simp⟩ (by kernel_rfl) (by kernel_rfl) rfl rfl
theorem ok73 : TiOk Try.prog 73 ti73 := ti_scalar ⟨fun _ => by simp, fun _ _ => by simp, fun _ => by simp⟩ (by kernel_rfl) (by kernel_rfl) rfl rfl
theorem ok82 : TiOk Try.prog 82 ti82 := ti_slice (by kernel_rfl) (by kernel_rfl) (by kernel_rfl)
theorem tabOk : TabOk Try.prog tab := tabOk_of ⟨⟨.inl rfl, .inl rfl, .inl rfl, .inr ok3, .inr ok4, .inl rfl, .inl rfl, .inl rfl, .inl rfl, .inl rfl, .inl rfl, .inl rfl, .inl rfl, .inl rfl, .inl rfl, .inl rfl, trivial⟩,
  ⟨.inl rfl, .inl rfl, .inl rfl, .inl rfl, .inl rfl, .inl rfl, .inr ok22, .inr ok23, .inl rfl, .inl rfl, .inr ok26, .inl rfl, .inl rfl, .inl rfl, .inl rfl, .inl rfl, trivial⟩,
  ⟨.inl rfl, .inl rfl, .inl rfl, .inl rfl, .inl rfl, .inl rfl, .inl rfl, .inl rfl, .inr ok40, .inl rfl, .inr ok42, .inr ok43, .inl rfl, .inl rfl, .inl rfl, .inl rfl, trivial⟩,
  ⟨.inl rfl, .inl rfl, .inl rfl, .inl rfl, .inl rfl, .inl rfl, .inl rfl, .inl rfl, .inr ok56, .inl rfl, .inl rfl, .inr ok59, .inl rfl, .inl rfl, .inl rfl, .inl rfl, trivial⟩,
  ⟨.inr ok64, .inl rfl, .inl rfl, .inr ok67, .inl rfl, .inl rfl, .inl rfl, .inl rfl, .inl rfl, .inr ok73, .inl rfl, .inl rfl, .inl rfl, .inl rfl, .inl rfl, .inl rfl, trivial⟩,
  ⟨.inl rfl, .inl rfl, .inr ok82, .inl rfl, .inl rfl, .inl rfl, .inl rfl, .inl rfl, .inl rfl, .inl rfl, .inl rfl, .inl rfl, .inl rfl, .inl rfl, .inl rfl, .inl rfl, trivial⟩,
  ⟨.inl rfl, .inl rfl, .inl rfl, .inl rfl, .inl rfl, trivial⟩, trivial⟩

end Go.Proofs.Ytjpjnjidchdlbaa
