/-
  The table of the types of this translation, printed by a program of ours, and that it fits (no condition).
-/
import Derived.Test.YtjpjnjidchdlbaaDoorEngN
import Derived.Test.YtjpjnjidchdlbaaDoorProg
import Derived.KernelRfl
namespace Go.Proofs.YtjpjnjidchdlbaaDoor
open Go

def tiNo : TI := { desc := .invalid, agg := false, size := 0, bytes := 0, zero := .nilIface, bad := true }
def ti3 : TI := { desc := .int .i64, agg := false, size := 1, bytes := 8, zero := .int .i64 0 }
def ti4 : TI := { desc := .bool, agg := false, size := 1, bytes := 1, zero := .bool false }
def ti5 : TI := { desc := .int .u8, agg := false, size := 1, bytes := 1, zero := .int .u8 0 }
def ti9 : TI := { desc := .string, agg := false, size := 1, bytes := 16, zero := .string ByteArray.empty }
def ti22 : TI := { desc := .int .u32, agg := false, size := 1, bytes := 4, zero := .int .u32 0 }
def ti23 : TI := { desc := .slice 5, agg := false, size := 1, bytes := 24, zero := .slice none 0 0, len := 0, elem := 5, esz := 1 }
def ti24 : TI := { desc := .func #[] #[4] false, agg := false, size := 1, bytes := 8, zero := .nilFunc }
def ti33 : TI := { desc := .int .u64, agg := false, size := 1, bytes := 8, zero := .int .u64 0 }
def ti37 : TI := { desc := .slice 3, agg := false, size := 1, bytes := 24, zero := .slice none 0 0, len := 0, elem := 3, esz := 1 }
def ti39 : TI := { desc := .struct #[{ name := "Mass", type := 37, offset := 0, embedded := false, tag := "", pkgPath := "", byteOffset := 0 }, { name := "G", type := 3, offset := 1, embedded := false, tag := "", pkgPath := "", byteOffset := 24 }, { name := "Box", type := 3, offset := 2, embedded := false, tag := "", pkgPath := "", byteOffset := 32 }, { name := "Top", type := 3, offset := 3, embedded := false, tag := "", pkgPath := "", byteOffset := 40 }, { name := "Near", type := 3, offset := 4, embedded := false, tag := "", pkgPath := "", byteOffset := 48 }, { name := "Method", type := 3, offset := 5, embedded := false, tag := "", pkgPath := "", byteOffset := 56 }], agg := true, size := 6, bytes := 64, zero := .agg #[.slice none 0 0, .int .i64 0, .int .i64 0, .int .i64 0, .int .i64 0, .int .i64 0], fields := [(0, 1), (1, 1), (2, 1), (3, 1), (4, 1), (5, 1)] }
def ti40 : TI := { desc := .slice 61, agg := false, size := 1, bytes := 24, zero := .slice none 0 0, len := 0, elem := 61, esz := 6 }
def ti42 : TI := { desc := .struct #[{ name := "Step", type := 3, offset := 0, embedded := false, tag := "", pkgPath := "", byteOffset := 0 }, { name := "B", type := 40, offset := 1, embedded := false, tag := "", pkgPath := "", byteOffset := 8 }], agg := true, size := 2, bytes := 32, zero := .agg #[.int .i64 0, .slice none 0 0], fields := [(0, 1), (1, 1)] }
def ti43 : TI := { desc := .array 3 3, agg := true, size := 3, bytes := 24, zero := .agg #[.int .i64 0, .int .i64 0, .int .i64 0], len := 3, elem := 3, esz := 1, eqk := some .i64 }
def ti46 : TI := { desc := .int .i64, agg := false, size := 1, bytes := 8, zero := .int .i64 0 }
def ti59 : TI := { desc := .array 3 3, agg := true, size := 3, bytes := 24, zero := .agg #[.int .i64 0, .int .i64 0, .int .i64 0], len := 3, elem := 3, esz := 1, eqk := some .i64 }
def ti61 : TI := { desc := .struct #[{ name := "X", type := 59, offset := 0, embedded := false, tag := "", pkgPath := "", byteOffset := 0 }, { name := "V", type := 59, offset := 3, embedded := false, tag := "", pkgPath := "", byteOffset := 24 }], agg := true, size := 6, bytes := 48, zero := .agg #[.int .i64 0, .int .i64 0, .int .i64 0, .int .i64 0, .int .i64 0, .int .i64 0], fields := [(0, 3), (3, 3)], eqk := some .i64 }
def ti69 : TI := { desc := .array 16 22, agg := true, size := 16, bytes := 64, zero := .agg #[.int .u32 0, .int .u32 0, .int .u32 0, .int .u32 0, .int .u32 0, .int .u32 0, .int .u32 0, .int .u32 0, .int .u32 0, .int .u32 0, .int .u32 0, .int .u32 0, .int .u32 0, .int .u32 0, .int .u32 0, .int .u32 0], len := 16, elem := 22, esz := 1, eqk := some .u32 }
def ti74 : TI := { desc := .func #[61] #[43] false, agg := false, size := 1, bytes := 8, zero := .nilFunc }
def ti77 : TI := { desc := .array 1 3, agg := true, size := 1, bytes := 8, zero := .agg #[.int .i64 0], len := 1, elem := 3, esz := 1, eqk := some .i64 }
def ti78 : TI := { desc := .slice 59, agg := false, size := 1, bytes := 24, zero := .slice none 0 0, len := 0, elem := 59, esz := 3 }
def ti99 : TI := { desc := .map 9 24, agg := false, size := 1, bytes := 8, zero := .map none }
def ti101 : TI := { desc := .array 7 9, agg := true, size := 7, bytes := 112, zero := .agg #[.string ByteArray.empty, .string ByteArray.empty, .string ByteArray.empty, .string ByteArray.empty, .string ByteArray.empty, .string ByteArray.empty, .string ByteArray.empty], len := 7, elem := 9, esz := 1 }
def ti107 : TI := { desc := .func #[3] #[4] false, agg := false, size := 1, bytes := 8, zero := .nilFunc }
def ti111 : TI := { desc := .func #[61] #[4] false, agg := false, size := 1, bytes := 8, zero := .nilFunc }
def ti113 : TI := { desc := .int .u64, agg := false, size := 1, bytes := 8, zero := .int .u64 0 }
def ti115 : TI := { desc := .array 4 113, agg := true, size := 4, bytes := 32, zero := .agg #[.int .u64 0, .int .u64 0, .int .u64 0, .int .u64 0], len := 4, elem := 113, esz := 1, eqk := some .u64 }
def ti127 : TI := { desc := .array 16 113, agg := true, size := 16, bytes := 128, zero := .agg #[.int .u64 0, .int .u64 0, .int .u64 0, .int .u64 0, .int .u64 0, .int .u64 0, .int .u64 0, .int .u64 0, .int .u64 0, .int .u64 0, .int .u64 0, .int .u64 0, .int .u64 0, .int .u64 0, .int .u64 0, .int .u64 0], len := 16, elem := 113, esz := 1, eqk := some .u64 }
def ti129 : TI := { desc := .array 8 113, agg := true, size := 8, bytes := 64, zero := .agg #[.int .u64 0, .int .u64 0, .int .u64 0, .int .u64 0, .int .u64 0, .int .u64 0, .int .u64 0, .int .u64 0], len := 8, elem := 113, esz := 1, eqk := some .u64 }
def ti145 : TI := { desc := .slice 115, agg := false, size := 1, bytes := 24, zero := .slice none 0 0, len := 0, elem := 115, esz := 4 }
def tab : Tab := [[tiNo, tiNo, tiNo, ti3, ti4, ti5, tiNo, tiNo, tiNo, ti9, tiNo, tiNo, tiNo, tiNo, tiNo, tiNo],
  [tiNo, tiNo, tiNo, tiNo, tiNo, tiNo, ti22, ti23, ti24, tiNo, tiNo, tiNo, tiNo, tiNo, tiNo, tiNo],
  [tiNo, ti33, tiNo, tiNo, tiNo, ti37, tiNo, ti39, ti40, tiNo, ti42, ti43, tiNo, tiNo, ti46, tiNo],
  [tiNo, tiNo, tiNo, tiNo, tiNo, tiNo, tiNo, tiNo, tiNo, tiNo, tiNo, ti59, tiNo, ti61, tiNo, tiNo],
  [tiNo, tiNo, tiNo, tiNo, tiNo, ti69, tiNo, tiNo, tiNo, tiNo, ti74, tiNo, tiNo, ti77, ti78, tiNo],
  [tiNo, tiNo, tiNo, tiNo, tiNo, tiNo, tiNo, tiNo, tiNo, tiNo, tiNo, tiNo, tiNo, tiNo, tiNo, tiNo],
  [tiNo, tiNo, tiNo, ti99, tiNo, ti101, tiNo, tiNo, tiNo, tiNo, tiNo, ti107, tiNo, tiNo, tiNo, ti111],
  [tiNo, ti113, tiNo, ti115, tiNo, tiNo, tiNo, tiNo, tiNo, tiNo, tiNo, tiNo, tiNo, tiNo, tiNo, ti127],
  [tiNo, ti129, tiNo, tiNo, tiNo, tiNo, tiNo, tiNo, tiNo, tiNo, tiNo, tiNo, tiNo, tiNo, tiNo, tiNo],
  [tiNo, ti145, tiNo, tiNo, tiNo, tiNo, tiNo, tiNo, tiNo, tiNo, tiNo, tiNo, tiNo, tiNo, tiNo, tiNo],
  [tiNo, tiNo]]
theorem ok3 : TiOk Tryd.prog 3 ti3 := ti_scalar ⟨fun _ => by simp, fun _ _ => by simp, fun _ => by simp⟩ (by kernel_rfl) (by kernel_rfl) rfl rfl
theorem ok4 : TiOk Tryd.prog 4 ti4 := ti_scalar ⟨fun _ => by simp, fun _ _ => by simp, fun _ => by simp⟩ (by kernel_rfl) (by kernel_rfl) rfl rfl
theorem ok5 : TiOk Tryd.prog 5 ti5 := ti_scalar ⟨fun _ => by simp, fun _ _ => by simp, fun _ => by simp⟩ (by kernel_rfl) (by kernel_rfl) rfl rfl
theorem ok9 : TiOk Tryd.prog 9 ti9 := ti_scalar ⟨fun _ => by simp, fun _ _ => by simp, fun _ => by simp⟩ (by kernel_rfl) (by kernel_rfl) rfl rfl
theorem ok22 : TiOk Tryd.prog 22 ti22 := ti_scalar ⟨fun _ => by simp, fun _ _ => by simp, fun _ => by simp⟩ (by kernel_rfl) (by kernel_rfl) rfl rfl
theorem ok23 : TiOk Tryd.prog 23 ti23 := ti_slice (by kernel_rfl) (by kernel_rfl) (by kernel_rfl)
theorem ok24 : TiOk Tryd.prog 24 ti24 := ti_scalar ⟨fun _ => by simp, fun _ _ => by simp, fun _ => by simp⟩ (by kernel_rfl) (by kernel_rfl) rfl rfl
theorem ok33 : TiOk Tryd.prog 33 ti33 := ti_scalar ⟨fun _ => by simp, fun _ _ => by simp, fun _ => by simp⟩ (by kernel_rfl) (by kernel_rfl) rfl rfl
theorem ok37 : TiOk Tryd.prog 37 ti37 := ti_slice (by kernel_rfl) (by kernel_rfl) (by kernel_rfl)
theorem ok39 : TiOk Tryd.prog 39 ti39 := ti_struct (by kernel_rfl) (by kernel_rfl) (by kernel_rfl) rfl rfl (fun _ h => by cases h)
theorem ok40 : TiOk Tryd.prog 40 ti40 := ti_slice (by kernel_rfl) (by kernel_rfl) (by kernel_rfl)
theorem ok42 : TiOk Tryd.prog 42 ti42 := ti_struct (by kernel_rfl) (by kernel_rfl) (by kernel_rfl) rfl rfl (fun _ h => by cases h)
theorem ok43 : TiOk Tryd.prog 43 ti43 := ti_array (by kernel_rfl) (by kernel_rfl) (by kernel_rfl) rfl rfl (fun kd h => by cases h; exact eqOk_array (e := 3) .i64 (by kernel_rfl) (by kernel_rfl) (k := .i64) (by kernel_rfl) (by kernel_rfl))
theorem ok46 : TiOk Tryd.prog 46 ti46 := ti_scalar ⟨fun _ => by simp, fun _ _ => by simp, fun _ => by simp⟩ (by kernel_rfl) (by kernel_rfl) rfl rfl
theorem ok59 : TiOk Tryd.prog 59 ti59 := ti_array (by kernel_rfl) (by kernel_rfl) (by kernel_rfl) rfl rfl (fun kd h => by cases h; exact eqOk_array (e := 3) .i64 (by kernel_rfl) (by kernel_rfl) (k := .i64) (by kernel_rfl) (by kernel_rfl))
theorem ok61 : TiOk Tryd.prog 61 ti61 := ti_struct (by kernel_rfl) (by kernel_rfl) (by kernel_rfl) rfl rfl (fun kd h => by cases h; exact eqOk_two (f1 := { name := "X", type := 59, offset := 0, embedded := false, tag := "", pkgPath := "", byteOffset := 0 }) (f2 := { name := "V", type := 59, offset := 3, embedded := false, tag := "", pkgPath := "", byteOffset := 24 }) (t1 := 59) (t2 := 59) (n1 := 3) (n2 := 3) (e := 3) (k := .i64) .i64 (by kernel_rfl) (by kernel_rfl) (by kernel_rfl) rfl rfl rfl rfl (by decide) (by decide) (by kernel_rfl) (by kernel_rfl) (by kernel_rfl) (by kernel_rfl) (by kernel_rfl) (by kernel_rfl))
theorem ok69 : TiOk Tryd.prog 69 ti69 := ti_array (by kernel_rfl) (by kernel_rfl) (by kernel_rfl) rfl rfl (fun kd h => by cases h; exact eqOk_array (e := 22) .u32 (by kernel_rfl) (by kernel_rfl) (k := .u32) (by kernel_rfl) (by kernel_rfl))
theorem ok74 : TiOk Tryd.prog 74 ti74 := ti_scalar ⟨fun _ => by simp, fun _ _ => by simp, fun _ => by simp⟩ (by kernel_rfl) (by kernel_rfl) rfl rfl
theorem ok77 : TiOk Tryd.prog 77 ti77 := ti_array (by kernel_rfl) (by kernel_rfl) (by kernel_rfl) rfl rfl (fun kd h => by cases h; exact eqOk_array (e := 3) .i64 (by kernel_rfl) (by kernel_rfl) (k := .i64) (by kernel_rfl) (by kernel_rfl))
theorem ok78 : TiOk Tryd.prog 78 ti78 := ti_slice (by kernel_rfl) (by kernel_rfl) (by kernel_rfl)
theorem ok99 : TiOk Tryd.prog 99 ti99 := ti_scalar ⟨fun _ => by simp, fun _ _ => by simp, fun _ => by simp⟩ (by kernel_rfl) (by kernel_rfl) rfl rfl
theorem ok101 : TiOk Tryd.prog 101 ti101 := ti_array (by kernel_rfl) (by kernel_rfl) (by kernel_rfl) rfl rfl (fun _ h => by cases h)
theorem ok107 : TiOk Tryd.prog 107 ti107 := ti_scalar ⟨fun _ => by simp, fun _ _ => by simp, fun _ => by simp⟩ (by kernel_rfl) (by kernel_rfl) rfl rfl
theorem ok111 : TiOk Tryd.prog 111 ti111 := ti_scalar ⟨fun _ => by simp, fun _ _ => by simp, fun _ => by simp⟩ (by kernel_rfl) (by kernel_rfl) rfl rfl
theorem ok113 : TiOk Tryd.prog 113 ti113 := ti_scalar ⟨fun _ => by simp, fun _ _ => by simp, fun _ => by simp⟩ (by kernel_rfl) (by kernel_rfl) rfl rfl
theorem ok115 : TiOk Tryd.prog 115 ti115 := ti_array (by kernel_rfl) (by kernel_rfl) (by kernel_rfl) rfl rfl (fun kd h => by cases h; exact eqOk_array (e := 113) .u64 (by kernel_rfl) (by kernel_rfl) (k := .u64) (by kernel_rfl) (by kernel_rfl))
theorem ok127 : TiOk Tryd.prog 127 ti127 := ti_array (by kernel_rfl) (by kernel_rfl) (by kernel_rfl) rfl rfl (fun kd h => by cases h; exact eqOk_array (e := 113) .u64 (by kernel_rfl) (by kernel_rfl) (k := .u64) (by kernel_rfl) (by kernel_rfl))
theorem ok129 : TiOk Tryd.prog 129 ti129 := ti_array (by kernel_rfl) (by kernel_rfl) (by kernel_rfl) rfl rfl (fun kd h => by cases h; exact eqOk_array (e := 113) .u64 (by kernel_rfl) (by kernel_rfl) (k := .u64) (by kernel_rfl) (by kernel_rfl))
theorem ok145 : TiOk Tryd.prog 145 ti145 := ti_slice (by kernel_rfl) (by kernel_rfl) (by kernel_rfl)
theorem tabOk : TabOk Tryd.prog tab := tabOk_of ⟨⟨.inl rfl, .inl rfl, .inl rfl, .inr ok3, .inr ok4, .inr ok5, .inl rfl, .inl rfl, .inl rfl, .inr ok9, .inl rfl, .inl rfl, .inl rfl, .inl rfl, .inl rfl, .inl rfl, trivial⟩,
  ⟨.inl rfl, .inl rfl, .inl rfl, .inl rfl, .inl rfl, .inl rfl, .inr ok22, .inr ok23, .inr ok24, .inl rfl, .inl rfl, .inl rfl, .inl rfl, .inl rfl, .inl rfl, .inl rfl, trivial⟩,
  ⟨.inl rfl, .inr ok33, .inl rfl, .inl rfl, .inl rfl, .inr ok37, .inl rfl, .inr ok39, .inr ok40, .inl rfl, .inr ok42, .inr ok43, .inl rfl, .inl rfl, .inr ok46, .inl rfl, trivial⟩,
  ⟨.inl rfl, .inl rfl, .inl rfl, .inl rfl, .inl rfl, .inl rfl, .inl rfl, .inl rfl, .inl rfl, .inl rfl, .inl rfl, .inr ok59, .inl rfl, .inr ok61, .inl rfl, .inl rfl, trivial⟩,
  ⟨.inl rfl, .inl rfl, .inl rfl, .inl rfl, .inl rfl, .inr ok69, .inl rfl, .inl rfl, .inl rfl, .inl rfl, .inr ok74, .inl rfl, .inl rfl, .inr ok77, .inr ok78, .inl rfl, trivial⟩,
  ⟨.inl rfl, .inl rfl, .inl rfl, .inl rfl, .inl rfl, .inl rfl, .inl rfl, .inl rfl, .inl rfl, .inl rfl, .inl rfl, .inl rfl, .inl rfl, .inl rfl, .inl rfl, .inl rfl, trivial⟩,
  ⟨.inl rfl, .inl rfl, .inl rfl, .inr ok99, .inl rfl, .inr ok101, .inl rfl, .inl rfl, .inl rfl, .inl rfl, .inl rfl, .inr ok107, .inl rfl, .inl rfl, .inl rfl, .inr ok111, trivial⟩,
  ⟨.inl rfl, .inr ok113, .inl rfl, .inr ok115, .inl rfl, .inl rfl, .inl rfl, .inl rfl, .inl rfl, .inl rfl, .inl rfl, .inl rfl, .inl rfl, .inl rfl, .inl rfl, .inr ok127, trivial⟩,
  ⟨.inl rfl, .inr ok129, .inl rfl, .inl rfl, .inl rfl, .inl rfl, .inl rfl, .inl rfl, .inl rfl, .inl rfl, .inl rfl, .inl rfl, .inl rfl, .inl rfl, .inl rfl, .inl rfl, trivial⟩,
  ⟨.inl rfl, .inr ok145, .inl rfl, .inl rfl, .inl rfl, .inl rfl, .inl rfl, .inl rfl, .inl rfl, .inl rfl, .inl rfl, .inl rfl, .inl rfl, .inl rfl, .inl rfl, .inl rfl, trivial⟩,
  ⟨.inl rfl, .inl rfl, trivial⟩, trivial⟩

end Go.Proofs.YtjpjnjidchdlbaaDoor
