/- The types that are met, each with what the program's table says of it. Written by wip/tools/types.py. -/
import Derived.Test.YtepdjimbnbiicaaGreatDoorProg
import Derived.Test.YtepdjimbnbiicaaGreatDoorA11
import Derived.KernelRfl
namespace Go.Proofs.YtepdjimbnbiicaaGreatDoor
open Go
theorem tiOk_of {P : Program} {t : TypeId} {i : TI} (h1 : P.underlying t = some i.desc) (h2 : (P.info? t).map (fun x => (x.size, x.zero, x.bytes)) = some (i.size, some i.zero, i.bytes))
    (h3 : i.plain = true → P.eqGuardType P.depth t = false ∧ P.stoodInHeld t = false) : TiOk P t i := by
  refine ⟨h1, ?_⟩
  cases h : P.info? t with
  | none => rw [h] at h2; cases h2
  | some x =>
    rw [h] at h2
    simp only [Option.map_some, Option.some.injEq, Prod.mk.injEq] at h2
    exact ⟨x, rfl, h2.1, h2.2.1, h2.2.2, h3⟩
def ty3 : TI := { desc := .int .i64, size := 1, zero := .int .i64 0, bytes := 8, plain := false }
theorem ty3_ok : TiOk Tryz.prog 3 ty3 := tiOk_of (by kernel_rfl) (by kernel_rfl) (fun h => by cases h)
def ty4 : TI := { desc := .bool, size := 1, zero := .bool false, bytes := 1, plain := false }
theorem ty4_ok : TiOk Tryz.prog 4 ty4 := tiOk_of (by kernel_rfl) (by kernel_rfl) (fun h => by cases h)
def ty5 : TI := { desc := .int .u8, size := 1, zero := .int .u8 0, bytes := 1, plain := false }
theorem ty5_ok : TiOk Tryz.prog 5 ty5 := tiOk_of (by kernel_rfl) (by kernel_rfl) (fun h => by cases h)
def ty9 : TI := { desc := .string, size := 1, zero := .string ⟨#[]⟩, bytes := 16, plain := false }
theorem ty9_ok : TiOk Tryz.prog 9 ty9 := tiOk_of (by kernel_rfl) (by kernel_rfl) (fun h => by cases h)
def ty21 : TI := { desc := .int .i32, size := 1, zero := .int .i32 0, bytes := 4, plain := false }
theorem ty21_ok : TiOk Tryz.prog 21 ty21 := tiOk_of (by kernel_rfl) (by kernel_rfl) (fun h => by cases h)
def ty23 : TI := { desc := .struct #[{ name := "Kind", type := 3, offset := 0, embedded := false, tag := "", pkgPath := "", byteOffset := 0 }, { name := "Key", type := 9, offset := 1, embedded := false, tag := "", pkgPath := "", byteOffset := 8 }, { name := "To", type := 9, offset := 2, embedded := false, tag := "", pkgPath := "", byteOffset := 24 }, { name := "Old", type := 9, offset := 3, embedded := false, tag := "", pkgPath := "", byteOffset := 40 }, { name := "New", type := 9, offset := 4, embedded := false, tag := "", pkgPath := "", byteOffset := 56 }], size := 5, zero := .agg #[.int .i64 0, .string ⟨#[]⟩, .string ⟨#[]⟩, .string ⟨#[]⟩, .string ⟨#[]⟩], bytes := 72, plain := true }
theorem ty23_ok : TiOk Tryz.prog 23 ty23 := tiOk_of (by kernel_rfl) (by kernel_rfl) (fun _ => ⟨by kernel_rfl, by kernel_rfl⟩)
def ty24 : TI := { desc := .int .i64, size := 1, zero := .int .i64 0, bytes := 8, plain := false }
theorem ty24_ok : TiOk Tryz.prog 24 ty24 := tiOk_of (by kernel_rfl) (by kernel_rfl) (fun h => by cases h)
def ty35 : TI := { desc := .struct #[{ name := "Major", type := 3, offset := 0, embedded := false, tag := "", pkgPath := "", byteOffset := 0 }, { name := "Minor", type := 3, offset := 1, embedded := false, tag := "", pkgPath := "", byteOffset := 8 }, { name := "Patch", type := 3, offset := 2, embedded := false, tag := "", pkgPath := "", byteOffset := 16 }, { name := "Early", type := 9, offset := 3, embedded := false, tag := "", pkgPath := "", byteOffset := 24 }], size := 4, zero := .agg #[.int .i64 0, .int .i64 0, .int .i64 0, .string ⟨#[]⟩], bytes := 40, plain := true }
theorem ty35_ok : TiOk Tryz.prog 35 ty35 := tiOk_of (by kernel_rfl) (by kernel_rfl) (fun _ => ⟨by kernel_rfl, by kernel_rfl⟩)
def ty49 : TI := { desc := .slice 97, size := 1, zero := .slice none 0 0, bytes := 24, plain := false }
theorem ty49_ok : TiOk Tryz.prog 49 ty49 := tiOk_of (by kernel_rfl) (by kernel_rfl) (fun h => by cases h)
def ty51 : TI := { desc := .struct #[{ name := "Spans", type := 49, offset := 0, embedded := false, tag := "", pkgPath := "", byteOffset := 0 }], size := 1, zero := .agg #[.slice none 0 0], bytes := 24, plain := false }
theorem ty51_ok : TiOk Tryz.prog 51 ty51 := tiOk_of (by kernel_rfl) (by kernel_rfl) (fun h => by cases h)
def ty64 : TI := { desc := .slice 9, size := 1, zero := .slice none 0 0, bytes := 24, plain := false }
theorem ty64_ok : TiOk Tryz.prog 64 ty64 := tiOk_of (by kernel_rfl) (by kernel_rfl) (fun h => by cases h)
def ty71 : TI := { desc := .pointer 9, size := 1, zero := .pointer none, bytes := 8, plain := false }
theorem ty71_ok : TiOk Tryz.prog 71 ty71 := tiOk_of (by kernel_rfl) (by kernel_rfl) (fun h => by cases h)
def ty75 : TI := { desc := .slice 35, size := 1, zero := .slice none 0 0, bytes := 24, plain := false }
theorem ty75_ok : TiOk Tryz.prog 75 ty75 := tiOk_of (by kernel_rfl) (by kernel_rfl) (fun h => by cases h)
def ty76 : TI := { desc := .slice 3, size := 1, zero := .slice none 0 0, bytes := 24, plain := false }
theorem ty76_ok : TiOk Tryz.prog 76 ty76 := tiOk_of (by kernel_rfl) (by kernel_rfl) (fun h => by cases h)
def ty79 : TI := { desc := .slice 24, size := 1, zero := .slice none 0 0, bytes := 24, plain := false }
theorem ty79_ok : TiOk Tryz.prog 79 ty79 := tiOk_of (by kernel_rfl) (by kernel_rfl) (fun h => by cases h)
def ty80 : TI := { desc := .array 2 35, size := 8, zero := .agg #[.int .i64 0, .int .i64 0, .int .i64 0, .string ⟨#[]⟩, .int .i64 0, .int .i64 0, .int .i64 0, .string ⟨#[]⟩], bytes := 80, plain := false }
theorem ty80_ok : TiOk Tryz.prog 80 ty80 := tiOk_of (by kernel_rfl) (by kernel_rfl) (fun h => by cases h)
def ty82 : TI := { desc := .array 3 3, size := 3, zero := .agg #[.int .i64 0, .int .i64 0, .int .i64 0], bytes := 24, plain := false }
theorem ty82_ok : TiOk Tryz.prog 82 ty82 := tiOk_of (by kernel_rfl) (by kernel_rfl) (fun h => by cases h)
def ty89 : TI := { desc := .interface #[("Error", 124)], size := 1, zero := .nilIface, bytes := 16, plain := false }
theorem ty89_ok : TiOk Tryz.prog 89 ty89 := tiOk_of (by kernel_rfl) (by kernel_rfl) (fun h => by cases h)
def ty97 : TI := { desc := .struct #[{ name := "HasFrom", type := 4, offset := 0, embedded := false, tag := "", pkgPath := "", byteOffset := 0 }, { name := "HasTo", type := 4, offset := 1, embedded := false, tag := "", pkgPath := "", byteOffset := 1 }, { name := "From", type := 35, offset := 2, embedded := false, tag := "", pkgPath := "", byteOffset := 8 }, { name := "To", type := 35, offset := 6, embedded := false, tag := "", pkgPath := "", byteOffset := 48 }], size := 10, zero := .agg #[.bool false, .bool false, .int .i64 0, .int .i64 0, .int .i64 0, .string ⟨#[]⟩, .int .i64 0, .int .i64 0, .int .i64 0, .string ⟨#[]⟩], bytes := 88, plain := true }
theorem ty97_ok : TiOk Tryz.prog 97 ty97 := tiOk_of (by kernel_rfl) (by kernel_rfl) (fun _ => ⟨by kernel_rfl, by kernel_rfl⟩)
def ty100 : TI := { desc := .slice 102, size := 1, zero := .slice none 0 0, bytes := 24, plain := false }
theorem ty100_ok : TiOk Tryz.prog 100 ty100 := tiOk_of (by kernel_rfl) (by kernel_rfl) (fun h => by cases h)
def ty102 : TI := { desc := .struct #[{ name := "sign", type := 5, offset := 0, embedded := false, tag := "", pkgPath := "outfitter/ver", byteOffset := 0 }, { name := "first", type := 9, offset := 1, embedded := false, tag := "", pkgPath := "outfitter/ver", byteOffset := 8 }, { name := "last", type := 9, offset := 2, embedded := false, tag := "", pkgPath := "outfitter/ver", byteOffset := 24 }], size := 3, zero := .agg #[.int .u8 0, .string ⟨#[]⟩, .string ⟨#[]⟩], bytes := 40, plain := true }
theorem ty102_ok : TiOk Tryz.prog 102 ty102 := tiOk_of (by kernel_rfl) (by kernel_rfl) (fun _ => ⟨by kernel_rfl, by kernel_rfl⟩)
def ty111 : TI := { desc := .pointer 143, size := 1, zero := .pointer none, bytes := 8, plain := false }
theorem ty111_ok : TiOk Tryz.prog 111 ty111 := tiOk_of (by kernel_rfl) (by kernel_rfl) (fun h => by cases h)
def ty113 : TI := { desc := .slice 5, size := 1, zero := .slice none 0 0, bytes := 24, plain := false }
theorem ty113_ok : TiOk Tryz.prog 113 ty113 := tiOk_of (by kernel_rfl) (by kernel_rfl) (fun h => by cases h)
def ty129 : TI := { desc := .struct #[], size := 0, zero := .agg #[], bytes := 0, plain := true }
theorem ty129_ok : TiOk Tryz.prog 129 ty129 := tiOk_of (by kernel_rfl) (by kernel_rfl) (fun _ => ⟨by kernel_rfl, by kernel_rfl⟩)
def ty130 : TI := { desc := .struct #[], size := 0, zero := .agg #[], bytes := 0, plain := true }
theorem ty130_ok : TiOk Tryz.prog 130 ty130 := tiOk_of (by kernel_rfl) (by kernel_rfl) (fun _ => ⟨by kernel_rfl, by kernel_rfl⟩)
def ty131 : TI := { desc := .int .u32, size := 1, zero := .int .u32 0, bytes := 4, plain := false }
theorem ty131_ok : TiOk Tryz.prog 131 ty131 := tiOk_of (by kernel_rfl) (by kernel_rfl) (fun h => by cases h)
def ty133 : TI := { desc := .struct #[{ name := "_", type := 130, offset := 0, embedded := false, tag := "", pkgPath := "sync/atomic", byteOffset := 0 }, { name := "v", type := 131, offset := 0, embedded := false, tag := "", pkgPath := "sync/atomic", byteOffset := 0 }], size := 1, zero := .agg #[.int .u32 0], bytes := 4, plain := true }
theorem ty133_ok : TiOk Tryz.prog 133 ty133 := tiOk_of (by kernel_rfl) (by kernel_rfl) (fun _ => ⟨by kernel_rfl, by kernel_rfl⟩)
def ty135 : TI := { desc := .struct #[{ name := "state", type := 21, offset := 0, embedded := false, tag := "", pkgPath := "internal/sync", byteOffset := 0 }, { name := "sema", type := 131, offset := 1, embedded := false, tag := "", pkgPath := "internal/sync", byteOffset := 4 }], size := 2, zero := .agg #[.int .i32 0, .int .u32 0], bytes := 8, plain := true }
theorem ty135_ok : TiOk Tryz.prog 135 ty135 := tiOk_of (by kernel_rfl) (by kernel_rfl) (fun _ => ⟨by kernel_rfl, by kernel_rfl⟩)
def ty137 : TI := { desc := .struct #[{ name := "_", type := 129, offset := 0, embedded := false, tag := "", pkgPath := "sync", byteOffset := 0 }, { name := "mu", type := 135, offset := 0, embedded := false, tag := "", pkgPath := "sync", byteOffset := 0 }], size := 2, zero := .agg #[.int .i32 0, .int .u32 0], bytes := 8, plain := true }
theorem ty137_ok : TiOk Tryz.prog 137 ty137 := tiOk_of (by kernel_rfl) (by kernel_rfl) (fun _ => ⟨by kernel_rfl, by kernel_rfl⟩)
def ty139 : TI := { desc := .struct #[{ name := "_", type := 129, offset := 0, embedded := false, tag := "", pkgPath := "sync", byteOffset := 0 }, { name := "done", type := 133, offset := 0, embedded := false, tag := "", pkgPath := "sync", byteOffset := 0 }, { name := "m", type := 137, offset := 1, embedded := false, tag := "", pkgPath := "sync", byteOffset := 4 }], size := 3, zero := .agg #[.int .u32 0, .int .i32 0, .int .u32 0], bytes := 12, plain := true }
theorem ty139_ok : TiOk Tryz.prog 139 ty139 := tiOk_of (by kernel_rfl) (by kernel_rfl) (fun _ => ⟨by kernel_rfl, by kernel_rfl⟩)
def ty141 : TI := { desc := .interface #[("Replace", 66), ("WriteString", 256)], size := 1, zero := .nilIface, bytes := 16, plain := false }
theorem ty141_ok : TiOk Tryz.prog 141 ty141 := tiOk_of (by kernel_rfl) (by kernel_rfl) (fun h => by cases h)
def ty143 : TI := { desc := .struct #[{ name := "once", type := 139, offset := 0, embedded := false, tag := "", pkgPath := "strings", byteOffset := 0 }, { name := "r", type := 141, offset := 3, embedded := false, tag := "", pkgPath := "strings", byteOffset := 16 }, { name := "oldnew", type := 64, offset := 4, embedded := false, tag := "", pkgPath := "strings", byteOffset := 32 }], size := 5, zero := .agg #[.int .u32 0, .int .i32 0, .int .u32 0, .nilIface, .slice none 0 0], bytes := 56, plain := false }
theorem ty143_ok : TiOk Tryz.prog 143 ty143 := tiOk_of (by kernel_rfl) (by kernel_rfl) (fun h => by cases h)
def tyL : List (Nat × TI) := [(3, ty3), (4, ty4), (5, ty5), (9, ty9), (21, ty21), (23, ty23), (24, ty24), (35, ty35), (49, ty49), (51, ty51), (64, ty64), (71, ty71), (75, ty75), (76, ty76), (79, ty79), (80, ty80), (82, ty82), (89, ty89), (97, ty97), (100, ty100), (102, ty102), (111, ty111), (113, ty113), (129, ty129), (130, ty130), (131, ty131), (133, ty133), (135, ty135), (137, ty137), (139, ty139), (141, ty141), (143, ty143)]
def T : TypeId → Option TI := tabFind tyL
theorem tOk : TabOk Tryz.prog T := tabOk_of ⟨ty3_ok, ty4_ok, ty5_ok, ty9_ok, ty21_ok, ty23_ok, ty24_ok, ty35_ok, ty49_ok, ty51_ok, ty64_ok, ty71_ok, ty75_ok, ty76_ok, ty79_ok, ty80_ok, ty82_ok, ty89_ok, ty97_ok, ty100_ok, ty102_ok, ty111_ok, ty113_ok, ty129_ok, ty130_ok, ty131_ok, ty133_ok, ty135_ok, ty137_ok, ty139_ok, ty141_ok, ty143_ok, trivial⟩
theorem zeroOk_of : ∀ {l : List (Nat × TI)}, (l.all fun p => constOk p.2.zero) = true → ZeroOk (tabFind l)
  | [], _, t, i, h => by cases h
  | (k, j) :: l, h, t, i, hf => by
    simp only [List.all_cons, Bool.and_eq_true] at h
    unfold tabFind at hf
    cases hb : Nat.beq k t <;> rw [hb] at hf
    · exact zeroOk_of h.2 t i hf
    · obtain rfl : j = i := by simpa using hf
      exact h.1
theorem zOk : ZeroOk T := zeroOk_of (by kernel_rfl)
theorem mixed : Tryz.prog.follows .mixedOrders = true := by kernel_rfl
end Go.Proofs.YtepdjimbnbiicaaGreatDoor
