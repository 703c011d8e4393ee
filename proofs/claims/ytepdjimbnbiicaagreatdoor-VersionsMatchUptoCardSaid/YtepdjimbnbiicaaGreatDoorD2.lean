/- Decoders of the seat's types. -/
import Derived.Test.YtepdjimbnbiicaaGreatDoorZ1
import Derived.Test.YtepdjimbnbiicaaGreatDoorL2
set_option linter.unusedVariables false
namespace Go.Proofs.YtepdjimbnbiicaaGreatDoor
open Go Go.RowKit
def decVer : Dec Tryz.prog 35 Ver :=
  Dec.iso (Dec.struct Tryz.underlying35 (tot := 4) (by kernel_rfl)
    (DecF.cons (Dec.int .i64 Tryz.underlying3) rfl (n := 1) (by kernel_rfl) (DecF.cons (Dec.int .i64 Tryz.underlying3) rfl (n := 1) (by kernel_rfl) (DecF.cons (Dec.int .i64 Tryz.underlying3) rfl (n := 1) (by kernel_rfl) (DecF.cons (Dec.str Tryz.underlying9) rfl (n := 1) (by kernel_rfl) (DecF.nil 4))))))
    (fun x => (⟨x.1, x.2.1, x.2.2.1, x.2.2.2.1⟩ : Ver)) verD (fun N v => VerOk v ∧ v.e.length < N) (fun m n v h hv => ⟨hv.1, Nat.lt_of_lt_of_le hv.2 h⟩) (fun _ => rfl)
    (fun N x hx => by
      obtain ⟨h1, h2, h3, h4, _⟩ := hx
      have b1 := bounds_i64 h1
      have b2 := bounds_i64 h2
      have b3 := bounds_i64 h3
      exact ⟨⟨b1.1, b1.2, b2.1, b2.2, b3.1, b3.2⟩, h4⟩)
end Go.Proofs.YtepdjimbnbiicaaGreatDoor
