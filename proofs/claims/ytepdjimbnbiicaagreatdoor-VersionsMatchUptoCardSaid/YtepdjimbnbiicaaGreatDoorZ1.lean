/- The world in which a row's call begins: what the listed variables give; a world for the witness. -/
import Derived.Test.YtepdjimbnbiicaaGreatDoorA16
import Derived.Test.YtepdjimbnbiicaaGreatDoorL1
import Derived.Test.YtepdjimbnbiicaaGreatDoorCards
import Derived.Test.YtepdjimbnbiicaaGreatDoorTie
import Derived.Lib.LaidU8
import Derived.Shelf.Vars
import Derived.Deep.DeepLaidRun
set_option linter.unusedVariables false
set_option linter.unusedSimpArgs false
set_option maxRecDepth 100000
namespace Go.Proofs.YtepdjimbnbiicaaGreatDoor
open Go Go.RowKit Go.ChangeShapes Go.WideShapes Go.ChangeAt

theorem trod_iface {H : Type} {enc : TypeId × Value → H} {P : Program} {w : World} {fuel : Nat} {t : TypeId} {cs : List Value} {nm : String} {x : DataW H} {p : List MemPlace} {ms : Array (String × TypeId)} (ht : P.underlying t = some (.interface ms))
    (h : DataW.trod enc P w 0 (fun _ => true) false fuel t cs = some (.iface nm x, p)) : ∃ u v, cs = [.iface u v] := by
  cases fuel with
  | zero => simp [DataW.trod] at h
  | succ fuel =>
    unfold DataW.trod at h
    rw [ht] at h
    split at h <;> first
      | exact ⟨_, _, rfl⟩
      | (simp_all; done)
theorem err_of {P : Program} {W : World} {n : String} {nm : String} {d : DataW Unit} {g : Nat} {t : TypeId} {ms : Array (String × TypeId)} (hg : P.globalNamed n = some g) (hty : (P.globals[g]?).map (·.type) = some t) (ht : P.underlying t = some (.interface ms))
    (h : Lib.VarReads P W n (.iface nm d)) : ∃ t p, W.var? P n = some #[.iface t p] := by
  obtain ⟨g', t', cs, fuel, p, hg', ht', hvar, hd⟩ := h
  obtain rfl := Option.some.inj (hg.symm.trans hg')
  obtain rfl := Option.some.inj (hty.symm.trans ht')
  obtain ⟨u, v, hc⟩ := trod_iface ht hd
  exact ⟨u, v, by rw [hvar]; congr 1; exact Array.ext' (by simpa using hc)⟩
theorem pow_of {W : World} (h : Lib.VarReads Tryz.prog W "internal/strconv.uint64pow10" Rows.laid_internal_strconv_uint64pow10) : Lib.TabIs Tryz.prog W "internal/strconv.uint64pow10" .u64 Lib.pow10Tab := by
  obtain ⟨g', t', cs, fuel, p, hg', ht', hvar, hd⟩ := h
  obtain rfl := Option.some.inj ((show Tryz.prog.globalNamed "internal/strconv.uint64pow10" = some 3 by kernel_rfl).symm.trans hg')
  obtain rfl := Option.some.inj ((show (Tryz.prog.globals[3]?).map (·.type) = some 203 by kernel_rfl).symm.trans ht')
  unfold Lib.TabIs
  rw [hvar, ← Lib.cells_of_tab (k := .u64) (zs := Lib.pow10Tab) Tryz.underlying203 Tryz.underlying171 (by kernel_rfl) (by kernel_rfl) hd]
theorem base_of {W : World} {l : List (String × DataW Unit)} (hl : laidMet Tryz.prog l W) (h1 : ("internal/strconv.uint64pow10", Rows.laid_internal_strconv_uint64pow10) ∈ l) (h2 : ("strconv.ErrSyntax", Rows.laid_strconv_ErrSyntax) ∈ l)
    (h3 : ("strconv.ErrRange", Rows.laid_strconv_ErrRange) ∈ l) (hS : W.ShapedOpen Tryz.prog) : J.I W where
  max := cell_of_shapedOpen_int (t := 3) (zero := #[.int .i64 0]) hS (of_decide_eq_true (by kernel_rfl)) (by kernel_rfl) rfl (by kernel_rfl) (by kernel_rfl) Tryz.underlying3
  pow := pow_of (Lib.laidMet.reads hl h1)
  esyn := err_of (g := 1) (by kernel_rfl) (by kernel_rfl) Tryz.underlying89 (Lib.laidMet.reads hl h2)
  eran := err_of (g := 2) (by kernel_rfl) (by kernel_rfl) Tryz.underlying89 (Lib.laidMet.reads hl h3)

mutual
def dcells : DataW Unit → List Value
  | .lit (.int k n) => [.int k n]
  | .agg ds => dcellsL ds
  | _ => []
def dcellsL : List (DataW Unit) → List Value
  | [] => []
  | d :: ds => dcells d ++ dcellsL ds
end
def putCs (cs : List Value) : Obj → Obj
  | .cells _ t fr => .cells cs.toArray t fr
  | o => o
def errText : DataW Unit → ByteArray
  | .iface _ (.ptr (.agg [.lit (.string s)])) => ⟨s.toArray⟩
  | _ => ByteArray.empty
def errCell (b : Nat) : List Value := [.iface 207 (.pointer (some ⟨b, 0, none⟩))]
/-- The settled world, the listed variables holding what their initialisers lay. -/
noncomputable def laidWorld (os : Os) : World :=
  { World.holding Tryz.prog os ⟨#[], #[], []⟩ with heap :=
    let h := (World.holding Tryz.prog os ⟨#[], #[], []⟩).heap
    let h := h.modify 3 (putCs (dcells Rows.laid_internal_strconv_uint64pow10))
    let h := h.modify 4 (putCs (dcells Rows.laid_unicode_utf8_first))
    let h := h.modify 5 (putCs (dcells Rows.laid_unicode_utf8_acceptRanges))
    let h := h.modify 6 (putCs (dcells Rows.laid_math_bits_deBruijn32tab))
    let h := h.modify 7 (putCs (dcells Rows.laid_math_bits_deBruijn64tab))
    let n := h.size
    let h := h.modify 1 (putCs (errCell n))
    let h := h.modify 2 (putCs (errCell (n + 1)))
    (h.push (.cells #[.string (errText Rows.laid_strconv_ErrSyntax)] 209 (0, 0))).push (.cells #[.string (errText Rows.laid_strconv_ErrRange)] 209 (0, 0)) }
end Go.Proofs.YtepdjimbnbiicaaGreatDoor
