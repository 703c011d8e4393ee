/- The library's contracts at this seat, as pure calls. -/
import Derived.Test.YtepdjimbnbiicaaGreatDoorA12
import Derived.Test.YtepdjimbnbiicaaGreatDoorShelf
import Derived.Shelf.Strings.SlTrimAscii
import Derived.Test.YtepdjimbnbiicaaGreatDoorP0
set_option linter.unusedVariables false
namespace Go.Proofs.YtepdjimbnbiicaaGreatDoor
open Go Go.RowKit Go.Sort

/-- What the package's variables hold that the library reads. -/
structure Base (w : World) : Prop where
  max : ∃ m, w.cell? ⟨0, 0, none⟩ = some (.int .i64 m)
  pow : Lib.TabIs Tryz.prog w "internal/strconv.uint64pow10" .u64 Lib.pow10Tab
  esyn : ∃ t p, w.var? Tryz.prog "strconv.ErrSyntax" = some #[.iface t p]
  eran : ∃ t p, w.var? Tryz.prog "strconv.ErrRange" = some #[.iface t p]
def J : Inv := ⟨Base, fun w w' h hb => ⟨h.max.imp fun m hm => cell_below hb hm, var_below hb h.pow, h.esyn.imp fun t ht => ht.imp fun p hp => var_below hb hp, h.eran.imp fun t ht => ht.imp fun p hp => var_below hb hp⟩⟩

theorem Below.growDrew (w : World) (k : Nat) (os : Array Obj) : Below w.heap.size w (grow (w.drewN k) os) :=
  ⟨rfl, rfl, rfl, by show _ ≤ (w.heap ++ os).size; simp, fun j hj => by show (w.heap ++ os)[j]? = _; rw [Array.getElem?_append_left hj]⟩
theorem Below.bytesW (w : World) (e : TypeId) (s : ByteArray) : Below w.heap.size w (Lib.bytesWorld w e s) :=
  ⟨rfl, rfl, rfl, by rw [Lib.bytesWorld_size]; omega, fun j hj => Lib.bytesWorld_at_old w e s j hj⟩

theorem pc_Compare (a b : List UInt8) : PureCall Tryz.prog J 70 [.one (.d (.str a)), .one (.d (.str b))] (.one (.d (.int .i64 (Lib.compareBytes a b)))) :=
  PureCall.lib Tryz.func70 (by kernel_rfl) (by kernel_rfl) (xs := [.string ⟨a.toArray⟩, .string ⟨b.toArray⟩]) rfl fun w _ =>
    Calls.mono (Tryz.strings_Compare ⟨a.toArray⟩ ⟨b.toArray⟩ w) fun e w' ⟨he, hw⟩ => ⟨_, he, hw ▸ Below.refl _ _, RV.of_lit (by simp [D.lit])⟩

theorem pc_IndexByte (a : List UInt8) (c : Int) : PureCall Tryz.prog J 105 [.one (.d (.str a)), .one (.d (.int .u8 c))] (.one (.d (.int .i64 (Lib.indexByte a c.toNat.toUInt8)))) :=
  PureCall.lib Tryz.func105 (by kernel_rfl) (by kernel_rfl) (xs := [.string ⟨a.toArray⟩, .int .u8 c]) rfl fun w _ =>
    Calls.mono (Tryz.strings_IndexByte ⟨a.toArray⟩ c w) fun e w' ⟨he, hw⟩ => ⟨_, he, hw ▸ Below.refl _ _, RV.of_lit (by simp [D.lit])⟩

theorem pc_HasPrefix (a b : List UInt8) : PureCall Tryz.prog J 40 [.one (.d (.str a)), .one (.d (.str b))] (.one (.d (.bool (Lib.hasPrefix a b)))) :=
  PureCall.lib Tryz.func40 (by kernel_rfl) (by kernel_rfl) (xs := [.string ⟨a.toArray⟩, .string ⟨b.toArray⟩]) rfl fun w _ =>
    Calls.mono (Tryz.strings_HasPrefix ⟨a.toArray⟩ ⟨b.toArray⟩ w) fun e w' ⟨he, hw⟩ => ⟨_, he, hw ▸ Below.refl _ _, RV.of_lit (by simp [D.lit])⟩

theorem pc_CutPrefix (a b : List UInt8) : PureCall Tryz.prog J 80 [.one (.d (.str a)), .one (.d (.str b))] (.tup [.one (.d (.str (Lib.trimPrefix a b))), .one (.d (.bool (Lib.hasPrefix a b)))]) :=
  PureCall.lib Tryz.func80 (by kernel_rfl) (by kernel_rfl) (xs := [.string ⟨a.toArray⟩, .string ⟨b.toArray⟩]) rfl fun w _ =>
    Calls.mono (Tryz.strings_CutPrefix ⟨a.toArray⟩ ⟨b.toArray⟩ w) fun e w' ⟨he, hw⟩ => ⟨_, he, hw ▸ Below.refl _ _, RV.tup2 (RV.of_lit (by simp [D.lit])) (RV.of_lit (by simp [D.lit]))⟩

theorem pc_Contains (a b : List UInt8) (ha : a.length < 4294967281) : PureCall Tryz.prog J 47 [.one (.d (.str a)), .one (.d (.str b))] (.one (.d (.bool (Lib.contains a b)))) :=
  PureCall.lib Tryz.func47 (by kernel_rfl) (by kernel_rfl) (xs := [.string ⟨a.toArray⟩, .string ⟨b.toArray⟩]) rfl fun w hw =>
    hw.max.elim fun m hm => Calls.mono (Tryz.strings_Contains ⟨a.toArray⟩ ⟨b.toArray⟩ m w (by simpa [ByteArray.size] using ha) hm) fun e w' ⟨he, hw⟩ => ⟨_, he, hw ▸ Below.refl _ _, RV.of_lit (by simp [D.lit])⟩

theorem pc_Cut (a b : List UInt8) (ha : a.length < 4294967281) : PureCall Tryz.prog J 45 [.one (.d (.str a)), .one (.d (.str b))]
    (.tup [.one (.d (.str (Lib.cut a b).1)), .one (.d (.str (Lib.cut a b).2.1)), .one (.d (.bool (Lib.cut a b).2.2))]) :=
  PureCall.lib Tryz.func45 (by kernel_rfl) (by kernel_rfl) (xs := [.string ⟨a.toArray⟩, .string ⟨b.toArray⟩]) rfl fun w hw =>
    hw.max.elim fun m hm => Calls.mono (Tryz.strings_Cut ⟨a.toArray⟩ ⟨b.toArray⟩ m w (by simpa [ByteArray.size] using ha) hm) fun e w' ⟨he, n, hw⟩ => ⟨_, he, hw ▸ Below.drewN' _ _, RV.tup3 (RV.of_lit (by simp [D.lit])) (RV.of_lit (by simp [D.lit])) (RV.of_lit (by simp [D.lit]))⟩

theorem countB_eq (s sep : List UInt8) : Lib.countB ⟨s.toArray⟩ ⟨sep.toArray⟩ = Lib.count s sep := by simp [Lib.countB]
theorem pc_Split (a b : List UInt8) (ha : a.length < 4294967281) (hb : 1 ≤ b.length) : PureCall Tryz.prog J 53 [.one (.d (.str a)), .one (.d (.str b))]
    (.one (.d (.vec 1 ((Lib.split a b).map fun x => [.str x])))) :=
  PureCall.lib Tryz.func53 (by kernel_rfl) (by kernel_rfl) (xs := [.string ⟨a.toArray⟩, .string ⟨b.toArray⟩]) rfl fun w hw =>
    hw.max.elim fun m hm => Calls.mono (Tryz.strings_Split ⟨a.toArray⟩ ⟨b.toArray⟩ m w (by simpa [ByteArray.size] using ha) hm (by simpa [ByteArray.size] using hb)) fun e w' ⟨he, hw⟩ => by
      subst hw
      refine ⟨_, he, Below.alloc' _ _, ?_⟩
      have hl := Lib.splitB_all ⟨b.toArray⟩ (by simpa [ByteArray.size] using hb) 0 (Lib.countB ⟨a.toArray⟩ ⟨b.toArray⟩) ⟨a.toArray⟩ rfl
      have hd := Lib.splitB_data ⟨b.toArray⟩ 0 (Lib.countB ⟨a.toArray⟩ ⟨b.toArray⟩) ⟨a.toArray⟩
      have he : (Lib.split a b).map (fun x => [D.str x]) = (Lib.splitB ⟨b.toArray⟩ 0 (Lib.countB ⟨a.toArray⟩ ⟨b.toArray⟩) ⟨a.toArray⟩).map fun s => [D.str s.data.toList] := by
        have h2 : Lib.split a b = (Lib.splitB ⟨b.toArray⟩ 0 (Lib.countB ⟨a.toArray⟩ ⟨b.toArray⟩) ⟨a.toArray⟩).map (·.data.toList) := by
          rw [hd, countB_eq]; rfl
        rw [h2, List.map_map]; rfl
      rw [he]
      exact RV.texts _ (fun h => by rw [h] at hl; simp at hl) _ hl.symm

theorem pc_Itoa (n : Int) (h0 : -9223372036854775808 ≤ n) (h1 : n ≤ 9223372036854775807) : PureCall Tryz.prog J 66 [.one (.d (.int .i64 n))] (.one (.d (.str (Lib.itoa n)))) :=
  PureCall.lib Tryz.func66 (by kernel_rfl) (by kernel_rfl) (xs := [.int .i64 n]) rfl fun w hw =>
    Calls.mono (Tryz.strconv_Itoa n h0 h1 w hw.pow) fun e w' ⟨he, k, os, hw⟩ => ⟨_, he, hw ▸ Below.growDrew _ _ _, RV.of_lit (by simp [D.lit])⟩

theorem pc_cmpInt (x y : Int) : PureCall Tryz.prog J 68 [.one (.d (.int .i64 x)), .one (.d (.int .i64 y))] (.one (.d (.int .i64 (Lib.compareInt x y)))) :=
  PureCall.lib Tryz.func68 (by kernel_rfl) (by kernel_rfl) (xs := [.int .i64 x, .int .i64 y]) rfl fun w _ =>
    Calls.mono (Tryz.cmp_Compare_int x y w) fun e w' ⟨he, hw⟩ => ⟨_, he, hw ▸ Below.refl _ _, RV.of_lit (by simp [D.lit])⟩

theorem pc_Trim (s cs : List UInt8) (hs : s.length ≤ 9223372036854775807) (hcs : cs.length < 4294967281) (ha : cs.all (fun b => decide (b.toNat < 128)) = true) :
    PureCall Tryz.prog J 89 [.one (.d (.str s)), .one (.d (.str cs))] (.one (.d (.str (Lib.trimS s cs)))) :=
  PureCall.lib Tryz.func89 (by kernel_rfl) (by kernel_rfl) (xs := [.string ⟨s.toArray⟩, .string ⟨cs.toArray⟩]) rfl fun w _ =>
    Calls.mono (Any.strings_Trim_laid Tryz.lays160 (by kernel_rfl) ⟨s.toArray⟩ ⟨cs.toArray⟩ w (by simpa [ByteArray.size] using hs) (by simpa [ByteArray.size] using hcs) (ascii_of_all (by simpa using ha))) fun e w' ⟨he, hw⟩ => ⟨_, he, hw, RV.of_lit (by simp [D.lit])⟩

theorem pc_Atoi (s : List UInt8) (hs : s.length ≤ 281474976710656) : PureCall Tryz.prog J 69 [.one (.d (.str s))] (.tup [.one (.d (.int .i64 (atoiV s))), .one (.d (.err (atoiOk s)))]) :=
  PureCall.lib Tryz.func69 (by kernel_rfl) (by kernel_rfl) (xs := [.string ⟨s.toArray⟩]) rfl fun w hw => by
    have hsz : (⟨s.toArray⟩ : ByteArray).size ≤ 281474976710656 := by simpa [ByteArray.size] using hs
    cases h : Lib.atoiAll s with
    | ok v =>
      refine Calls.mono (Tryz.strconv_Atoi_ok ⟨s.toArray⟩ (by omega) v h w) fun e w' ⟨he, hw⟩ => ⟨_, he, ?_, ?_⟩
      · rcases hw with rfl | ⟨t, rfl⟩
        · exact Below.refl _ _
        · exact Below.bytesW _ _ _
      · rw [show atoiV s = v by simp [atoiV, h], show atoiOk s = true by simp [atoiOk, h]]
        exact RV.tup2 (RV.of_lit rfl) (.one _ _ (.d _ _ .errNil))
    | range =>
      obtain ⟨t, p, hv⟩ := hw.eran
      refine Calls.mono (Tryz.strconv_Atoi_range_var ⟨s.toArray⟩ hsz h t p w hv) fun e w' ⟨N, he, _, _, hB⟩ => ⟨_, he, hB, ?_⟩
      rw [show atoiV s = Lib.atoiSat s by simp [atoiV, h], show atoiOk s = false by simp [atoiOk, h]]
      exact RV.tup2 (RV.of_lit rfl) (.one _ _ (.d _ _ (.errSome _ _)))
    | _ =>
      obtain ⟨t, p, hv⟩ := hw.esyn
      refine Calls.mono (Tryz.strconv_Atoi_syntax_var ⟨s.toArray⟩ hsz h t p w hv) fun e w' ⟨N, he, _, _, hB⟩ => ⟨_, he, hB, ?_⟩
      rw [show atoiV s = 0 by simp [atoiV, h], show atoiOk s = false by simp [atoiOk, h]]
      exact RV.tup2 (RV.of_lit rfl) (.one _ _ (.d _ _ (.errSome _ _)))
end Go.Proofs.YtepdjimbnbiicaaGreatDoor
