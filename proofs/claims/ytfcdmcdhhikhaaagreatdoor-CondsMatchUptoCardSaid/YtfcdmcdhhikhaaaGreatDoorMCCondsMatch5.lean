/- CondsMatch: where what it reads is of bulk at most 1048576, it returns true, and what it was given reads as it did. -/
import Derived.Shelf.SlIter.Nil
import Derived.Shelf.SortM.Plain
import Derived.Shelf.SortM.SortNone
import Derived.Ground.GgzProg
import Derived.Ground.SlgmProg
import Derived.Test.YtfcdmcdhhikhaaaGreatDoorProg
import Derived.Test.YtfcdmcdhhikhaaaGreatDoorRows
import Derived.Lib.LaidTab
import Derived.Carry
import Derived.ChangeSame
import Derived.OpenVars
import Derived.OpenShut
import Derived.WalkKit
import Derived.ProofKit
import Derived.Deep.DeepHandedRow
import Derived.Test.YtfcdmcdhhikhaaaGreatDoorCards
import Derived.Test.YtfcdmcdhhikhaaaGreatDoorTie
import Derived.Lib.LaidU8
import Derived.Shelf.Vars
import Derived.Deep.DeepLaidRun
import Derived.Test.YtfcdmcdhhikhaaaGreatDoorMCCondsMatch4
set_option linter.unusedVariables false
set_option linter.unusedSimpArgs false
set_option maxRecDepth 100000
set_option maxHeartbeats 4000000
namespace Go.Proofs.YtfcdmcdhhikhaaaGreatDoor
section
open Go
open Go.RowKit
attribute [local irreducible] thenK blockK W
attribute [local irreducible] rangeB rangeR pathB nameB valueB bsI bsF valO valT parseB hasB hasR CT.ho holdK tabOf tabTo
def tellT (t : Tab) (q : L8) : L8 × Bool := (getL beqS [] t q, hasL beqS t q)
theorem ho_5r {f g : Tell} {c : CT} (h2 : (c.k == 2) = false) (h3 : (c.k == 3) = false) (h4 : (c.k == 4) = false) (h : (c.k == 5) = true) (hr : (rangeB c.v).2 = 0) : c.ho f g = (((f c.n).2 && (parseB (f c.n).1).2 == 0) && hasR (rangeB c.v).1 (parseB (f c.n).1).1) := by
 rw [ho_5 h2 h3 h4 h, hr]
 cases hq : (f c.n).2 with
 | false => rfl
 | true =>
  cases hp : ((parseB (f c.n).1).2 == 0) with
  | false => rfl
  | true =>
   show (hasB _ _) = (hasR _ _)
   have h0 : (parseB (f c.n).1).2 = 0 := by simpa using hp
   exact has_eq (rangeB_E c.v) (parse_check (s := (f c.n).1) (Prod.ext rfl h0))
structure TabB (t : Tab) : Prop where
 v : ∀ q, (getL beqS [] t q).length < 4294967000
theorem pc_ref1 (ft gt : Tab) (a : CT) (ha : HCall Tryz.prog J 21 [ctV a, .one (.map 0), .one (.map 1)] [] [] [tabD ft, tabD gt] (isH (.one (.d (.bool (a.ho (tellT ft) (tellT gt))))) [] [] [tabD ft, tabD gt])) :
  HCall Tryz.prog J 67 ([ctV a, .one (.ptr 0 0), .one (.ptr 1 0)]) ([[.map 0], [.map 1]]) ([]) ([tabD ft, tabD gt]) (isH (.one (.d (.bool (!a.ho (tellT ft) (tellT gt))))) ([[.map 0], [.map 1]]) ([]) ([tabD ft, tabD gt])) := by
 refine HCall.ofD tOk ⟨2, 0, 2⟩ (fn := Tryz.f67) Tryz.func67 (by kernel_rfl) rfl (Nat.le_of_ble_eq_true rfl) (fun E => ?_)
 iterate 7 first|refine Yp rfl ?_|refine S.box rfl rfl rfl rfl ?_|apply Y3|apply Y1
 refine S.hcallD rfl rfl rfl rfl (ha.fd [] [] [0, 1] rfl) ?_
 iterate 2 refine Yp rfl ?_
 apply Yn
 apply Yt
 exact ⟨_, rfl, rfl, LeG.refl _, rfl, rfl, rfl⟩
theorem pc_ref2 (ft gt : Tab) (a : CT) (ha : HCall Tryz.prog J 21 [ctV a, .one (.map 0), .one (.map 1)] [] [] [tabD ft, tabD gt] (isH (.one (.d (.bool (a.ho (tellT ft) (tellT gt))))) [] [] [tabD ft, tabD gt])) :
  HCall Tryz.prog J 68 ([ctV a, .one (.ptr 0 0), .one (.ptr 1 0)]) ([[.map 0], [.map 1]]) ([]) ([tabD ft, tabD gt]) (isH (.one (.d (.bool (a.ho (tellT ft) (tellT gt))))) ([[.map 0], [.map 1]]) ([]) ([tabD ft, tabD gt])) := by
 refine HCall.ofD tOk ⟨2, 0, 2⟩ (fn := Tryz.f68) Tryz.func68 (by kernel_rfl) rfl (Nat.le_of_ble_eq_true rfl) (fun E => ?_)
 iterate 7 first|refine Yp rfl ?_|refine S.box rfl rfl rfl rfl ?_|apply Y3|apply Y1
 refine S.hcallD rfl rfl rfl rfl (ha.fd [] [] [0, 1] rfl) ?_
 refine Yp rfl ?_
 apply Yn
 apply Yt
 exact ⟨_, rfl, rfl, LeG.refl _, rfl, rfl, rfl⟩
theorem pc_refs (ft gt : Tab) (hf : TabB ft) (hg : TabB gt) (c : CT) (hc : CtT c) (ih : ∀ a ∈ c.l, HCall Tryz.prog J 21 [ctV a, .one (.map 0), .one (.map 1)] [] [] [tabD ft, tabD gt] (isH (.one (.d (.bool (a.ho (tellT ft) (tellT gt))))) [] [] [tabD ft, tabD gt])) :
  HCall Tryz.prog J 21 ([ctV c, .one (.map 0), .one (.map 1)]) ([]) ([]) ([tabD ft, tabD gt]) (isH (.one (.d (.bool (c.ho (tellT ft) (tellT gt))))) ([]) ([]) ([tabD ft, tabD gt])) := by
 have hl := hc.ll
 have hv := hc.v
 have hfl := hf.v c.n
 have hpe := parse_e (getL beqS [] ft c.n)
 have hrl := rangeB_len c.v
 have pcR := pc_outref2_ReadRange c.v (by omega)
 rw [← range_eq] at pcR
 unfold ctV
 rw [ds_map]
 refine HCall.ofD tOk ⟨0, 0, 2⟩ (fn := Tryz.f21) Tryz.func21 (by kernel_rfl) rfl (Nat.le_of_ble_eq_true rfl) (fun E => ?_)
 iterate 16 first|refine Yp rfl ?_|refine S.box rfl rfl rfl rfl ?_|apply Yb|apply Y1|apply Yn|apply Ys
 refine W.cond rfl (fun c1=>?_) fun c1=>?_
 ·skip
  apply Y1
  iterate 3 refine Yp rfl ?_
  refine S.lookup tOk keyS (fD := fun v : List UInt8 => DV.one (.str v)) [] (ft) rfl rfl rfl rfl rfl rfl rfl rfl rfl rfl (show mapV true _ _ = V.tup [_, _] from rfl) ?_
  iterate 18 first|refine S.pickAnd tOk zOk rfl rfl tg ?_|refine Yp rfl ?_|refine Yg rfl rfl tg ?_|apply Yu|apply Yv|apply Yt|apply Y3|apply Yn
  exact ⟨_, rfl, rfl, LeG.of_force rfl (by first | (rw [ho_2 c1]; rfl) | (rw [ho_3 c1 c2]; rfl) | (rw [ho_4 c1 c2 c3]; rfl) | (rw [ho_5r c1 c2 c3 c4 hk5]; rfl) | (rw [ho_6 c5 h0]; done) | (rw [ho_7 c6]; done) | (rw [ho_8 c7]; done) | (rw [ho_0 c1 c2 c3 c4 c5 c6 c7]; rfl)), rfl, rfl, rfl⟩
 apply Y1
 iterate 2 refine Yp rfl ?_
 apply Yn
 refine W.cond rfl (fun c2=>?_) fun c2=>?_
 ·skip
  apply Y1
  iterate 3 refine Yp rfl ?_
  refine S.lookup tOk keyS (fD := fun v : List UInt8 => DV.one (.str v)) [] (gt) rfl rfl rfl rfl rfl rfl rfl rfl rfl rfl (show mapV true _ _ = V.tup [_, _] from rfl) ?_
  iterate 18 first|refine S.pickAnd tOk zOk rfl rfl tg ?_|refine Yp rfl ?_|refine Yg rfl rfl tg ?_|apply Yu|apply Yv|apply Yt|apply Y3|apply Yn
  exact ⟨_, rfl, rfl, LeG.of_force rfl (by first | (rw [ho_2 c1]; rfl) | (rw [ho_3 c1 c2]; rfl) | (rw [ho_4 c1 c2 c3]; rfl) | (rw [ho_5r c1 c2 c3 c4 hk5]; rfl) | (rw [ho_6 c5 h0]; done) | (rw [ho_7 c6]; done) | (rw [ho_8 c7]; done) | (rw [ho_0 c1 c2 c3 c4 c5 c6 c7]; rfl)), rfl, rfl, rfl⟩
 apply Y1
 iterate 2 refine Yp rfl ?_
 apply Yn
 refine W.cond rfl (fun c3=>?_) fun c3=>?_
 ·skip
  apply Y1
  iterate 3 refine Yp rfl ?_
  refine S.lookup tOk keyS (fD := fun v : List UInt8 => DV.one (.str v)) [] (gt) rfl rfl rfl rfl rfl rfl rfl rfl rfl rfl (show mapV true _ _ = V.tup [_, _] from rfl) ?_
  iterate 12 first|refine Yp rfl ?_|apply Yu|apply Yv|apply Yt|apply Y3|apply Yn
  exact ⟨_, rfl, rfl, LeG.of_force rfl (by first | (rw [ho_2 c1]; rfl) | (rw [ho_3 c1 c2]; rfl) | (rw [ho_4 c1 c2 c3]; rfl) | (rw [ho_5r c1 c2 c3 c4 hk5]; rfl) | (rw [ho_6 c5 h0]; done) | (rw [ho_7 c6]; done) | (rw [ho_8 c7]; done) | (rw [ho_0 c1 c2 c3 c4 c5 c6 c7]; rfl)), rfl, rfl, rfl⟩
 apply Y1
 iterate 2 refine Yp rfl ?_
 apply Yn
 refine W.cond rfl (fun c4=>?_) fun c4=>?_
 ·skip
  have hk5 := hc.ver (by simpa using c4)
  apply Y1
  iterate 3 refine Yp rfl ?_
  refine S.lookup tOk keyS (fD := fun v : List UInt8 => DV.one (.str v)) [] (ft) rfl rfl rfl rfl rfl rfl rfl rfl rfl rfl (show mapV true _ _ = V.tup [_, _] from rfl) ?_
  iterate 7 first|refine Yp rfl ?_|apply Y3
  refine S.call rfl rfl rfl rfl rfl (pc_outref2_ReadVersion (getL beqS [] ft c.n) (by omega)) ?_
  iterate 9 first|refine Yp rfl ?_|refine S.store tOk rfl rfl rfl rfl rfl rfl rfl rfl ?_|refine S.alloc tOk rfl rfl rfl rfl ?_|apply Y3
  refine S.call rfl rfl rfl rfl rfl (pcR) ?_
  iterate 15 first|refine S.pickAnd tOk zOk rfl rfl tg ?_|refine Yp rfl ?_|refine Yg rfl rfl tg ?_|refine S.store tOk rfl rfl rfl rfl rfl rfl rfl rfl ?_|refine S.alloc tOk rfl rfl rfl rfl ?_|apply Y3
  refine S.callG rfl rfl rfl rfl tg rfl rfl (fun _ => pc_outref2_HasOf (rangeB c.v).1 (by omega) (range_sp c.v) (parseB (getL beqS [] ft c.n)).1 (by omega)) ?_
  refine S.pickAnd tOk zOk rfl rfl tg ?_
  refine Yp rfl ?_
  apply Yn
  apply Yt
  apply Yv
  apply Yu
  exact ⟨_, rfl, rfl, LeG.of_force rfl (by first | (rw [ho_2 c1]; rfl) | (rw [ho_3 c1 c2]; rfl) | (rw [ho_4 c1 c2 c3]; rfl) | (rw [ho_5r c1 c2 c3 c4 hk5]; rfl) | (rw [ho_6 c5 h0]; done) | (rw [ho_7 c6]; done) | (rw [ho_8 c7]; done) | (rw [ho_0 c1 c2 c3 c4 c5 c6 c7]; rfl)), rfl, rfl, rfl⟩
 apply Y1
 iterate 2 refine Yp rfl ?_
 apply Yn
 refine W.cond rfl (fun c5=>?_) fun c5=>?_
 ·skip
  have hk6 := hc.not (by simpa using c5)
  have h0 : 0 < c.l.length := by omega
  apply Ys
  refine W.regionS 6 mixed rfl (by kernel_rfl) ?_
  refine AnyZ.eager 0 rfl (by kernel_rfl) (Eag.pure tOk zOk rfl (fun _ _ _ => rfl) rfl rfl) ?_
  refine AnyZ.three 1 4 5 (by kernel_rfl) rfl rfl rfl ?_ ?_ ?_
  ·skip
   refine OpZ.d ?_
   refine Ym rfl rfl ?_
   refine WD.nil ?_
   refine AnyZ.three 2 4 5 (by kernel_rfl) rfl rfl rfl ?_ ?_ ?_
   ·skip
    refine OpZ.d ?_
    refine D.pureE tOk zOk rfl rfl (row_ok (i := 0) h0) (getD_map_ct (i := 0) h0) rfl ?_
    refine WD.nil ?_
    refine AnyZ.three 3 4 5 (by kernel_rfl) rfl rfl rfl ?_ ?_ ?_
    ·skip
     refine OpZ.d ?_
     refine Ym rfl rfl ?_
     refine WD.nil ?_
     refine AnyZ.two 4 5 (by kernel_rfl) rfl rfl ?_ ?_
     ·skip
      refine OpZ.d ?_
      refine Ym rfl rfl ?_
      refine WD.nil ?_
      refine AnyZ.one 5 (by kernel_rfl) rfl ?_
      refine OpZ.d ?_
      refine Ym rfl rfl ?_
      refine WD.nil ?_
      refine AnyZ.nil (by kernel_rfl) ?_
      refine S.hcallD rfl rfl rfl rfl ((ih (c.l.getD 0 CT.z) (mem_ct h0)).fd [] [] [0, 1] rfl) ?_
      iterate 6 first|refine Yp rfl ?_|apply Yu|apply Yv|apply Yt|apply Yn
      exact ⟨_, rfl, rfl, LeG.of_force rfl (by first | (rw [ho_2 c1]; rfl) | (rw [ho_3 c1 c2]; rfl) | (rw [ho_4 c1 c2 c3]; rfl) | (rw [ho_5r c1 c2 c3 c4 hk5]; rfl) | (rw [ho_6 c5 h0]; done) | (rw [ho_7 c6]; done) | (rw [ho_8 c7]; done) | (rw [ho_0 c1 c2 c3 c4 c5 c6 c7]; rfl)), rfl, rfl, rfl⟩
     refine OpZ.d ?_
     refine Ym rfl rfl ?_
     refine WD.nil ?_
     refine AnyZ.one 4 (by kernel_rfl) rfl ?_
     refine OpZ.d ?_
     refine Ym rfl rfl ?_
     refine WD.nil ?_
     refine AnyZ.nil (by kernel_rfl) ?_
     refine S.hcallD rfl rfl rfl rfl ((ih (c.l.getD 0 CT.z) (mem_ct h0)).fd [] [] [0, 1] rfl) ?_
     iterate 6 first|refine Yp rfl ?_|apply Yu|apply Yv|apply Yt|apply Yn
     exact ⟨_, rfl, rfl, LeG.of_force rfl (by first | (rw [ho_2 c1]; rfl) | (rw [ho_3 c1 c2]; rfl) | (rw [ho_4 c1 c2 c3]; rfl) | (rw [ho_5r c1 c2 c3 c4 hk5]; rfl) | (rw [ho_6 c5 h0]; done) | (rw [ho_7 c6]; done) | (rw [ho_8 c7]; done) | (rw [ho_0 c1 c2 c3 c4 c5 c6 c7]; rfl)), rfl, rfl, rfl⟩
    ·skip
     refine OpZ.d ?_
     refine Ym rfl rfl ?_
     refine WD.nil ?_
     refine AnyZ.two 3 5 (by kernel_rfl) rfl rfl ?_ ?_
     ·skip
      refine OpZ.d ?_
      refine Ym rfl rfl ?_
      refine WD.nil ?_
      refine AnyZ.one 5 (by kernel_rfl) rfl ?_
      refine OpZ.d ?_
      refine Ym rfl rfl ?_
      refine WD.nil ?_
      refine AnyZ.nil (by kernel_rfl) ?_
      refine S.hcallD rfl rfl rfl rfl ((ih (c.l.getD 0 CT.z) (mem_ct h0)).fd [] [] [0, 1] rfl) ?_
      iterate 6 first|refine Yp rfl ?_|apply Yu|apply Yv|apply Yt|apply Yn
      exact ⟨_, rfl, rfl, LeG.of_force rfl (by first | (rw [ho_2 c1]; rfl) | (rw [ho_3 c1 c2]; rfl) | (rw [ho_4 c1 c2 c3]; rfl) | (rw [ho_5r c1 c2 c3 c4 hk5]; rfl) | (rw [ho_6 c5 h0]; done) | (rw [ho_7 c6]; done) | (rw [ho_8 c7]; done) | (rw [ho_0 c1 c2 c3 c4 c5 c6 c7]; rfl)), rfl, rfl, rfl⟩
     refine OpZ.d ?_
     refine Ym rfl rfl ?_
     refine WD.nil ?_
     refine AnyZ.one 3 (by kernel_rfl) rfl ?_
     refine OpZ.d ?_
     refine Ym rfl rfl ?_
     refine WD.nil ?_
     refine AnyZ.nil (by kernel_rfl) ?_
     refine S.hcallD rfl rfl rfl rfl ((ih (c.l.getD 0 CT.z) (mem_ct h0)).fd [] [] [0, 1] rfl) ?_
     iterate 6 first|refine Yp rfl ?_|apply Yu|apply Yv|apply Yt|apply Yn
     exact ⟨_, rfl, rfl, LeG.of_force rfl (by first | (rw [ho_2 c1]; rfl) | (rw [ho_3 c1 c2]; rfl) | (rw [ho_4 c1 c2 c3]; rfl) | (rw [ho_5r c1 c2 c3 c4 hk5]; rfl) | (rw [ho_6 c5 h0]; done) | (rw [ho_7 c6]; done) | (rw [ho_8 c7]; done) | (rw [ho_0 c1 c2 c3 c4 c5 c6 c7]; rfl)), rfl, rfl, rfl⟩
    refine OpZ.d ?_
    refine Ym rfl rfl ?_
    refine WD.nil ?_
    refine AnyZ.two 3 4 (by kernel_rfl) rfl rfl ?_ ?_
    ·skip
     refine OpZ.d ?_
     refine Ym rfl rfl ?_
     refine WD.nil ?_
     refine AnyZ.one 4 (by kernel_rfl) rfl ?_
     refine OpZ.d ?_
     refine Ym rfl rfl ?_
     refine WD.nil ?_
     refine AnyZ.nil (by kernel_rfl) ?_
     refine S.hcallD rfl rfl rfl rfl ((ih (c.l.getD 0 CT.z) (mem_ct h0)).fd [] [] [0, 1] rfl) ?_
     iterate 6 first|refine Yp rfl ?_|apply Yu|apply Yv|apply Yt|apply Yn
     exact ⟨_, rfl, rfl, LeG.of_force rfl (by first | (rw [ho_2 c1]; rfl) | (rw [ho_3 c1 c2]; rfl) | (rw [ho_4 c1 c2 c3]; rfl) | (rw [ho_5r c1 c2 c3 c4 hk5]; rfl) | (rw [ho_6 c5 h0]; done) | (rw [ho_7 c6]; done) | (rw [ho_8 c7]; done) | (rw [ho_0 c1 c2 c3 c4 c5 c6 c7]; rfl)), rfl, rfl, rfl⟩
    refine OpZ.d ?_
    refine Ym rfl rfl ?_
    refine WD.nil ?_
    refine AnyZ.one 3 (by kernel_rfl) rfl ?_
    refine OpZ.d ?_
    refine Ym rfl rfl ?_
    refine WD.nil ?_
    refine AnyZ.nil (by kernel_rfl) ?_
    refine S.hcallD rfl rfl rfl rfl ((ih (c.l.getD 0 CT.z) (mem_ct h0)).fd [] [] [0, 1] rfl) ?_
    iterate 6 first|refine Yp rfl ?_|apply Yu|apply Yv|apply Yt|apply Yn
    exact ⟨_, rfl, rfl, LeG.of_force rfl (by first | (rw [ho_2 c1]; rfl) | (rw [ho_3 c1 c2]; rfl) | (rw [ho_4 c1 c2 c3]; rfl) | (rw [ho_5r c1 c2 c3 c4 hk5]; rfl) | (rw [ho_6 c5 h0]; done) | (rw [ho_7 c6]; done) | (rw [ho_8 c7]; done) | (rw [ho_0 c1 c2 c3 c4 c5 c6 c7]; rfl)), rfl, rfl, rfl⟩
   ·skip
    refine OpZ.d ?_
    refine Ym rfl rfl ?_
    refine WD.nil ?_
    refine AnyZ.two 2 5 (by kernel_rfl) rfl rfl ?_ ?_
    ·skip
     refine OpZ.d ?_
     refine D.pureE tOk zOk rfl rfl (row_ok (i := 0) h0) (getD_map_ct (i := 0) h0) rfl ?_
     refine WD.nil ?_
     refine AnyZ.two 3 5 (by kernel_rfl) rfl rfl ?_ ?_
     ·skip
      refine OpZ.d ?_
      refine Ym rfl rfl ?_
      refine WD.nil ?_
      refine AnyZ.one 5 (by kernel_rfl) rfl ?_
      refine OpZ.d ?_
      refine Ym rfl rfl ?_
      refine WD.nil ?_
      refine AnyZ.nil (by kernel_rfl) ?_
      refine S.hcallD rfl rfl rfl rfl ((ih (c.l.getD 0 CT.z) (mem_ct h0)).fd [] [] [0, 1] rfl) ?_
      iterate 6 first|refine Yp rfl ?_|apply Yu|apply Yv|apply Yt|apply Yn
      exact ⟨_, rfl, rfl, LeG.of_force rfl (by first | (rw [ho_2 c1]; rfl) | (rw [ho_3 c1 c2]; rfl) | (rw [ho_4 c1 c2 c3]; rfl) | (rw [ho_5r c1 c2 c3 c4 hk5]; rfl) | (rw [ho_6 c5 h0]; done) | (rw [ho_7 c6]; done) | (rw [ho_8 c7]; done) | (rw [ho_0 c1 c2 c3 c4 c5 c6 c7]; rfl)), rfl, rfl, rfl⟩
     refine OpZ.d ?_
     refine Ym rfl rfl ?_
     refine WD.nil ?_
     refine AnyZ.one 3 (by kernel_rfl) rfl ?_
     refine OpZ.d ?_
     refine Ym rfl rfl ?_
     refine WD.nil ?_
     refine AnyZ.nil (by kernel_rfl) ?_
     refine S.hcallD rfl rfl rfl rfl ((ih (c.l.getD 0 CT.z) (mem_ct h0)).fd [] [] [0, 1] rfl) ?_
     iterate 6 first|refine Yp rfl ?_|apply Yu|apply Yv|apply Yt|apply Yn
     exact ⟨_, rfl, rfl, LeG.of_force rfl (by first | (rw [ho_2 c1]; rfl) | (rw [ho_3 c1 c2]; rfl) | (rw [ho_4 c1 c2 c3]; rfl) | (rw [ho_5r c1 c2 c3 c4 hk5]; rfl) | (rw [ho_6 c5 h0]; done) | (rw [ho_7 c6]; done) | (rw [ho_8 c7]; done) | (rw [ho_0 c1 c2 c3 c4 c5 c6 c7]; rfl)), rfl, rfl, rfl⟩
    refine OpZ.d ?_
    refine Ym rfl rfl ?_
    refine WD.nil ?_
    refine AnyZ.one 2 (by kernel_rfl) rfl ?_
    refine OpZ.d ?_
    refine D.pureE tOk zOk rfl rfl (row_ok (i := 0) h0) (getD_map_ct (i := 0) h0) rfl ?_
    refine WD.nil ?_
    refine AnyZ.one 3 (by kernel_rfl) rfl ?_
    refine OpZ.d ?_
    refine Ym rfl rfl ?_
    refine WD.nil ?_
    refine AnyZ.nil (by kernel_rfl) ?_
    refine S.hcallD rfl rfl rfl rfl ((ih (c.l.getD 0 CT.z) (mem_ct h0)).fd [] [] [0, 1] rfl) ?_
    iterate 6 first|refine Yp rfl ?_|apply Yu|apply Yv|apply Yt|apply Yn
    exact ⟨_, rfl, rfl, LeG.of_force rfl (by first | (rw [ho_2 c1]; rfl) | (rw [ho_3 c1 c2]; rfl) | (rw [ho_4 c1 c2 c3]; rfl) | (rw [ho_5r c1 c2 c3 c4 hk5]; rfl) | (rw [ho_6 c5 h0]; done) | (rw [ho_7 c6]; done) | (rw [ho_8 c7]; done) | (rw [ho_0 c1 c2 c3 c4 c5 c6 c7]; rfl)), rfl, rfl, rfl⟩
   refine OpZ.d ?_
   refine Ym rfl rfl ?_
   refine WD.nil ?_
   refine AnyZ.two 2 4 (by kernel_rfl) rfl rfl ?_ ?_
   ·skip
    refine OpZ.d ?_
    refine D.pureE tOk zOk rfl rfl (row_ok (i := 0) h0) (getD_map_ct (i := 0) h0) rfl ?_
    refine WD.nil ?_
    refine AnyZ.two 3 4 (by kernel_rfl) rfl rfl ?_ ?_
    ·skip
     refine OpZ.d ?_
     refine Ym rfl rfl ?_
     refine WD.nil ?_
     refine AnyZ.one 4 (by kernel_rfl) rfl ?_
     refine OpZ.d ?_
     refine Ym rfl rfl ?_
     refine WD.nil ?_
     refine AnyZ.nil (by kernel_rfl) ?_
     refine S.hcallD rfl rfl rfl rfl ((ih (c.l.getD 0 CT.z) (mem_ct h0)).fd [] [] [0, 1] rfl) ?_
     iterate 6 first|refine Yp rfl ?_|apply Yu|apply Yv|apply Yt|apply Yn
     exact ⟨_, rfl, rfl, LeG.of_force rfl (by first | (rw [ho_2 c1]; rfl) | (rw [ho_3 c1 c2]; rfl) | (rw [ho_4 c1 c2 c3]; rfl) | (rw [ho_5r c1 c2 c3 c4 hk5]; rfl) | (rw [ho_6 c5 h0]; done) | (rw [ho_7 c6]; done) | (rw [ho_8 c7]; done) | (rw [ho_0 c1 c2 c3 c4 c5 c6 c7]; rfl)), rfl, rfl, rfl⟩
    refine OpZ.d ?_
    refine Ym rfl rfl ?_
    refine WD.nil ?_
    refine AnyZ.one 3 (by kernel_rfl) rfl ?_
    refine OpZ.d ?_
    refine Ym rfl rfl ?_
    refine WD.nil ?_
    refine AnyZ.nil (by kernel_rfl) ?_
    refine S.hcallD rfl rfl rfl rfl ((ih (c.l.getD 0 CT.z) (mem_ct h0)).fd [] [] [0, 1] rfl) ?_
    iterate 6 first|refine Yp rfl ?_|apply Yu|apply Yv|apply Yt|apply Yn
    exact ⟨_, rfl, rfl, LeG.of_force rfl (by first | (rw [ho_2 c1]; rfl) | (rw [ho_3 c1 c2]; rfl) | (rw [ho_4 c1 c2 c3]; rfl) | (rw [ho_5r c1 c2 c3 c4 hk5]; rfl) | (rw [ho_6 c5 h0]; done) | (rw [ho_7 c6]; done) | (rw [ho_8 c7]; done) | (rw [ho_0 c1 c2 c3 c4 c5 c6 c7]; rfl)), rfl, rfl, rfl⟩
   refine OpZ.d ?_
   refine Ym rfl rfl ?_
   refine WD.nil ?_
   refine AnyZ.one 2 (by kernel_rfl) rfl ?_
   refine OpZ.d ?_
   refine D.pureE tOk zOk rfl rfl (row_ok (i := 0) h0) (getD_map_ct (i := 0) h0) rfl ?_
   refine WD.nil ?_
   refine AnyZ.one 3 (by kernel_rfl) rfl ?_
   refine OpZ.d ?_
   refine Ym rfl rfl ?_
   refine WD.nil ?_
   refine AnyZ.nil (by kernel_rfl) ?_
   refine S.hcallD rfl rfl rfl rfl ((ih (c.l.getD 0 CT.z) (mem_ct h0)).fd [] [] [0, 1] rfl) ?_
   iterate 6 first|refine Yp rfl ?_|apply Yu|apply Yv|apply Yt|apply Yn
   exact ⟨_, rfl, rfl, LeG.of_force rfl (by first | (rw [ho_2 c1]; rfl) | (rw [ho_3 c1 c2]; rfl) | (rw [ho_4 c1 c2 c3]; rfl) | (rw [ho_5r c1 c2 c3 c4 hk5]; rfl) | (rw [ho_6 c5 h0]; done) | (rw [ho_7 c6]; done) | (rw [ho_8 c7]; done) | (rw [ho_0 c1 c2 c3 c4 c5 c6 c7]; rfl)), rfl, rfl, rfl⟩
  ·skip
   refine OpZ.d ?_
   refine Ym rfl rfl ?_
   refine WD.nil ?_
   refine AnyZ.two 1 5 (by kernel_rfl) rfl rfl ?_ ?_
   ·skip
    refine OpZ.d ?_
    refine Ym rfl rfl ?_
    refine WD.nil ?_
    refine AnyZ.two 2 5 (by kernel_rfl) rfl rfl ?_ ?_
    ·skip
     refine OpZ.d ?_
     refine D.pureE tOk zOk rfl rfl (row_ok (i := 0) h0) (getD_map_ct (i := 0) h0) rfl ?_
     refine WD.nil ?_
     refine AnyZ.two 3 5 (by kernel_rfl) rfl rfl ?_ ?_
     ·skip
      refine OpZ.d ?_
      refine Ym rfl rfl ?_
      refine WD.nil ?_
      refine AnyZ.one 5 (by kernel_rfl) rfl ?_
      refine OpZ.d ?_
      refine Ym rfl rfl ?_
      refine WD.nil ?_
      refine AnyZ.nil (by kernel_rfl) ?_
      refine S.hcallD rfl rfl rfl rfl ((ih (c.l.getD 0 CT.z) (mem_ct h0)).fd [] [] [0, 1] rfl) ?_
      iterate 6 first|refine Yp rfl ?_|apply Yu|apply Yv|apply Yt|apply Yn
      exact ⟨_, rfl, rfl, LeG.of_force rfl (by first | (rw [ho_2 c1]; rfl) | (rw [ho_3 c1 c2]; rfl) | (rw [ho_4 c1 c2 c3]; rfl) | (rw [ho_5r c1 c2 c3 c4 hk5]; rfl) | (rw [ho_6 c5 h0]; done) | (rw [ho_7 c6]; done) | (rw [ho_8 c7]; done) | (rw [ho_0 c1 c2 c3 c4 c5 c6 c7]; rfl)), rfl, rfl, rfl⟩
     refine OpZ.d ?_
     refine Ym rfl rfl ?_
     refine WD.nil ?_
     refine AnyZ.one 3 (by kernel_rfl) rfl ?_
     refine OpZ.d ?_
     refine Ym rfl rfl ?_
     refine WD.nil ?_
     refine AnyZ.nil (by kernel_rfl) ?_
     refine S.hcallD rfl rfl rfl rfl ((ih (c.l.getD 0 CT.z) (mem_ct h0)).fd [] [] [0, 1] rfl) ?_
     iterate 6 first|refine Yp rfl ?_|apply Yu|apply Yv|apply Yt|apply Yn
     exact ⟨_, rfl, rfl, LeG.of_force rfl (by first | (rw [ho_2 c1]; rfl) | (rw [ho_3 c1 c2]; rfl) | (rw [ho_4 c1 c2 c3]; rfl) | (rw [ho_5r c1 c2 c3 c4 hk5]; rfl) | (rw [ho_6 c5 h0]; done) | (rw [ho_7 c6]; done) | (rw [ho_8 c7]; done) | (rw [ho_0 c1 c2 c3 c4 c5 c6 c7]; rfl)), rfl, rfl, rfl⟩
    refine OpZ.d ?_
    refine Ym rfl rfl ?_
    refine WD.nil ?_
    refine AnyZ.one 2 (by kernel_rfl) rfl ?_
    refine OpZ.d ?_
    refine D.pureE tOk zOk rfl rfl (row_ok (i := 0) h0) (getD_map_ct (i := 0) h0) rfl ?_
    refine WD.nil ?_
    refine AnyZ.one 3 (by kernel_rfl) rfl ?_
    refine OpZ.d ?_
    refine Ym rfl rfl ?_
    refine WD.nil ?_
    refine AnyZ.nil (by kernel_rfl) ?_
    refine S.hcallD rfl rfl rfl rfl ((ih (c.l.getD 0 CT.z) (mem_ct h0)).fd [] [] [0, 1] rfl) ?_
    iterate 6 first|refine Yp rfl ?_|apply Yu|apply Yv|apply Yt|apply Yn
    exact ⟨_, rfl, rfl, LeG.of_force rfl (by first | (rw [ho_2 c1]; rfl) | (rw [ho_3 c1 c2]; rfl) | (rw [ho_4 c1 c2 c3]; rfl) | (rw [ho_5r c1 c2 c3 c4 hk5]; rfl) | (rw [ho_6 c5 h0]; done) | (rw [ho_7 c6]; done) | (rw [ho_8 c7]; done) | (rw [ho_0 c1 c2 c3 c4 c5 c6 c7]; rfl)), rfl, rfl, rfl⟩
   refine OpZ.d ?_
   refine Ym rfl rfl ?_
   refine WD.nil ?_
   refine AnyZ.one 1 (by kernel_rfl) rfl ?_
   refine OpZ.d ?_
   refine Ym rfl rfl ?_
   refine WD.nil ?_
   refine AnyZ.one 2 (by kernel_rfl) rfl ?_
   refine OpZ.d ?_
   refine D.pureE tOk zOk rfl rfl (row_ok (i := 0) h0) (getD_map_ct (i := 0) h0) rfl ?_
   refine WD.nil ?_
   refine AnyZ.one 3 (by kernel_rfl) rfl ?_
   refine OpZ.d ?_
   refine Ym rfl rfl ?_
   refine WD.nil ?_
   refine AnyZ.nil (by kernel_rfl) ?_
   refine S.hcallD rfl rfl rfl rfl ((ih (c.l.getD 0 CT.z) (mem_ct h0)).fd [] [] [0, 1] rfl) ?_
   iterate 6 first|refine Yp rfl ?_|apply Yu|apply Yv|apply Yt|apply Yn
   exact ⟨_, rfl, rfl, LeG.of_force rfl (by first | (rw [ho_2 c1]; rfl) | (rw [ho_3 c1 c2]; rfl) | (rw [ho_4 c1 c2 c3]; rfl) | (rw [ho_5r c1 c2 c3 c4 hk5]; rfl) | (rw [ho_6 c5 h0]; done) | (rw [ho_7 c6]; done) | (rw [ho_8 c7]; done) | (rw [ho_0 c1 c2 c3 c4 c5 c6 c7]; rfl)), rfl, rfl, rfl⟩
  refine OpZ.d ?_
  refine Ym rfl rfl ?_
  refine WD.nil ?_
  refine AnyZ.two 1 4 (by kernel_rfl) rfl rfl ?_ ?_
  ·skip
   refine OpZ.d ?_
   refine Ym rfl rfl ?_
   refine WD.nil ?_
   refine AnyZ.two 2 4 (by kernel_rfl) rfl rfl ?_ ?_
   ·skip
    refine OpZ.d ?_
    refine D.pureE tOk zOk rfl rfl (row_ok (i := 0) h0) (getD_map_ct (i := 0) h0) rfl ?_
    refine WD.nil ?_
    refine AnyZ.two 3 4 (by kernel_rfl) rfl rfl ?_ ?_
    ·skip
     refine OpZ.d ?_
     refine Ym rfl rfl ?_
     refine WD.nil ?_
     refine AnyZ.one 4 (by kernel_rfl) rfl ?_
     refine OpZ.d ?_
     refine Ym rfl rfl ?_
     refine WD.nil ?_
     refine AnyZ.nil (by kernel_rfl) ?_
     refine S.hcallD rfl rfl rfl rfl ((ih (c.l.getD 0 CT.z) (mem_ct h0)).fd [] [] [0, 1] rfl) ?_
     iterate 6 first|refine Yp rfl ?_|apply Yu|apply Yv|apply Yt|apply Yn
     exact ⟨_, rfl, rfl, LeG.of_force rfl (by first | (rw [ho_2 c1]; rfl) | (rw [ho_3 c1 c2]; rfl) | (rw [ho_4 c1 c2 c3]; rfl) | (rw [ho_5r c1 c2 c3 c4 hk5]; rfl) | (rw [ho_6 c5 h0]; done) | (rw [ho_7 c6]; done) | (rw [ho_8 c7]; done) | (rw [ho_0 c1 c2 c3 c4 c5 c6 c7]; rfl)), rfl, rfl, rfl⟩
    refine OpZ.d ?_
    refine Ym rfl rfl ?_
    refine WD.nil ?_
    refine AnyZ.one 3 (by kernel_rfl) rfl ?_
    refine OpZ.d ?_
    refine Ym rfl rfl ?_
    refine WD.nil ?_
    refine AnyZ.nil (by kernel_rfl) ?_
    refine S.hcallD rfl rfl rfl rfl ((ih (c.l.getD 0 CT.z) (mem_ct h0)).fd [] [] [0, 1] rfl) ?_
    iterate 6 first|refine Yp rfl ?_|apply Yu|apply Yv|apply Yt|apply Yn
    exact ⟨_, rfl, rfl, LeG.of_force rfl (by first | (rw [ho_2 c1]; rfl) | (rw [ho_3 c1 c2]; rfl) | (rw [ho_4 c1 c2 c3]; rfl) | (rw [ho_5r c1 c2 c3 c4 hk5]; rfl) | (rw [ho_6 c5 h0]; done) | (rw [ho_7 c6]; done) | (rw [ho_8 c7]; done) | (rw [ho_0 c1 c2 c3 c4 c5 c6 c7]; rfl)), rfl, rfl, rfl⟩
   refine OpZ.d ?_
   refine Ym rfl rfl ?_
   refine WD.nil ?_
   refine AnyZ.one 2 (by kernel_rfl) rfl ?_
   refine OpZ.d ?_
   refine D.pureE tOk zOk rfl rfl (row_ok (i := 0) h0) (getD_map_ct (i := 0) h0) rfl ?_
   refine WD.nil ?_
   refine AnyZ.one 3 (by kernel_rfl) rfl ?_
   refine OpZ.d ?_
   refine Ym rfl rfl ?_
   refine WD.nil ?_
   refine AnyZ.nil (by kernel_rfl) ?_
   refine S.hcallD rfl rfl rfl rfl ((ih (c.l.getD 0 CT.z) (mem_ct h0)).fd [] [] [0, 1] rfl) ?_
   iterate 6 first|refine Yp rfl ?_|apply Yu|apply Yv|apply Yt|apply Yn
   exact ⟨_, rfl, rfl, LeG.of_force rfl (by first | (rw [ho_2 c1]; rfl) | (rw [ho_3 c1 c2]; rfl) | (rw [ho_4 c1 c2 c3]; rfl) | (rw [ho_5r c1 c2 c3 c4 hk5]; rfl) | (rw [ho_6 c5 h0]; done) | (rw [ho_7 c6]; done) | (rw [ho_8 c7]; done) | (rw [ho_0 c1 c2 c3 c4 c5 c6 c7]; rfl)), rfl, rfl, rfl⟩
  refine OpZ.d ?_
  refine Ym rfl rfl ?_
  refine WD.nil ?_
  refine AnyZ.one 1 (by kernel_rfl) rfl ?_
  refine OpZ.d ?_
  refine Ym rfl rfl ?_
  refine WD.nil ?_
  refine AnyZ.one 2 (by kernel_rfl) rfl ?_
  refine OpZ.d ?_
  refine D.pureE tOk zOk rfl rfl (row_ok (i := 0) h0) (getD_map_ct (i := 0) h0) rfl ?_
  refine WD.nil ?_
  refine AnyZ.one 3 (by kernel_rfl) rfl ?_
  refine OpZ.d ?_
  refine Ym rfl rfl ?_
  refine WD.nil ?_
  refine AnyZ.nil (by kernel_rfl) ?_
  refine S.hcallD rfl rfl rfl rfl ((ih (c.l.getD 0 CT.z) (mem_ct h0)).fd [] [] [0, 1] rfl) ?_
  iterate 6 first|refine Yp rfl ?_|apply Yu|apply Yv|apply Yt|apply Yn
  exact ⟨_, rfl, rfl, LeG.of_force rfl (by first | (rw [ho_2 c1]; rfl) | (rw [ho_3 c1 c2]; rfl) | (rw [ho_4 c1 c2 c3]; rfl) | (rw [ho_5r c1 c2 c3 c4 hk5]; rfl) | (rw [ho_6 c5 h0]; done) | (rw [ho_7 c6]; done) | (rw [ho_8 c7]; done) | (rw [ho_0 c1 c2 c3 c4 c5 c6 c7]; rfl)), rfl, rfl, rfl⟩
 apply Y1
 iterate 2 refine Yp rfl ?_
 apply Yn
 refine W.cond rfl (fun c6=>?_) fun c6=>?_
 ·skip
  apply Y1
  iterate 2 refine Yp rfl ?_
  refine S.makeFunc rfl rfl rfl ?_
  refine S.hcallD rfl rfl rfl rfl (pc_ContainsFunc_Cond 67 [.ptr 1 0, .ptr 2 0] _ _ _ (fun a => !a.ho (tellT ft) (tellT gt)) c.l (by omega) (fun a ha => (pc_ref1 ft gt a (ih a ha)).fd [1, 2] [] [0, 1] rfl)) ?_
  iterate 6 first|refine Yp rfl ?_|apply Yu|apply Yv|apply Yt|apply Yn
  exact ⟨_, rfl, rfl, LeG.of_force rfl (by first | (rw [ho_2 c1]; rfl) | (rw [ho_3 c1 c2]; rfl) | (rw [ho_4 c1 c2 c3]; rfl) | (rw [ho_5r c1 c2 c3 c4 hk5]; rfl) | (rw [ho_6 c5 h0]; done) | (rw [ho_7 c6]; done) | (rw [ho_8 c7]; done) | (rw [ho_0 c1 c2 c3 c4 c5 c6 c7]; rfl)), rfl, rfl, rfl⟩
 apply Y1
 iterate 2 refine Yp rfl ?_
 apply Yn
 refine W.cond rfl (fun c7=>?_) fun c7=>?_
 ·skip
  apply Y1
  iterate 2 refine Yp rfl ?_
  refine S.makeFunc rfl rfl rfl ?_
  refine S.hcallD rfl rfl rfl rfl (pc_ContainsFunc_Cond 68 [.ptr 1 0, .ptr 2 0] _ _ _ (fun a => a.ho (tellT ft) (tellT gt)) c.l (by omega) (fun a ha => (pc_ref2 ft gt a (ih a ha)).fd [1, 2] [] [0, 1] rfl)) ?_
  refine Yp rfl ?_
  apply Yn
  apply Yt
  apply Yv
  apply Yu
  exact ⟨_, rfl, rfl, LeG.of_force rfl (by first | (rw [ho_2 c1]; rfl) | (rw [ho_3 c1 c2]; rfl) | (rw [ho_4 c1 c2 c3]; rfl) | (rw [ho_5r c1 c2 c3 c4 hk5]; rfl) | (rw [ho_6 c5 h0]; done) | (rw [ho_7 c6]; done) | (rw [ho_8 c7]; done) | (rw [ho_0 c1 c2 c3 c4 c5 c6 c7]; rfl)), rfl, rfl, rfl⟩
 apply Yk
 apply Yw
 apply Y3
 refine Yp rfl ?_
 apply Yn
 apply Yt
 exact ⟨_, rfl, rfl, LeG.of_force rfl (by first | (rw [ho_2 c1]; rfl) | (rw [ho_3 c1 c2]; rfl) | (rw [ho_4 c1 c2 c3]; rfl) | (rw [ho_5r c1 c2 c3 c4 hk5]; rfl) | (rw [ho_6 c5 h0]; done) | (rw [ho_7 c6]; done) | (rw [ho_8 c7]; done) | (rw [ho_0 c1 c2 c3 c4 c5 c6 c7]; rfl)), rfl, rfl, rfl⟩
theorem pc_ref (ft gt : Tab) (hf : TabB ft) (hg : TabB gt) : ∀ (n : Nat) (c : CT), c.w ≤ n → CtT c → HCall Tryz.prog J 21 [ctV c, .one (.map 0), .one (.map 1)] [] [] [tabD ft, tabD gt] (isH (.one (.d (.bool (c.ho (tellT ft) (tellT gt))))) [] [] [tabD ft, tabD gt])
 | 0, c, h => by have := c.pos; omega
 | n + 1, c, h => fun hc => pc_refs ft gt hf hg c hc (fun a ha => pc_ref ft gt hf hg n a (by have := CT.sz ha; omega) (hc.l a ha))
end
end Go.Proofs.YtfcdmcdhhikhaaaGreatDoor
/-
  DERIVED: THE SHELF's CONTRACTS AT THIS DUMP, IN PLAIN WORDS (tools/lay-plain.mjs out of 'TryzShelfK.lean', which tools/lay-shelf.mjs wrote): THE SAME DECLARATIONS UNDER THE SAME NAMES: 'import', 'namespace', 'open', 'def', 'theorem' AND NOTHING ELSE: no command of the shelf's: FOR A HAND-IN. Each laying: the table of numbers ('.._ren') and one theorem, a field a fact of the dump's own or the kernel's comparison; each contract: ONE APPLICATION.
-/
namespace Go.Proofs
open Go.Shelf
def Tryz.sort57_ren : Go.Shelf.Ren := ⟨fun | 6 => 57 | 8 => 98 | 9 => 97 | 19 => 148 | 20 => 149 | 21 => 139 | 22 => 140 | 23 => 141 | 24 => 142 | 25 => 143 | 26 => 144 | 27 => 145 | 28 => 146 | 29 => 147 | 36 => 183 | 31 => 184 | 32 => 185 | 37 => 186 | 38 => 187 | 39 => 188 | 41 => 209 | n => n, fun | 27 => 39 | 29 => 9 | 3 => 3 | 32 => 132 | 26 => 39 | 0 => 0 | 44 => 180 | 46 => 182 | 4 => 4 | 36 => 174 | 35 => 173 | 41 => 116 | 5 => 5 | 9 => 9 | 53 => 222 | 57 => 226 | 63 => 235 | 64 => 236 | n => n, fun | n => n⟩
theorem Tryz.sort57 : Go.Proofs.SlLaysM.n6 Tryz.prog Tryz.sort57_ren := {
 mixed := by kernel_rfl
 f6 := ⟨Tryz.f57.name, by decide, Tryz.func57.trans (congrArg some (by kernel_rfl))⟩
 f8 := Tryz.func98.trans (congrArg some (by kernel_rfl))
 f9 := ⟨Tryz.f97.name, by decide, Tryz.func97.trans (congrArg some (by kernel_rfl))⟩
 f19 := Tryz.func148.trans (congrArg some (by kernel_rfl))
 f20 := Tryz.func149.trans (congrArg some (by kernel_rfl))
 f21 := ⟨Tryz.f139.name, by decide, Tryz.func139.trans (congrArg some (by kernel_rfl))⟩
 f22 := ⟨Tryz.f140.name, by decide, Tryz.func140.trans (congrArg some (by kernel_rfl))⟩
 f23 := ⟨Tryz.f141.name, by decide, Tryz.func141.trans (congrArg some (by kernel_rfl))⟩
 f24 := ⟨Tryz.f142.name, by decide, Tryz.func142.trans (congrArg some (by kernel_rfl))⟩
 f25 := ⟨Tryz.f143.name, by decide, Tryz.func143.trans (congrArg some (by kernel_rfl))⟩
 f26 := ⟨Tryz.f144.name, by decide, Tryz.func144.trans (congrArg some (by kernel_rfl))⟩
 f27 := ⟨Tryz.f145.name, by decide, Tryz.func145.trans (congrArg some (by kernel_rfl))⟩
 f28 := ⟨Tryz.f146.name, by decide, Tryz.func146.trans (congrArg some (by kernel_rfl))⟩
 f29 := ⟨Tryz.f147.name, by decide, Tryz.func147.trans (congrArg some (by kernel_rfl))⟩
 f31 := Tryz.func184.trans (congrArg some (by kernel_rfl))
 f32 := Tryz.func185.trans (congrArg some (by kernel_rfl))
 f36 := ⟨Tryz.f183.name, by decide, Tryz.func183.trans (congrArg some (by kernel_rfl))⟩
 f37 := ⟨Tryz.f186.name, by decide, Tryz.func186.trans (congrArg some (by kernel_rfl))⟩
 f38 := ⟨Tryz.f187.name, by decide, Tryz.func187.trans (congrArg some (by kernel_rfl))⟩
 f39 := ⟨Tryz.f188.name, by decide, Tryz.func188.trans (congrArg some (by kernel_rfl))⟩
 f41 := ⟨Tryz.f209.name, by decide, Tryz.func209.trans (congrArg some (by kernel_rfl))⟩
 t0 := Tryz.underlying0
 a0 := Tryz.isAgg0
 z0 := Tryz.sizeOf0
 v0 := Tryz.zeroValue0
 t3 := Tryz.underlying3
 a3 := Tryz.isAgg3
 z3 := Tryz.sizeOf3
 v3 := Tryz.zeroValue3
 t4 := Tryz.underlying4
 a4 := Tryz.isAgg4
 z4 := Tryz.sizeOf4
 v4 := Tryz.zeroValue4
 t5 := Tryz.underlying5
 a5 := Tryz.isAgg5
 z5 := Tryz.sizeOf5
 v5 := Tryz.zeroValue5
 t9 := Tryz.underlying9
 a9 := Tryz.isAgg9
 z9 := Tryz.sizeOf9
 v9 := Tryz.zeroValue9
 t26 := Tryz.underlying39
 a26 := Tryz.isAgg39
 z26 := Tryz.sizeOf39
 v26 := Tryz.zeroValue39
 t27 := Tryz.underlying39
 a27 := Tryz.isAgg39
 z27 := Tryz.sizeOf39
 v27 := Tryz.zeroValue39
 t29 := Tryz.underlying9
 a29 := Tryz.isAgg9
 z29 := Tryz.sizeOf9
 v29 := Tryz.zeroValue9
 t32 := Tryz.underlying132
 a32 := Tryz.isAgg132
 z32 := Tryz.sizeOf132
 v32 := Tryz.zeroValue132
 t35 := Tryz.underlying173
 a35 := Tryz.isAgg173
 z35 := Tryz.sizeOf173
 v35 := Tryz.zeroValue173
 t36 := Tryz.underlying174
 a36 := Tryz.isAgg174
 z36 := Tryz.sizeOf174
 v36 := Tryz.zeroValue174
 t41 := Tryz.underlying116
 a41 := Tryz.isAgg116
 z41 := Tryz.sizeOf116
 v41 := Tryz.zeroValue116
 t44 := Tryz.underlying180
 a44 := Tryz.isAgg180
 z44 := Tryz.sizeOf180
 v44 := Tryz.zeroValue180
 t46 := Tryz.underlying182
 a46 := Tryz.isAgg182
 z46 := Tryz.sizeOf182
 v46 := Tryz.zeroValue182
 t53 := Tryz.underlying222
 a53 := Tryz.isAgg222
 z53 := Tryz.sizeOf222
 v53 := Tryz.zeroValue222
 t57 := Tryz.underlying226
 a57 := Tryz.isAgg226
 z57 := Tryz.sizeOf226
 v57 := Tryz.zeroValue226
 t63 := Tryz.underlying235
 a63 := Tryz.isAgg235
 z63 := Tryz.sizeOf235
 v63 := Tryz.zeroValue235
 t64 := Tryz.underlying236
 a64 := Tryz.isAgg236
 z64 := Tryz.sizeOf236
 v64 := Tryz.zeroValue236 }
def Tryz.sorted43_ren : Go.Shelf.Ren := ⟨fun | 6 => 43 | 8 => 83 | 9 => 57 | 11 => 133 | 13 => 98 | 12 => 97 | 23 => 148 | 24 => 149 | 14 => 139 | 15 => 140 | 16 => 141 | 17 => 142 | 18 => 143 | 19 => 144 | 20 => 145 | 21 => 146 | 22 => 147 | 25 => 183 | 26 => 184 | 27 => 185 | 28 => 186 | 29 => 187 | 30 => 188 | 31 => 209 | n => n, fun | 26 => 9 | 28 => 80 | 24 => 39 | 0 => 0 | 3 => 3 | 37 => 132 | 48 => 180 | 50 => 182 | 4 => 4 | 40 => 174 | 39 => 173 | 45 => 116 | 5 => 5 | 9 => 9 | 51 => 222 | 55 => 226 | 57 => 235 | 58 => 236 | 33 => 71 | n => n, fun | n => n⟩
theorem Tryz.sorted43 : Go.Proofs.SlLaysZ.n6 Tryz.prog Tryz.sorted43_ren := {
 mixed := by kernel_rfl
 f6 := ⟨Tryz.f43.name, by decide, Tryz.func43.trans (congrArg some (by kernel_rfl))⟩
 f8 := ⟨Tryz.f83.name, by decide, Tryz.func83.trans (congrArg some (by kernel_rfl))⟩
 f11 := ⟨Tryz.f133.name, by decide, Tryz.func133.trans (congrArg some (by kernel_rfl))⟩
 t0 := Tryz.underlying0
 a0 := Tryz.isAgg0
 z0 := Tryz.sizeOf0
 v0 := Tryz.zeroValue0
 t24 := Tryz.underlying39
 a24 := Tryz.isAgg39
 z24 := Tryz.sizeOf39
 v24 := Tryz.zeroValue39
 t26 := Tryz.underlying9
 a26 := Tryz.isAgg9
 z26 := Tryz.sizeOf9
 v26 := Tryz.zeroValue9
 t28 := Tryz.underlying80
 a28 := Tryz.isAgg80
 z28 := Tryz.sizeOf80
 v28 := Tryz.zeroValue80
 i26 := by kernel_rfl }
def Tryz.keys44_ren : Go.Shelf.Ren := ⟨fun | 7 => 44 | 10 => 84 | n => n, fun | 23 => 70 | 26 => 9 | 3 => 4 | 28 => 80 | 0 => 0 | 27 => 79 | 33 => 71 | 4 => 4 | n => n, fun | n => n⟩
theorem Tryz.keys44 : Go.Proofs.SlLaysZ.n7 Tryz.prog Tryz.keys44_ren := {
 mixed := by kernel_rfl
 f7 := ⟨Tryz.f44.name, by decide, Tryz.func44.trans (congrArg some (by kernel_rfl))⟩
 f10 := ⟨Tryz.f84.name, by decide, Tryz.func84.trans (congrArg some (by kernel_rfl))⟩
 t0 := Tryz.underlying0
 a0 := Tryz.isAgg0
 z0 := Tryz.sizeOf0
 v0 := Tryz.zeroValue0
 t4 := Tryz.underlying4
 a4 := Tryz.isAgg4
 z4 := Tryz.sizeOf4
 v4 := Tryz.zeroValue4
 t23 := Tryz.underlying70
 a23 := Tryz.isAgg70
 z23 := Tryz.sizeOf70
 v23 := Tryz.zeroValue70
 t26 := Tryz.underlying9
 a26 := Tryz.isAgg9
 z26 := Tryz.sizeOf9
 v26 := Tryz.zeroValue9
 t27 := Tryz.underlying79
 a27 := Tryz.isAgg79
 z27 := Tryz.sizeOf79
 v27 := Tryz.zeroValue79
 t28 := Tryz.underlying80
 a28 := Tryz.isAgg80
 z28 := Tryz.sizeOf80
 v28 := Tryz.zeroValue80
 t33 := Tryz.underlying71
 a33 := Tryz.isAgg71
 z33 := Tryz.sizeOf71
 v33 := Tryz.zeroValue71 }
end Go.Proofs
namespace Go.Proofs.YtfcdmcdhhikhaaaGreatDoor
section
open Go Go.RowKit Go.Maps Go.Sort Go.Shelf
theorem sorts_in (m : Nat) : AnyZ.SortsIn Tryz.prog Tryz.sorted43_ren Fence.wide m :=
 ⟨fun blk off cap ss W hH hblk hsz => callsIn_wide.2 (AnyM.slices_Sort_string Tryz.sort57 blk off cap ss W hH hblk hsz), fun p cap W => callsIn_wide.2 (AnyM.slices_Sort_string_none Tryz.sort57 p cap W)⟩
set_option maxHeartbeats 1000000 in
theorem so_44 : SortedOk Tryz.prog 43 84 9 := fun b nn Bm D0 R w hB hc hown hmax hbytes => by
 have hseq : SeqGives Fence.wide 2 Tryz.prog 84 #[.pointer (some ⟨Bm, 0, none⟩)] encStr (fun ss => ss.Perm (strKeys D0)) (Maps.size D0) w :=
  AnyZ.keys_gives (ρ := Tryz.keys44_ren) { Tryz.keys44 with } Fence.wide _ trivial rfl (by omega) Bm b nn D0 _ hB hc hown
 refine (callsIn_wide.1 (AnyZ.sorted_in Tryz.sorted43 Fence.wide 5 trivial trivial trivial trivial rfl (by omega) (sorts_in _) (enters_of Tryz.func57 (by kernel_rfl) rfl) 84 #[.pointer (some ⟨Bm, 0, none⟩)] trivial (enters_of Tryz.func84 (by kernel_rfl) rfl) _ _ hmax hbytes _ hseq)).mono ?_
 rintro e w' ⟨v, ss, he, hp, hrow, _, hb⟩
 exact ⟨v, ss, he, hp, hrow, hb⟩
theorem pc_Sorted_44 {β : Type} {fD : β → DV} (tab : List (List UInt8 × β)) (hn : tab.length * 16 ≤ 140737488355328) (hl : ∀ x ∈ tab, x.1.length ≤ maxLen) (hd : (tab.map (·.1)).Nodup) :
  HCall Tryz.prog J 43 [.one (.clo 84 [.ptr 0 0])] [[.map 0]] [] [mapOf D.str fD tab] (isH (.one (.d (strsD (sortS (tab.map (·.1)))))) [[.map 0]] [] [mapOf D.str fD tab]) :=
 HCall.sorted so_44 (by kernel_rfl) Tryz.func43 (by kernel_rfl) (by kernel_rfl) tab hn hl hd
end
section
open Go
abbrev SetT := List (L8 × Bool)
def setD (s : SetT) : List (DV × DV) := mapOf D.str (fun v : Bool => DV.one (.bool v)) s
def useK (x : Int) (n : L8) : Option L8 := if x == 2 || x == 5 then some ([102, 97, 99, 116, 32] ++ n) else if x == 3 || x == 4 then some ([115, 101, 116, 116, 105, 110, 103, 32] ++ n) else none
def addS (s : SetT) : Option L8 → SetT
 | some q => setL beqS s q true
 | none => s
def nmS (c : CT) (lv : Int) (s : SetT) : Bool × SetT := (true, addS s (useK c.k c.n))
section
variable {x : Int} {n : L8}
theorem use_2 (h : (x == 2) = true) : useK x n = some ([102, 97, 99, 116, 32] ++ n) := by unfold useK; rw [h]; rfl
theorem use_5 (h : (x == 5) = true) : useK x n = some ([102, 97, 99, 116, 32] ++ n) := by unfold useK; rw [h, Bool.or_true]; rfl
theorem use_3 (h2 : (x == 2) = false) (h5 : (x == 5) = false) (h : (x == 3) = true) : useK x n = some ([115, 101, 116, 116, 105, 110, 103, 32] ++ n) := by unfold useK; rw [h2, h5, h]; rfl
theorem use_4 (h2 : (x == 2) = false) (h5 : (x == 5) = false) (h : (x == 4) = true) : useK x n = some ([115, 101, 116, 116, 105, 110, 103, 32] ++ n) := by unfold useK; rw [h2, h5, h, Bool.or_true]; rfl
theorem use_0 (h2 : (x == 2) = false) (h5 : (x == 5) = false) (h3 : (x == 3) = false) (h4 : (x == 4) = false) : useK x n = none := by unfold useK; rw [h2, h5, h3, h4]; rfl
end
end
section
open Go
open Go.RowKit
attribute [local irreducible] thenK blockK W
attribute [local irreducible] rangeB pathB nameB valueB visit visits useK
theorem pc_nm1 (x : Int) (n v : L8) (xs : List (List D)) (hn : n.length < 4294967000) (lv : Int) (s : SetT) :
  HCall Tryz.prog J 42 ([.agg [.d (.int .i64 x), .d (.str n), .d (.str v), .d (.vec 4 xs)], .one (.d (.int .i64 lv)), .one (.ptr 0 0)]) ([[.map 0]]) ([]) ([setD s]) (isH (.one (.d (.bool true))) ([[.map 0]]) ([]) ([setD (addS s (useK x n))])) := by
 refine HCall.ofD tOk ⟨1, 0, 1⟩ (fn := Tryz.f42) Tryz.func42 (by kernel_rfl) rfl (Nat.le_of_ble_eq_true rfl) (fun E => ?_)
 iterate 15 first|refine Yp rfl ?_|apply Yb|refine S.box rfl rfl rfl rfl ?_|apply Y1|apply Yn|apply Ys
 refine W.cond rfl (fun c1=>?_) fun c1=>?_
 ·skip
  apply Yk
  apply Yn
  refine W.cond rfl (fun c2=>?_) fun c2=>?_
  ·skip
   apply Yr
   iterate 3 refine Yp rfl ?_
   refine YP rfl (cat_ok (by simp [-List.getD_eq_getElem?_getD]; omega)) rfl ?_
   refine S.mapUpdate tOk keyS (fD := fun v : Bool => DV.one (.bool v)) true s rfl rfl rfl rfl rfl rfl rfl rfl (show _ = [setD (setL beqS s ([102, 97, 99, 116, 32] ++ n) true)] from rfl) ?_
   apply Yw
   apply Y3
   refine Yp rfl ?_
   apply Yn
   apply Yt
   exact ⟨_, rfl, rfl, LeG.refl _, rfl, rfl, (by rw [use_2 c1]; rfl)⟩
  exact absurd (c1.symm.trans c2) (by decide)
 apply Yr
 iterate 2 refine Yp rfl ?_
 apply Yn
 refine W.cond rfl (fun c3=>?_) fun c3=>?_
 ·skip
  apply Yr
  iterate 3 refine Yp rfl ?_
  refine YP rfl (cat_ok (by simp [-List.getD_eq_getElem?_getD]; omega)) rfl ?_
  refine S.mapUpdate tOk keyS (fD := fun v : Bool => DV.one (.bool v)) true s rfl rfl rfl rfl rfl rfl rfl rfl (show _ = [setD (setL beqS s ([102, 97, 99, 116, 32] ++ n) true)] from rfl) ?_
  apply Yw
  apply Y3
  refine Yp rfl ?_
  apply Yn
  apply Yt
  exact ⟨_, rfl, rfl, LeG.refl _, rfl, rfl, (by rw [use_5 c3]; rfl)⟩
 apply Ys
 apply Y1
 iterate 2 refine Yp rfl ?_
 apply Yn
 refine W.cond rfl (fun c4=>?_) fun c4=>?_
 ·skip
  apply Yk
  apply Yn
  refine W.cond rfl (fun c5=>?_) fun c5=>?_
  ·skip
   apply Yr
   iterate 3 refine Yp rfl ?_
   refine YP rfl (cat_ok (by simp [-List.getD_eq_getElem?_getD]; omega)) rfl ?_
   refine S.mapUpdate tOk keyS (fD := fun v : Bool => DV.one (.bool v)) true s rfl rfl rfl rfl rfl rfl rfl rfl (show _ = [setD (setL beqS s ([115, 101, 116, 116, 105, 110, 103, 32] ++ n) true)] from rfl) ?_
   apply Yw
   apply Y3
   refine Yp rfl ?_
   apply Yn
   apply Yt
   exact ⟨_, rfl, rfl, LeG.refl _, rfl, rfl, (by rw [use_3 c1 c3 c4]; rfl)⟩
  exact absurd (c4.symm.trans c5) (by decide)
 apply Yr
 iterate 2 refine Yp rfl ?_
 apply Yn
 refine W.cond rfl (fun c6=>?_) fun c6=>?_
 ·skip
  apply Yr
  iterate 3 refine Yp rfl ?_
  refine YP rfl (cat_ok (by simp [-List.getD_eq_getElem?_getD]; omega)) rfl ?_
  refine S.mapUpdate tOk keyS (fD := fun v : Bool => DV.one (.bool v)) true s rfl rfl rfl rfl rfl rfl rfl rfl (show _ = [setD (setL beqS s ([115, 101, 116, 116, 105, 110, 103, 32] ++ n) true)] from rfl) ?_
  apply Yw
  apply Y3
  refine Yp rfl ?_
  apply Yn
  apply Yt
  exact ⟨_, rfl, rfl, LeG.refl _, rfl, rfl, (by rw [use_4 c1 c3 c6]; rfl)⟩
 apply Yk
 apply Yw
 apply Y3
 refine Yp rfl ?_
 apply Yn
 apply Yt
 exact ⟨_, rfl, rfl, LeG.refl _, rfl, rfl, (by rw [use_0 c1 c3 c4 c6]; rfl)⟩
theorem pc_walk3s (c : CT) (lv : Int) (s : SetT) (hc : CtBig c) (ih : ∀ a ∈ c.l, ∀ (lv : Int) (s : SetT), CtBig a → HCall Tryz.prog J 41 [ctV a, .one (.d (.int .i64 lv)), .one (.clo 42 [.ptr 0 0])] [[.map 0]] [] [setD s] (isH (.one (.d (.bool (visit nmS a lv s).1))) [[.map 0]] [] [setD (visit nmS a lv s).2])) :
  HCall Tryz.prog J 41 ([ctV c, .one (.d (.int .i64 lv)), .one (.clo 42 [.ptr 0 0])]) ([[.map 0]]) ([]) ([setD s]) (isH (.one (.d (.bool (visit nmS c lv s).1))) ([[.map 0]]) ([]) ([setD (visit nmS c lv s).2])) := by
 have hf : (nmS c lv s).1 = true := rfl
 have hbig := hc.ll
 unfold ctV
 rw [ds_map]
 have hlen : ((c.l.map CT.d).length : Int) = (c.l.length : Int) := by rw [List.length_map]
 refine HCall.ofD tOk ⟨1, 0, 1⟩ (fn := Tryz.f41) Tryz.func41 (by kernel_rfl) rfl (Nat.le_of_ble_eq_true rfl) (fun E => ?_)
 iterate 9 first|refine Yp rfl ?_|refine S.box rfl rfl rfl rfl ?_|apply Y1|apply Ys|apply Yn
 refine S.hcallD rfl rfl rfl rfl ((pc_nm1 c.k c.n c.v _ hc.n lv s).fd [0] [] [0] rfl) ?_
 refine Yp rfl ?_
 apply Yn
 refine W.condF rfl rfl ?_
 iterate 9 first|refine Yp rfl ?_|apply Yk|apply Y1|apply Yn|apply Ys
 apply Yb
 refine W.loop (fun k st => ∃ i : Nat, ∃ s1 : SetT, i ≤ c.l.length ∧ visits (fun a => visit nmS a (up1 lv)) (c.l.take i) (nmS c lv s).2 = (true, s1) ∧ k = c.l.length - i ∧ ∃ t b2 r2 m2, st = ⟨t, [[.map 0], [.d (.int .i64 c.k), .d (.str c.n), .d (.str c.v), .d (.vec 4 (c.l.map CT.d))]] ++ b2, [] ++ r2, [setD s1] ++ m2⟩ ∧ holdsL t [(1, .one (.d (.int .i64 lv))), (2, .one (.clo 42 [.ptr 0 0])), (15, .one (.d (.vec 4 (c.l.map CT.d)))), (16, .one (.d (.int .i64 ((c.l.map CT.d).length : Int)))), (17, .one (.d (.int .i64 (i : Int))))]) (c.l.length) ⟨0, _, Nat.zero_le _, visits_nil, rfl, _, _, _, _, rfl, rfl, rfl, rfl, rfl, rfl, trivial⟩ ?_
 rintro k0 _ ⟨i, s1, f0_0, f0_1, rfl, t0, bb0, rr0, mm0, rfl, hh0⟩
 refine W.keepR _ _ _ _ _ _ _ hh0 rfl ?_
 apply Y1
 refine Yp rfl ?_
 apply Yn
 apply Ys
 refine W.cond rfl (fun c2=>?_) fun c2=>?_
 ·skip
  have hi := row_lt c2
  apply Yk
  apply Yn
  apply Ys
  apply Yb
  apply Y1
  refine YE rfl (row_ok hi) (getD_map_ct hi) rfl ?_
  iterate 8 first|refine Yp rfl ?_|refine S.store tOk rfl rfl rfl rfl rfl rfl rfl rfl ?_|refine S.alloc tOk rfl rfl rfl rfl ?_|apply Y3
  refine S.hcallD rfl rfl rfl rfl ((ih (c.l.getD i CT.z) (mem_ct hi) (up1 lv) s1 (hc.l _ (mem_ct hi))).fd [0] [] [0] rfl) ?_
  refine Yp rfl ?_
  apply Yn
  refine W.cond rfl (fun c3=>?_) fun c3=>?_
  ·skip
   have hv := visit_stop hf hi f0_1 (by simpa using c3)
   iterate 9 first|apply Yu|apply Yv|apply Yt|refine Yp rfl ?_|apply Y1|apply Yn
   exact ⟨_, rfl, rfl, (by rw [hv]; exact LeG.refl _), rfl, rfl, (by rw [hv]; rfl)⟩
  apply Yk
  apply Yw
  apply Y4
  iterate 2 refine Yp rfl ?_
  refine loop_n (c.l.length - (i + 1)) (by omega) ⟨i + 1, _, hi, visit_next hi f0_1 (by simpa using c3), rfl, _, _, _, _, rfl, rfl, rfl, rfl, rfl, inc_i64 (by omega), trivial⟩
 have hi := row_ge c2
 have hv := visit_all hf hi f0_1
 apply Yq
 apply Ye
 apply Ye
 apply Yx
 apply Y3
 refine Yp rfl ?_
 apply Yn
 apply Yt
 exact ⟨_, rfl, rfl, (by rw [hv]; exact LeG.refl _), rfl, rfl, (by rw [hv]; rfl)⟩
theorem pc_walk3 : ∀ (n : Nat) (c : CT), c.w ≤ n → ∀ (lv : Int) (s : SetT), CtBig c → HCall Tryz.prog J 41 [ctV c, .one (.d (.int .i64 lv)), .one (.clo 42 [.ptr 0 0])] [[.map 0]] [] [setD s] (isH (.one (.d (.bool (visit nmS c lv s).1))) [[.map 0]] [] [setD (visit nmS c lv s).2])
 | 0, c, h => by have := c.pos; omega
 | n + 1, c, h => fun lv s hc => pc_walk3s c lv s hc (fun a ha => pc_walk3 n a (by have := CT.sz ha; omega))
def namesP (c : CT) : List L8 × Int := if checkP c != 0 then ([], checkP c) else (sortS ((visit nmS c 0 []).2.map (·.1)), 0)
theorem np_1 {c : CT} (h : (checkP c != 0) = true) : namesP c = ([], checkP c) := if_pos h
theorem np_2 {c : CT} (h : (checkP c != 0) = false) : namesP c = (sortS ((visit nmS c 0 []).2.map (·.1)), 0) := if_neg (Bool.eq_false_iff.1 h)
structure NmOk (c : CT) : Prop where
 n : (visit nmS c 0 []).2.length * 16 ≤ 140737488355328
 l : ∀ x ∈ (visit nmS c 0 []).2, x.1.length ≤ maxLen
 d : ((visit nmS c 0 []).2.map (·.1)).Nodup
theorem pc_keysB (es : List (DV × DV)) :
  HCall Tryz.prog J 44 ([.one (.map 0)]) ([]) ([]) ([es]) (isH (.one (.clo 84 [.ptr 0 0])) ([[.map 0]]) ([]) ([es])) := by
 refine HCall.ofD tOk ⟨1, 0, 1⟩ (fn := Tryz.f44) Tryz.func44 (by kernel_rfl) rfl (Nat.le_of_ble_eq_true rfl) (fun E => ?_)
 apply Y1
 refine S.box rfl rfl rfl rfl ?_
 refine Yp rfl ?_
 apply Y3
 refine S.makeFunc rfl rfl rfl ?_
 refine Yp rfl ?_
 apply Yn
 apply Yt
 exact ⟨_, rfl, rfl, LeG.refl _, rfl, rfl, rfl⟩
theorem pc_ver_Names (c : CT) (hc : CtBig c) (hk : NmOk c) :
  PureCall Tryz.prog J 12 [ctV c] (.tup [.one (.d (strsD (namesP c).1)), .one (.d (.int .i64 (namesP c).2))]) := by
 refine PureCall.of_body tOk (fn := Tryz.f12) Tryz.func12 (by kernel_rfl) rfl (Nat.le_of_ble_eq_true rfl) (fun E => ?_)
 iterate 8 first|refine Yp rfl ?_|refine S.box rfl rfl rfl rfl ?_|apply Y1|apply Ys|apply Yn
 refine S.call rfl rfl rfl rfl rfl (pc_ver_CheckCond c hc) ?_
 iterate 5 first|refine Yp rfl ?_|apply Y3|apply Yn
 refine W.cond rfl (fun c1=>?_) fun c1=>?_
 ·skip
  iterate 7 first|refine Yp rfl ?_|apply Yu|apply Yt|apply Y1|apply Yn
  exact ⟨_, rfl, rfl, (by rw [np_1 c1]; exact LeV.tup2 (LeV.nil 1) (LeV.of_force rfl rfl))⟩
 apply Yk
 apply Y3
 refine S.makeMap rfl ?_
 refine S.alloc tOk rfl rfl rfl rfl ?_
 refine S.store tOk rfl rfl rfl rfl rfl rfl rfl rfl ?_
 apply Y3
 refine Yp rfl ?_
 refine S.makeFunc rfl rfl rfl ?_
 refine S.hcallD rfl rfl rfl rfl ((pc_walk3 _ c (Nat.le_refl _) 0 [] hc).fd [1] [] [0] rfl) ?_
 apply Y3
 refine Yp rfl ?_
 refine S.hcallD rfl rfl rfl rfl ((pc_keysB (setD (visit nmS c 0 []).2)).fd [] [] [0] rfl) ?_
 refine S.hcallD rfl rfl rfl rfl ((pc_Sorted_44 (visit nmS c 0 []).2 hk.n hk.l hk.d).fd [2] [] [0] rfl) ?_
 iterate 2 refine Yp rfl ?_
 apply Yn
 apply Yt
 exact Yz rfl rfl rfl (by rw [np_2 c1]; rfl)
end
section
open Go
open Go.RowKit
attribute [local irreducible] thenK blockK W
attribute [local irreducible] rangeB pathB nameB valueB visit visits checkP
theorem pc_listF (l : List Stg) (hn : l.length ≤ 4294967000) (hs : ∀ s ∈ l, s.k.length < 4294967000 ∧ s.v.length < 4294967000) :
  PureCall Tryz.prog J 20 [.one (.d (.vec 2 (l.map stgD))), .one (.d (.bool true))] (.one (.d (.int .i64 (listE nameB l)))) := by
 refine PureCall.of_body tOk (fn := Tryz.f20) Tryz.func20 (by kernel_rfl) rfl (Nat.le_of_ble_eq_true rfl) (fun E => ?_)
 iterate 9 first|refine Yp rfl ?_|apply Y1|apply Yn|apply Ys
 apply Yb
 refine W.loop (fun k st => ∃ i : Nat, i ≤ l.length ∧ (((List.range l.length).map (stgAt nameB l)).take i).all (· == 0) = true ∧ k = l.length - i ∧ ∃ t b2 r2 m2, st = ⟨t, [] ++ b2, [] ++ r2, [] ++ m2⟩ ∧ holdsL t [(0, .one (.d (.vec 2 (l.map stgD)))), (1, .one (.d (.bool true))), (7, .one (.d (.vec 2 (l.map stgD)))), (8, .one (.d (.int .i64 ((l.map stgD).length : Int)))), (9, .one (.d (.int .i64 (i : Int))))]) (l.length) ⟨0, Nat.zero_le _, by simp, rfl, _, _, _, _, rfl, rfl, rfl, rfl, rfl, rfl, trivial⟩ ?_
 rintro k0 _ ⟨i, f0_0, f0_1, rfl, t0, bb0, rr0, mm0, rfl, hh0⟩
 refine W.keepR _ _ _ _ _ _ _ hh0 rfl ?_
 apply Y1
 refine Yp rfl ?_
 apply Yn
 apply Ys
 refine W.cond rfl (fun c1=>?_) fun c1=>?_
 ·skip
  have hi := row_lt c1
  have hx := hs _ (stg_at hi)
  apply Yk
  apply Yn
  apply Ys
  apply Yb
  apply Y1
  refine Yp rfl ?_
  refine YE rfl (row_ok hi) (row_at Stg.z hi) rfl ?_
  iterate 11 first|refine Yp rfl ?_|refine Yg rfl rfl tg ?_|refine S.store tOk rfl rfl rfl rfl rfl rfl rfl rfl ?_|refine S.alloc tOk rfl rfl rfl rfl ?_|apply Y1|apply Ys|apply Yn
  refine S.callG rfl rfl rfl rfl tg rfl rfl (fun _ => pc_outref2_NameOf (l.getD i Stg.z).k (by omega)) ?_
  iterate 8 first|refine S.pickAnd tOk zOk rfl rfl tg ?_|refine Yg rfl rfl tg ?_|refine Yp rfl ?_
  refine S.callG rfl rfl rfl rfl tg rfl rfl (fun _ => pc_outref2_PathOf (l.getD i Stg.z).k (by omega)) ?_
  refine Yg rfl rfl tg ?_
  refine S.pickAndG tOk zOk rfl rfl rfl tg tg ?_
  refine S.pickOr tOk zOk rfl rfl tg ?_
  apply Yn
  refine W.cond rfl (fun c2=>?_) fun c2=>?_
  ·skip
   have c2 : (!nameB (l.getD i Stg.z).k) = true := by simpa using c2
   iterate 10 first|apply Yu|apply Yv|apply Yt|refine Yp rfl ?_|apply Y1|apply Yn
   exact ⟨_, rfl, rfl, LeV.of_eq (congrArg (fun x => V.one (C.d (D.int .i64 x))) (listE_hit hi f0_1 (stg_5 c2) (by decide)).symm)⟩
  have c2 : (!nameB (l.getD i Stg.z).k) = false := by simpa using c2
  iterate 6 first|refine Yp rfl ?_|apply Yk|apply Y1|apply Ys|apply Yn
  refine S.call rfl rfl rfl rfl rfl (pc_outref2_ValueOf (l.getD i Stg.z).v (by omega)) ?_
  refine Yp rfl ?_
  apply Yn
  refine W.cond rfl (fun c3=>?_) fun c3=>?_
  ·skip
   iterate 10 first|apply Yu|apply Yv|apply Yt|refine Yp rfl ?_|apply Y1|apply Yn
   exact ⟨_, rfl, rfl, LeV.of_eq (congrArg (fun x => V.one (C.d (D.int .i64 x))) (listE_hit hi f0_1 (stg_2 c2 c3) (by decide)).symm)⟩
  apply Yk
  apply Yn
  apply Ys
  refine W.regionD mixed (by kernel_rfl) ?_
  iterate 8 first|refine Yy rfl rfl rfl tg ?_|refine Ym rfl rfl ?_
  refine D.pureEG tOk zOk rfl rfl rfl tg (fun h => pred_ok h hi (by omega)) (row_pred Stg.z hi (by omega)) rfl ?_
  iterate 3 refine Yy rfl rfl rfl tg ?_
  refine D.pickAnd tOk zOk rfl rfl tg ?_
  apply Yn
  refine W.cond rfl (fun c4=>?_) fun c4=>?_
  ·skip
   iterate 9 first|apply Yu|apply Yv|apply Yt|refine Yp rfl ?_|apply Y1|apply Yn
   exact ⟨_, rfl, rfl, LeV.of_eq (congrArg (fun x => V.one (C.d (D.int .i64 x))) (listE_hit hi f0_1 (stg_7 c2 c3 c4) (by decide)).symm)⟩
  apply Yk
  apply Yw
  apply Y4
  iterate 2 refine Yp rfl ?_
  refine loop_n (l.length - (i + 1)) (by omega) ⟨i + 1, hi, range_take hi f0_1 (stg_0 c2 c3 c4), rfl, _, _, _, _, rfl, rfl, rfl, rfl, rfl, inc_i64 (by omega), trivial⟩
 have hi := row_ge c1
 apply Yq
 apply Ye
 apply Ye
 apply Yx
 apply Y3
 refine Yp rfl ?_
 apply Yn
 apply Yt
 exact ⟨_, rfl, rfl, LeV.of_eq (congrArg (fun x => V.one (C.d (D.int .i64 x))) (listE_none hi f0_1).symm)⟩
theorem tell_eq {l : List Stg} (hs : Rise l) (q : L8) : tellT (tabOf l) q = valT l q := by
 have hd : (l.map (·.k)).Nodup := by
  rw [List.nodup_iff_pairwise_ne, List.pairwise_map]
  exact List.Pairwise.imp (fun h e => by rw [e] at h; exact List.lt_irrefl _ h) hs
 have h := tab_lk hd l.length (Nat.le_refl _) q
 rw [List.take_length] at h
 unfold tellT valT
 rw [get_lk, has_lk]
 show ((lk (tabTo l l.length) q).getD [], (lk (tabTo l l.length) q).isSome) = _
 rw [h]
 unfold valO
 cases hq : l.find? (fun s => s.k == q) with
 | none => simp
 | some s => simp
theorem tab_b {l : List Stg} (h : StgL l) : TabB (tabOf l) := ⟨fun q => by
 have := valT_len h q
 rw [← tell_eq h.r] at this
 exact this⟩
end
section
open Go
inductive CtSm : CT → Prop where
 | mk (k : Int) (n v : L8) (l : List CT) (h1 : n.length ≤ 2000000) (h2 : v.length ≤ 2000000) (h4 : l.length ≤ 2000000) (h3 : ∀ a ∈ l, CtSm a) : CtSm (.mk k n v l)
theorem CtSm.big : ∀ {c : CT}, CtSm c → CtBig c := fun {c} h => by
 induction h with
 | mk k n v l h1 h2 h4 h3 ih => exact .mk k n v l (by omega) (by omega) (fun a ha => ih a ha) (by omega)
theorem runs_cc2 : ∀ (L : List (CT × Int)), (runs cc2 L 0).2 = 0 → ∀ p ∈ L, p.1.part = 0
  | [], _ => fun p hp => by cases hp
  | (c, lv) :: L, h => by
    have h1 : runs cc2 ((c, lv) :: L) 0 = if (c.part == 0) = true then runs cc2 L c.part else (false, c.part) := rfl
    rw [h1] at h
    by_cases hc : c.part = 0
    · rw [if_pos (by simpa using hc), hc] at h
      intro p hp
      rcases List.mem_cons.1 hp with rfl | hp
      · exact hc
      · exact runs_cc2 L h p hp
    · rw [if_neg (by simpa using hc)] at h
      exact absurd h hc
theorem pts_sub : ∀ {l : List CT} {a : CT} {lv : Int}, a ∈ l → ∀ p ∈ a.pt lv, p ∈ CT.pts l lv
  | c :: l, a, lv, h => fun p hp => by
    show p ∈ c.pt lv ++ CT.pts l lv
    rcases List.mem_cons.1 h with rfl | h
    · exact List.mem_append_left _ hp
    · exact List.mem_append_right _ (pts_sub h p hp)
theorem part_6 {c : CT} (h : c.part = 0) (hk : c.k = 6) : c.l.length = 1 := by
 unfold CT.part partP at h
 rw [hk] at h
 by_cases hl : c.l.length = 1
 ·skip
  exact hl
 ·skip
  exfalso
  have e : ((6 : Int) == 6 && ((c.l.length : Int) != 1)) = true := by simp; omega
  rw [if_neg (by decide), if_pos (by rw [e, Bool.or_true])] at h
  cases h
theorem part_5 {c : CT} (h : c.part = 0) (hk : c.k = 5) : (rangeB c.v).2 = 0 := by
  unfold CT.part partP at h
  rw [hk] at h
  rw [if_neg (by decide)] at h
  split at h
  · exact absurd h (by decide)
  · rw [if_neg (by decide), if_neg (show ¬ (((5 : Int) == 3 || (5 : Int) == 4) = true) by decide)] at h
    cases hn : nameB c.n with
    | false => rw [hn, if_pos (by decide)] at h; exact absurd h (by decide)
    | true =>
      rw [hn, if_neg (by decide)] at h
      cases hv : valueB c.v with
      | false => rw [hv, if_pos (by decide)] at h; exact absurd h (by decide)
      | true => rw [hv, if_neg (by decide), if_pos (by decide)] at h; exact h
theorem ctT_of : ∀ (n : Nat) (c : CT) (lv : Int), c.w ≤ n → CtSm c → (∀ p ∈ c.pt lv, p.1.part = 0) → CtT c
  | 0, c, lv, h, _, _ => by have := c.pos; omega
  | n + 1, c, lv, h, hs, hp => by
    have hc : c.part = 0 := hp (c, lv) (by rw [pt_eq]; simp)
    have hl : ∀ a ∈ c.l, CtT a := fun a ha => ctT_of n a (up1 lv) (by have := CT.sz ha; omega) (by cases hs with | mk k n v l h1 h2 h4 h3 => exact h3 a ha)
      (fun p hpa => hp p (by rw [pt_eq]; exact List.mem_cons_of_mem _ (pts_sub ha p hpa)))
    have h6 := part_6 hc
    have h5 := part_5 hc
    cases hs with | mk k n v l h1 h2 h4 h3 => exact .mk k n v l h1 h2 h4 h6 h5 hl
theorem check_parts {c : CT} (h : checkP c = 0) : ∀ p ∈ c.pt 0, p.1.part = 0 := by
 have h2 : (visit cc2 c 0 0).2 = 0 := by
  unfold checkP at h
  split at h
  ·skip
   cases h
  ·skip
   split at h
   ·skip
    cases h
   ·skip
    exact h
 rw [visit_runs] at h2
 exact runs_cc2 _ h2
theorem check_T {c : CT} (hs : CtSm c) (h : checkP c = 0) : CtT c := ctT_of _ c 0 (Nat.le_refl _) hs (check_parts h)
end
section
open Go Go.RowKit
section
variable {J : Inv} {k0 : Lens} {E : Env J k0} {P : Program} {n : Nat} {t : Nat → V} {b : List (List C)} {r : List (Option RowO)} {m : List (List (DV × DV))} {ops : Array Oper} {l : List Oper}
  {K : St → Prop} {i : Nat} {ty : TypeId} {pos : String} {after : Array Edge}
theorem W.freezeQ {c : Code} {KK : Ex → St → Prop} {ri : Nat} {q : RowO} (ks : List Nat) (hq : r[ri]? = some (some q)) {kk : Nat} {xs' : List (List D)} (hk : ∀ k ∈ ks, t k = .one (.row ri q.ver 0 kk)) (hxs : q.xs.take kk = xs')
    (h : W E P n c KK ⟨updL t ks (.one (.d (.vec q.sz xs'))), b, r.set ri none, m⟩) : W E P n c KK ⟨t, b, r, m⟩ := by
  subst hxs
  have hr : ri < r.length := (List.getElem?_eq_some_iff.1 hq).1
  have hlive : ∀ x, (⟨updL t ks (.one (.d (.vec q.sz (q.xs.take kk)))), b, r.set ri none, m⟩ : St).live x → (⟨t, b, r, m⟩ : St).live x ∧ x ≠ .r ri := fun x hx => by
    cases x with
    | b l => exact ⟨hx, by simp⟩
    | m l => exact ⟨hx, by simp⟩
    | r l =>
      obtain ⟨o, ho, hal⟩ := hx
      have ho : (r.set ri none)[l]? = some (some o) := ho
      by_cases e : ri = l
      · subst e; simp [List.getElem?_set, hr] at ho
      · exact ⟨⟨o, by simpa [List.getElem?_set, e] using ho, hal⟩, fun h => e (by injection h with h; exact h.symm)⟩
  refine h.weaken fun g a w rel => ?_
  have ho : (⟨t, b, r, m⟩ : St).r[ri]? = some (some q) := hq
  have hrl : q.al = true → (⟨t, b, r, m⟩ : St).live (.r ri) := fun h => ⟨q, hq, h⟩
  have ext : Ext g (⟨t, b, r, m⟩ : St).sh w ⟨fun x => g.im x ∨ (q.al = true ∧ x = g.at_ (.r ri)), g.at_, g.off, g.cap⟩ (⟨updL t ks (.one (.d (.vec q.sz (q.xs.take kk)))), b, r.set ri none, m⟩ : St).sh w := by
    refine ⟨fun _ h => .inl h, fun _ _ => rfl, Nat.le_refl _, Nat.le_refl _, by simp [St.sh], fun _ _ => rfl, fun _ _ => rfl, fun k al ver sz' len hk' hh => ?_⟩
    by_cases e : ri = k
    · subst e; simp [St.sh, List.getElem?_set, hr] at hh
    · exact ⟨al, ver, sz', len, by simpa [St.sh, List.getElem?_set, e] using hh, Nat.le_refl _, fun _ => ⟨rfl, rfl, Nat.le_refl _, rfl, rfl, rfl⟩⟩
  refine ⟨⟨fun x => g.im x ∨ (q.al = true ∧ x = g.at_ (.r ri)), g.at_, g.off, g.cap⟩, rel.below, rel.ext.trans ext, fun x hx => ?_, fun x hx => ?_, fun x hx => rel.own x (hlive x hx).1, ⟨fun x hx => rel.heap.lt x (hlive x hx).1, fun x hx => ?_, fun x y hx hy => rel.heap.inj x y (hlive x hx).1 (hlive y hy).1, fun k cs hk' => ?_, fun k o hk' => ?_, fun k es hk' => ?_⟩, rel.size, rel.defers, fun j hj => ?_⟩
  · rcases hx with h | ⟨h1, h2⟩
    · exact rel.imlt x h
    · rw [h2]; exact rel.heap.lt _ (hrl h1)
  · rcases hx with h | ⟨h1, h2⟩
    · exact rel.imold x h
    · rw [h2]; exact .inr (rel.own _ (hrl h1))
  · rintro (h | ⟨h1, h2⟩)
    · exact rel.heap.new x (hlive x hx).1 h
    · exact (hlive x hx).2 (rel.heap.inj x _ (hlive x hx).1 (hrl h1) h2)
  · obtain ⟨vs, ty, h1, h2, h3⟩ := rel.heap.box k cs hk'
    exact ⟨vs, ty, h1, h2, fun j c v hc hv => (h3 j c v hc hv).mono ext⟩
  · have hk' : (r.set ri none)[k]? = some (some o) := hk'
    by_cases e : ri = k
    · subst e; simp [List.getElem?_set, hr] at hk'
    · have h1 := rel.heap.row k o (by simpa [List.getElem?_set, e] using hk')
      by_cases hal : o.al = true
      · rw [if_pos hal] at h1 ⊢
        obtain ⟨vs, t', q1, q2, q3, q4, q5, q6⟩ := h1
        exact ⟨vs, t', q1, q2, q3, q4, q5, fun i j x d v p1 p2 p3 => (q6 i j x d v p1 p2 p3).mono ext.im ext.same⟩
      · rw [if_neg hal] at h1 ⊢; exact h1
  · obtain ⟨arr, clock, h1, h2, h3⟩ := rel.heap.map k es hk'
    exact ⟨arr, clock, h1, h2, fun i x e hx he => ⟨(h3 i x e hx he).1.mono ext, (h3 i x e hx he).2.mono ext⟩⟩
  · rcases updL_or t (.one (.d (.vec q.sz (q.xs.take kk)))) ks j with ⟨h1, h2⟩ | h1
    · have hup : (⟨updL t ks (.one (.d (.vec q.sz (q.xs.take kk)))), b, r.set ri none, m⟩ : St).t j = .one (.d (.vec q.sz (q.xs.take kk))) := h1
      rw [hup]
      have hv := rel.tmps j hj
      have e1 : (⟨t, b, r, m⟩ : St).t j = .one (.row ri q.ver 0 kk) := hk j h2
      rw [e1] at hv
      exact .one _ _ (.d _ _ (row_RDp rel ho hv))
    · have hup : (⟨updL t ks (.one (.d (.vec q.sz (q.xs.take kk)))), b, r.set ri none, m⟩ : St).t j = t j := h1
      rw [hup]
      exact (rel.tmps j hj).mono ext
structure Sort1Ok (P : Program) (J : Inv) (f : FuncId) (k : Nat) {α : Type} (enc : α → List Value) (srt : List α → List α) : Prop where
 enter : ∃ fn, P.funcs[f]? = some fn ∧ (fn.name == "runtime.NumGoroutine") = false ∧ fn.body.isNone = false
 len : ∀ xs, (srt xs).length = xs.length
 run : ∀ (xs : List α) (blk cap : Nat) (vs : Array Value) (tt : TypeId) (w : World), J.I w → J.N ≤ blk → w.heap[blk]? = some (.cells vs tt (0, 0)) → (∀ (i j : Nat) (x : α) (v : Value), xs[i]? = some x → (enc x)[j]? = some v → vs[i * k + j]? = some v) →
  xs.length * k ≤ vs.size → xs.length < 4611686018427387904 → xs ≠ [] →
  Calls P f #[.slice (some ⟨blk, 0, none⟩) xs.length cap] w fun e w' => e = .returned (.tuple #[]) ∧ w'.os = w.os ∧ w'.tape = w.tape ∧ w'.output = w.output ∧ w.heap.size ≤ w'.heap.size ∧
   (∀ q, q < w.heap.size → q ≠ blk → w'.heap[q]? = w.heap[q]?) ∧ ∃ vs', w'.heap[blk]? = some (.cells vs' tt (0, 0)) ∧ vs'.size = vs.size ∧
   (∀ (i j : Nat) (x : α) (v : Value), (srt xs)[i]? = some x → (enc x)[j]? = some v → vs'[i * k + j]? = some v)
 none : ∀ (p : Option Addr) (cap : Nat) (w : World), Calls P f #[.slice p 0 cap] w fun e w' => e = .returned (.tuple #[]) ∧ w' = w
theorem S.sortOwn {dst : Option Nat} {fo : Operand} {args : Array Operand} {ats : Array TypeId} {u : V} {f : FuncId} {e : TypeId} {ri ver k : Nat} {al : Bool} {α : Type} {enc : α → List Value} {fD : α → List D} {srt : List α → List α} (ys : List α)
  (hu : opd n ⟨t, b, r, m⟩ fo = (true, u)) (hc : calleeV u = some (f, [])) (ha : allOpdL n ⟨t, b, r, m⟩ args.toList = (true, [.one (.row ri ver 0 (ys.map fD).length)])) (so : Sort1Ok P J f k enc srt)
  (hr : r[ri]? = some (some ⟨al, ver, k, e, ys.map fD⟩)) (hk : ∀ x, (fD x).length = k) (hv : ∀ x, (fD x).map valD = (enc x).map some) (h63 : ys.length < 4611686018427387904) {r' : List (Option RowO)} (hr' : r.set ri (some ⟨al, ver, k, e, (srt ys).map fD⟩) = r')
  (h : WL E P n ops l K ⟨updO t dst .junk, b, r', m⟩) : WL E P n ops (⟨dst, .call ⟨.value fo, args, ats⟩, ty, pos, after, none⟩ :: l) K ⟨t, b, r, m⟩ := by
 subst hr'
 intro gh a w rel next Qx hn
 obtain ⟨o, ho⟩ : ∃ o : Oper, o = ⟨dst, .call ⟨.value fo, args, ats⟩, ty, pos, after, none⟩ := ⟨_, rfl⟩
 rw [← ho]
 have hg : o.guard = none := by rw [ho]
 have hop : o.op = .call { callee := .value fo, args, argTypes := ats } := by rw [ho]
 have hdst : o.dst = dst := by rw [ho]
 have hw : Region.wanted o (yielded ops a.tmps) = true := by simp [Region.wanted, hg]
 rw [if_pos hw]
 obtain ⟨fn, hf, h1, h2⟩ := so.enter
 obtain ⟨vs, hl, hx, hrun⟩ := call_run rel hop hu hc hf h1 h2
 obtain ⟨hal, hav⟩ := allOpdL_ok rel _ _ _ ha rfl
 have hvs : vs = [] := List.length_eq_zero_iff.1 (by simpa using hl)
 subst hvs
 have hlt : ri < r.length := (List.getElem?_eq_some_iff.1 hr).1
 unfold Oper.wp
 rw [hrun]
 have fin : ∀ (g' : Gh) (w' : World), Rel E n g' ⟨t, b, r.set ri (some ⟨al, ver, k, e, (srt ys).map fD⟩), m⟩ a w' → next (a.put o.dst (.tuple #[])) w' := fun g' w' rel' => by
  rw [hdst]
  have hp := rel'.put_same dst (u := .junk) (v := .tuple #[]) (.junk _)
  cases dst <;> exact hn _ _ _ w' h hp
 match hq : args.toList.map a.eval with
 | [x] =>
  rw [hq] at hav
  have hx1 := hav 0 _ x rfl rfl
  cases hx1 with | one _ _ hx1 => cases hx1 with | row _ _ _ _ _ p1 p2 p3 =>
  obtain ⟨_, p3⟩ := p3 _ _ _ _ (rows_get (s := ⟨t, b, r, m⟩) hr)
  obtain ⟨_, p3⟩ := p3 rfl
  have hrow := rel.heap.row ri _ hr
  show Calls P f _ w _
  cases al with
  | false =>
   rw [if_neg (by simp)] at hrow p3
   have p4 : x = .slice none 0 0 := p3
   clear p3
   subst p4
   have hys : ys = [] := by simpa using hrow
   subst hys
   refine (so.none none 0 w).mono ?_
   rintro _ w' ⟨rfl, rfl⟩
   have hs0 : srt [] = [] := List.length_eq_zero_iff.1 (so.len [])
   refine fin gh _ ?_
   rw [hs0]
   have : r.set ri (some ⟨false, ver, k, e, ([] : List α).map fD⟩) = r := by
    apply List.ext_getElem?
    intro q
    rw [List.getElem?_set]
    split
    ·skip
     rename_i hq; subst hq; first | rw [hr] | rw [if_pos hlt, hr]
    ·skip
     rfl
   rw [this]; exact rel
  | true =>
   rw [if_pos rfl] at hrow p3
   obtain ⟨vs, tt, q1, ⟨q2, q3, q4, q5⟩, q6, q7, _, q8⟩ := hrow
   simp only at q2 q3 q4 q5 q6 q7 q8
   rw [q4] at p3 q8 q2
   simp only [Nat.zero_add, Nat.zero_mul, Nat.sub_zero, List.length_map] at p3 q2 q6 q8
   subst p3
   by_cases hys : ys = []
   ·skip
    subst hys
    refine (so.none _ _ w).mono ?_
    rintro _ w' ⟨rfl, rfl⟩
    have hs0 : srt [] = [] := List.length_eq_zero_iff.1 (so.len [])
    refine fin gh _ ?_
    rw [hs0]
    have : r.set ri (some ⟨true, ver, k, e, ([] : List α).map fD⟩) = r := by
     apply List.ext_getElem?
     intro q
     rw [List.getElem?_set]
     split
     ·skip
      rename_i hq; subst hq; first | rw [hr] | rw [if_pos hlt, hr]
     ·skip
      rfl
    rw [this]; exact rel
   ·skip
    have hN : J.N ≤ gh.at_ (.r ri) := by
     rcases rel.own (.r ri) ⟨_, hr, rfl⟩ with hh | hh
     ·skip
      exact E.hN _ hh
     ·skip
      exact Nat.le_trans (J.lt _ E.hI) hh
    have hle : ys.length * k ≤ vs.size := by rw [q2]; exact Nat.mul_le_mul_right _ q6
    have hjk : ∀ (x : α) (j : Nat) (v : Value), (enc x)[j]? = some v → ∃ d, (fD x)[j]? = some d ∧ valD d = some v := fun x j v hj => by
     have h1 := congrArg (fun l => l[j]?) (hv x)
     simp only [List.getElem?_map, hj, Option.map_some] at h1
     cases hd : (fD x)[j]? with
     | none => rw [hd] at h1; cases h1
     | some d => rw [hd] at h1; exact ⟨d, rfl, by simpa using h1⟩
    have hkj : ∀ (x : α) (j : Nat) (d : D), (fD x)[j]? = some d → ∃ v, (enc x)[j]? = some v ∧ valD d = some v := fun x j d hj => by
     have h1 := congrArg (fun l => l[j]?) (hv x)
     simp only [List.getElem?_map, hj, Option.map_some] at h1
     cases hd : (enc x)[j]? with
     | none => rw [hd] at h1; cases h1
     | some v => rw [hd] at h1; exact ⟨v, rfl, by simpa using h1⟩
    refine (so.run ys (gh.at_ (.r ri)) (gh.cap ri) vs tt w rel.inv hN q1 (fun i j x v hi hj => ?_) hle h63 hys).mono ?_
    ·skip
     obtain ⟨d, hd, hvd⟩ := hjk x j v hj
     have hil : i < ys.length := (List.getElem?_eq_some_iff.1 hi).1
     have hjl : j < k := by rw [← hk x]; exact (List.getElem?_eq_some_iff.1 hd).1
     have hb : i * k + j < vs.size := by
      have := Nat.mul_le_mul_right k (show i + 1 ≤ ys.length from hil)
      rw [Nat.add_mul, Nat.one_mul] at this
      omega
     have := q8 i j (fD x) d vs[i * k + j] (by simp [hi]) hd (Array.getElem?_eq_getElem hb)
     rw [Array.getElem?_eq_getElem hb, valD_of hvd this]
    ·skip
     rintro _ w' ⟨rfl, z1, z2, z3, z4, z5, vs', z6, z7, z8⟩
     refine fin gh w' ?_
     refine rel.setXs (o := ⟨true, ver, k, e, ys.map fD⟩) hr rfl (by simp [so.len]) (fun x hx => ?_) q1 z1 z2 z3 z4 z5 z6 z7 (fun i j x d v g1 g2 g3 => ?_)
     ·skip
      obtain ⟨y, _, rfl⟩ := List.mem_map.1 hx; exact hk y
     ·skip
      rw [List.getElem?_map] at g1
      cases hs : (srt ys)[i]? with
      | none => rw [hs] at g1; cases g1
      | some y =>
       rw [hs] at g1
       obtain rfl : fD y = x := by simpa using g1
       obtain ⟨v', hv', hvd⟩ := hkj y j d g2
       have := z8 i j y v' hs hv'
       simp only [q4, Nat.zero_add] at g3
       rw [this] at g3
       obtain rfl : v' = v := by simpa using g3
       exact valD_rd hvd
 | [] => have := congrArg List.length hq; rw [List.length_map, ← hal] at this; simp at this
 | _ :: _ :: _ => have := congrArg List.length hq; rw [List.length_map, ← hal] at this; simp at this
end
open Go.Sort in
theorem Sort1Ok.str {P : Program} {J : Inv} {ρ : Go.Shelf.Ren} (L : SlLaysM.n6 P ρ) {f : FuncId} (hf : ρ.f 6 = f) (enter : ∃ fn, P.funcs[f]? = some fn ∧ (fn.name == "runtime.NumGoroutine") = false ∧ fn.body.isNone = false) :
  Sort1Ok P J f 1 (fun s : List UInt8 => [encStr s]) sortS := by
 subst hf
 refine ⟨enter, fun xs => List.length_mergeSort _, fun xs blk cap vs tt w hJ hN hb hcells hle h63 hne => ?_, fun p cap w => AnyM.slices_Sort_string_none L p cap w⟩
 have hblk := (Array.getElem?_eq_some_iff.1 hb).1
 have hH : Holds encStr w blk 0 xs.toArray := fun j hj => by
  have hj' : j < xs.length := by simpa using hj
  have hc := hcells j 0 xs[j] (encStr xs[j]) (List.getElem?_eq_getElem hj') rfl
  have e : (xs.toArray)[j]! = xs[j] := by simp [hj']
  rw [e, Nat.zero_add]
  rw [Nat.mul_one, Nat.add_zero] at hc
  exact ⟨by simp [World.cell?, hb, hc], by simp [World.frozen?, hb]⟩
 refine Calls.mono (AnyM.slices_Sort_string L blk 0 cap xs w hH hblk h63) fun e w' h => ?_
 obtain ⟨he, n, os, hw⟩ := h
 subst hw
 have hsz : (putRow encStr (Go.Sort.ahead w n) blk 0 (xs.mergeSort fun x y => decide (x ≤ y)).toArray).heap.size = w.heap.size := by
  show (w.heap.modify blk _).size = _; simp
 have hget : ∀ q, q < w.heap.size → (grow (putRow encStr (Go.Sort.ahead w n) blk 0 (xs.mergeSort fun x y => decide (x ≤ y)).toArray) os).heap[q]? = (w.heap.modify blk (onCells (Go.Sort.putCells encStr 0 (xs.mergeSort fun x y => decide (x ≤ y)).toArray)))[q]? := fun q hq => by
  show ((w.heap.modify blk _) ++ os)[q]? = _
  rw [Array.getElem?_append_left (by simpa using hq)]
 refine ⟨he, rfl, rfl, rfl, ?_, fun q hq hne => ?_, Go.Sort.putCells encStr 0 (xs.mergeSort fun x y => decide (x ≤ y)).toArray vs, ?_, ?_, fun i j x v hi hj => ?_⟩
 ·skip
  show w.heap.size ≤ ((w.heap.modify blk _) ++ os).size
  simp
 ·skip
  rw [hget q hq, Array.getElem?_modify, if_neg (Ne.symm hne)]
 ·skip
  rw [hget blk hblk, Array.getElem?_modify, if_pos rfl, hb]; rfl
 ·skip
  simp [Go.Sort.putCells]
 ·skip
  have hil := (List.getElem?_eq_some_iff.1 hi).1
  have hl : (sortS xs).length = xs.length := List.length_mergeSort _
  have hj0 : j = 0 := by have := (List.getElem?_eq_some_iff.1 hj).1; simp at this; exact this
  subst hj0
  obtain rfl : encStr x = v := by simpa using hj
  have hlt : i < vs.size := by omega
  have hms : (xs.mergeSort fun x y => decide (x ≤ y)) = sortS xs := rfl
  rw [hms]
  unfold Go.Sort.putCells
  rw [Nat.mul_one, Nat.add_zero, Array.getElem?_mapIdx, Array.getElem?_eq_getElem hlt]
  simp only [Option.map_some, List.size_toArray, Nat.zero_add, Nat.sub_zero]
  rw [if_pos ⟨Nat.zero_le _, by omega⟩]
  have : (sortS xs).toArray[i]! = x := by simp [hi]
  rw [this]
end
section
open Go Go.RowKit
theorem le_trS (a b c : L8) (h1 : leB a b = true) (h2 : leB b c = true) : leB a c = true := by simp only [leB, decide_eq_true_eq] at *; exact List.le_trans h1 h2
theorem le_toS (a b : L8) : (leB a b || leB b a) = true := by simp only [leB, Bool.or_eq_true, decide_eq_true_eq]; exact List.le_total a b
theorem le_asS {a b : L8} (h1 : leB a b = true) (h2 : leB b a = true) : a = b := by simp only [leB, decide_eq_true_eq] at *; exact List.le_antisymm h1 h2
def cmG : L8 → List L8 → List L8
 | _, [] => []
 | p, y :: l => if y == p then cmG y l else y :: cmG y l
def cmS : List L8 → List L8
 | [] => []
 | x :: l => x :: cmG x l
theorem cmG_mem : ∀ {l : List L8} {p v : L8}, (v = p ∨ v ∈ cmG p l) ↔ (v = p ∨ v ∈ l)
  | [], p, v => by simp [cmG]
  | y :: l, p, v => by
    have ih := cmG_mem (l := l) (p := y) (v := v)
    unfold cmG
    by_cases h : y = p
    · subst h
      rw [if_pos (by simp)]
      simp only [List.mem_cons]
      rw [ih]
      constructor
      · rintro (h | h) <;> simp [h]
      · rintro (h | h | h) <;> simp [h]
    · rw [if_neg (by simpa using h)]
      simp only [List.mem_cons]
      rw [ih]
theorem cmS_mem {l : List L8} {v : L8} : v ∈ cmS l ↔ v ∈ l := by
 cases l with
 | nil => exact Iff.rfl
 | cons x l => have := cmG_mem (l := l) (p := x) (v := v); simpa [cmS] using this
theorem cmG_up : ∀ {l : List L8} {p : L8}, (∀ v ∈ l, leB p v = true) → l.Pairwise (fun x y => leB x y = true) → (cmG p l).Pairwise (fun x y => leB x y = true ∧ x ≠ y) ∧ ∀ v ∈ cmG p l, leB p v = true ∧ p ≠ v
  | [], p, _, _ => ⟨.nil, fun v hv => by cases hv⟩
  | y :: l, p, hp, hs => by
    obtain ⟨h1, h2⟩ := List.pairwise_cons.1 hs
    have ih := cmG_up (l := l) (p := y) h1 h2
    unfold cmG
    by_cases h : y = p
    · subst h
      rw [if_pos (by simp)]; exact ih
    · rw [if_neg (by simpa using h)]
      have hpy := hp y List.mem_cons_self
      refine ⟨List.pairwise_cons.2 ⟨ih.2, ih.1⟩, fun v hv => ?_⟩
      rcases List.mem_cons.1 hv with rfl | hv
      · exact ⟨hpy, fun e => h e.symm⟩
      · have h3 := ih.2 v hv
        refine ⟨le_trS _ _ _ hpy h3.1, fun e => ?_⟩
        subst e
        exact h (le_asS h3.1 hpy)
theorem cmS_up {l : List L8} (hs : l.Pairwise (fun x y => leB x y = true)) : (cmS l).Pairwise (fun x y => leB x y = true ∧ x ≠ y) := by
 cases l with
 | nil => exact .nil
 | cons x l =>
  obtain ⟨h1, h2⟩ := List.pairwise_cons.1 hs
  have := cmG_up h1 h2
  exact List.pairwise_cons.2 ⟨this.2, this.1⟩
theorem cm_sort {l k : List L8} (hk : k.Nodup) (hm : ∀ v, v ∈ k ↔ v ∈ l) : cmS (sortS l) = sortS k := by
 have h1 := List.pairwise_mergeSort le_trS le_toS l
 have h2 := cmS_up (l := sortS l) h1
 have h3 : (cmS (sortS l)).Nodup := List.nodup_iff_pairwise_ne.2 (h2.imp fun h => h.2)
 have h4 : (cmS (sortS l)).Perm k := (List.perm_ext_iff_of_nodup h3 hk).2 fun v => by rw [cmS_mem]; show v ∈ l.mergeSort leB ↔ _; rw [(List.mergeSort_perm l leB).mem_iff, hm]
 have h5 : (cmS (sortS l)).mergeSort leB = cmS (sortS l) := List.mergeSort_of_pairwise (h2.imp fun h => h.1)
 have h6 : (cmS (sortS l)).mergeSort leB = sortS k := mergeSort_of_perm h4
 rw [← h5, h6]
def useL : List (CT × Int) → List L8
 | [] => []
 | p :: L => (useK p.1.k p.1.n).toList ++ useL L
def usS (c : CT) (lv : Int) (s : List L8) : Bool × List L8 := (true, s ++ (useK c.k c.n).toList)
theorem runs_us : ∀ (L : List (CT × Int)) (s : List L8), runs usS L s = (true, s ++ useL L)
  | [], s => by simp [runs, useL]
  | (c, lv) :: L, s => by
    show runs usS L (s ++ (useK c.k c.n).toList) = _
    rw [runs_us L]
    simp [useL]
theorem visit_us (c : CT) (lv : Int) (s : List L8) : visit usS c lv s = (true, s ++ useL (c.pt lv)) := by rw [visit_runs, runs_us]
def usesP (c : CT) : List L8 := cmS (sortS (useL (c.pt 0)))
theorem set_ks (s : SetT) (q : L8) : (setL beqS s q true).map (·.1) = if q ∈ s.map (·.1) then s.map (·.1) else s.map (·.1) ++ [q] := by
  induction s with
  | nil => rfl
  | cons x l ih =>
    unfold setL
    by_cases h : q = x.1
    · have hb : beqS q x.1 = true := by simpa [beqS] using h
      rw [hb, cond_true, List.map_cons, List.map_cons, if_pos (by rw [h]; simp)]
      simp [h]
    · have hb : beqS q x.1 = false := by simpa [beqS] using h
      rw [hb, cond_false, List.map_cons, ih, List.map_cons]
      by_cases hm : q ∈ l.map (·.1)
      · rw [if_pos hm, if_pos (List.mem_cons_of_mem _ hm)]
      · rw [if_neg hm, if_neg (by simp only [List.mem_cons]; rintro (e | e); exact h e; exact hm e)]; rfl
theorem addS_ks (s : SetT) (o : Option L8) (hd : (s.map (·.1)).Nodup) : ((addS s o).map (·.1)).Nodup ∧ (∀ v, v ∈ (addS s o).map (·.1) ↔ v ∈ s.map (·.1) ∨ v ∈ o.toList) ∧ (addS s o).length ≤ s.length + 1 := by
 cases o with
 | none => exact ⟨hd, fun v => by simp [addS], by simp [addS]⟩
 | some q =>
  have e := set_ks s q
  show ((setL beqS s q true).map (·.1)).Nodup ∧ (∀ v, v ∈ (setL beqS s q true).map (·.1) ↔ _) ∧ (setL beqS s q true).length ≤ _
  have hl : (setL beqS s q true).length = ((setL beqS s q true).map (·.1)).length := by simp
  rw [hl, e]
  by_cases hm : q ∈ s.map (·.1)
  ·skip
   rw [if_pos hm]
   refine ⟨hd, fun v => ⟨.inl, fun h => h.elim id fun h => ?_⟩, by simp⟩
   have : v = q := by simpa using h
   rw [this]; exact hm
  ·skip
   rw [if_neg hm]
   refine ⟨?_, fun v => by simp, by simp⟩
   rw [List.nodup_append]
   refine ⟨hd, by simp, fun a ha b hb e => hm ?_⟩
   have : b = q := by simpa using hb
   rw [← this, ← e]; exact ha
theorem runs_nm : ∀ (L : List (CT × Int)) (s : SetT), (s.map (·.1)).Nodup → (runs nmS L s).1 = true ∧ ((runs nmS L s).2.map (·.1)).Nodup ∧ (∀ v, v ∈ (runs nmS L s).2.map (·.1) ↔ v ∈ s.map (·.1) ∨ v ∈ useL L) ∧ (runs nmS L s).2.length ≤ s.length + L.length
  | [], s, h => ⟨rfl, h, fun v => by simp [runs, useL], Nat.le_refl _⟩
  | (c, lv) :: L, s, h => by
    obtain ⟨h1, h2, h3⟩ := addS_ks s (useK c.k c.n) h
    obtain ⟨g1, g2, g3, g4⟩ := runs_nm L (addS s (useK c.k c.n)) h1
    have e : runs nmS ((c, lv) :: L) s = runs nmS L (addS s (useK c.k c.n)) := rfl
    rw [e]
    refine ⟨g1, g2, fun v => ?_, by simp only [List.length_cons]; omega⟩
    rw [g3, h2]
    show _ ↔ _ ∨ v ∈ (useK c.k c.n).toList ++ useL L
    rw [List.mem_append, or_assoc]
theorem useK_len {x : Int} {n v : L8} (h : v ∈ (useK x n).toList) : v.length ≤ n.length + 8 := by
  unfold useK at h
  split at h
  · have : v = [102, 97, 99, 116, 32] ++ n := by simpa using h
    rw [this]; simp
  · split at h
    · have : v = [115, 101, 116, 116, 105, 110, 103, 32] ++ n := by simpa using h
      rw [this]; simp
    · simp at h
theorem pt_T : ∀ (n : Nat) (c : CT) (lv : Int), c.w ≤ n → CtSm c → ∀ p ∈ c.pt lv, p.1.n.length ≤ 2000000
  | 0, c, lv, h, _ => by have := c.pos; omega
  | n + 1, c, lv, h, hc => by
    have hl : ∀ (l : List CT) (m : Int), (∀ a ∈ l, a.w ≤ n ∧ CtSm a) → ∀ p ∈ CT.pts l m, p.1.n.length ≤ 2000000 := fun l => by
      induction l with
      | nil => exact fun m _ p hp => by cases hp
      | cons a l ih =>
        intro m ha p hp
        have hp : p ∈ a.pt m ++ CT.pts l m := hp
        rcases List.mem_append.1 hp with hp | hp
        · exact pt_T n a m (ha a (by simp)).1 (ha a (by simp)).2 p hp
        · exact ih m (fun b hb => ha b (by simp [hb])) p hp
    intro p hp
    rw [pt_eq] at hp
    rcases List.mem_cons.1 hp with rfl | hp
    · cases hc with | mk k n v l h1 h2 h4 h3 => exact h1
    · exact hl c.l _ (fun a ha => ⟨by have := CT.sz ha; omega, by cases hc with | mk k n v l h1 h2 h4 h3 => exact h3 a ha⟩) p hp
theorem useL_len {N : Nat} : ∀ {L : List (CT × Int)}, (∀ p ∈ L, p.1.n.length ≤ N) → ∀ v ∈ useL L, v.length ≤ N + 8
  | [], _ => fun v hv => by cases hv
  | p :: L, h => fun v hv => by
    have hv : v ∈ (useK p.1.k p.1.n).toList ++ useL L := hv
    rcases List.mem_append.1 hv with hv | hv
    · have := useK_len hv
      have := h p (by simp)
      omega
    · exact useL_len (fun q hq => h q (by simp [hq])) v hv
theorem useL_le : ∀ (L : List (CT × Int)), (useL L).length ≤ L.length
  | [] => Nat.le_refl _
  | p :: L => by
    have h1 := useL_le L
    have h2 : (useK p.1.k p.1.n).toList.length ≤ 1 := by cases useK p.1.k p.1.n <;> simp
    show ((useK p.1.k p.1.n).toList ++ useL L).length ≤ L.length + 1
    rw [List.length_append]; omega
theorem nm_facts (c : CT) : ((visit nmS c 0 []).2.map (·.1)).Nodup ∧ (∀ v, v ∈ (visit nmS c 0 []).2.map (·.1) ↔ v ∈ useL (c.pt 0)) ∧ (visit nmS c 0 []).2.length ≤ c.w := by
 rw [visit_runs]
 obtain ⟨g1, g2, g3, g4⟩ := runs_nm (c.pt 0) [] (by simp)
 rw [pt_len] at g4
 exact ⟨g2, fun v => by rw [g3]; simp, by simpa using g4⟩
theorem uses_eq (c : CT) : usesP c = sortS ((visit nmS c 0 []).2.map (·.1)) := by
 obtain ⟨h1, h2, _⟩ := nm_facts c
 exact cm_sort h1 h2
end
section
open Go
def compactG {α : Type} (eq : α → α → Bool) : α → List α → List α
 | _, [] => []
 | p, y :: l => if eq y p then compactG eq y l else y :: compactG eq y l
def compactF {α : Type} (eq : α → α → Bool) : List α → List α
 | [] => []
 | x :: l => x :: compactG eq x l
end
section
open Go
open Go.RowKit
attribute [local irreducible] thenK blockK W
attribute [local irreducible] rangeB rangeR pathB nameB valueB visit visits checkP sortS useK useL
def strE (s : L8) : List D := [.str s]
def eqRZ (x y : L8) : Bool := x == y
def cqZ (l : List L8) (n : Nat) : List L8 := compactF eqRZ (l.take n)
def rowCZ (l : List L8) (n : Nat) : List L8 := cqZ l n ++ l.drop (cqZ l n).length
def padCZ (l : List L8) : List L8 := compactF eqRZ l ++ List.replicate (l.length - (compactF eqRZ l).length) ([] : L8)
theorem compactG_lenZ {α : Type} {eq : α → α → Bool} : ∀ {l : List α} {p : α}, (compactG eq p l).length ≤ l.length
  | [], _ => Nat.le_refl _
  | y :: l, p => by
    unfold compactG
    split
    · have := compactG_lenZ (eq := eq) (l := l) (p := y); simp; omega
    · have := compactG_lenZ (eq := eq) (l := l) (p := y); simp; omega
theorem compactF_lenZ {α : Type} {eq : α → α → Bool} {l : List α} : (compactF eq l).length ≤ l.length := by
 cases l with
 | nil => exact Nat.le_refl _
 | cons x l => have := compactG_lenZ (eq := eq) (l := l) (p := x); simp [compactF]; omega
theorem compactG_snocZ {α : Type} {eq : α → α → Bool} {y : α} : ∀ {l : List α} {p : α}, compactG eq p (l ++ [y]) = if eq y (l.getLastD p) then compactG eq p l else compactG eq p l ++ [y]
  | [], p => by simp [compactG]
  | z :: l, p => by
    have ih := compactG_snocZ (eq := eq) (y := y) (l := l) (p := z)
    have e : (z :: l).getLastD p = l.getLastD z := by cases l <;> rfl
    rw [e, List.cons_append]
    unfold compactG
    split
    · exact ih
    · rw [ih]; split <;> rfl
theorem cq_sZ {l : List L8} {n : Nat} (h0 : 1 ≤ n) (h : n < l.length) : cqZ l (n + 1) = if eqRZ (l.getD n ([] : L8)) (l.getD (n - 1) ([] : L8)) then cqZ l n else cqZ l n ++ [l.getD n ([] : L8)] := by
 unfold cqZ
 rw [take_getD (d := ([] : L8)) h]
 cases l with
 | nil => simp at h
 | cons x l =>
  obtain ⟨k, rfl⟩ : ∃ k, n = k + 1 := ⟨n - 1, by omega⟩
  have e : (x :: l).getD (k + 1 - 1) ([] : L8) = (l.take k).getLastD x := by
   rw [Nat.add_sub_cancel]
   cases k with
   | zero => simp
   | succ k =>
    have hk : k < l.length := by simp at h; omega
    rw [take_getD (d := ([] : L8)) hk]
    simp
  rw [e, List.take_succ_cons, List.cons_append]
  show x :: compactG eqRZ x _ = if _ then x :: compactG eqRZ x _ else x :: compactG eqRZ x _ ++ [_]
  rw [compactG_snocZ]
  split <;> rfl
theorem cq_tZ {l : List L8} {n : Nat} (h0 : 1 ≤ n) (h : n < l.length) (c : eqRZ (l.getD n ([] : L8)) (l.getD (n - 1) ([] : L8)) = true) : cqZ l (n + 1) = cqZ l n := by rw [cq_sZ h0 h, if_pos c]
theorem cq_fZ {l : List L8} {n : Nat} (h0 : 1 ≤ n) (h : n < l.length) (c : eqRZ (l.getD n ([] : L8)) (l.getD (n - 1) ([] : L8)) = false) : cqZ l (n + 1) = cqZ l n ++ [l.getD n ([] : L8)] := by rw [cq_sZ h0 h, if_neg (by rw [c]; simp)]
theorem cq_1Z (l : List L8) : cqZ l 1 = l.take 1 := by cases l <;> rfl
theorem cq_leZ (l : List L8) (n : Nat) : (cqZ l n).length ≤ n := by
 have := compactF_lenZ (eq := eqRZ) (l := l.take n)
 simp at this
 unfold cqZ; omega
theorem cq_allZ {l : List L8} {n : Nat} (h : l.length ≤ n) : cqZ l n = compactF eqRZ l := by unfold cqZ; rw [List.take_of_length_le h]
theorem rowC_lenZ {l : List L8} {n : Nat} (h : n ≤ l.length) : (rowCZ l n).length = l.length := by
 have := cq_leZ l n
 unfold rowCZ; simp; omega
theorem rowC_getZ {l : List L8} {n p : Nat} (h : (cqZ l n).length ≤ p) : (rowCZ l n).getD p ([] : L8) = l.getD p ([] : L8) := by
 unfold rowCZ
 rw [List.getD_eq_getElem?_getD, List.getElem?_append_right h, List.getElem?_drop, show (cqZ l n).length + (p - (cqZ l n).length) = p by omega, List.getD_eq_getElem?_getD]
theorem mapD_getZ {l : List L8} {p : Nat} (h : p < l.length) : (l.map strE).getD p [] = strE (l.getD p ([] : L8)) := by
 rw [List.getD_eq_getElem?_getD, List.getElem?_map, List.getElem?_eq_getElem h, List.getD_eq_getElem?_getD, List.getElem?_eq_getElem h]; rfl
theorem row_at0Z {l : List L8} {i : Nat} (h : i < l.length) : (l.map strE).getD (0 + ((i : Int)).toNat) [] = strE (l.getD i ([] : L8)) := by
 rw [Nat.zero_add, Int.toNat_natCast]; exact mapD_getZ h
theorem row_at2Z {l : List L8} {k j n : Nat} (hn : n ≤ l.length) (hk : k + j < l.length) (hc : (cqZ l n).length ≤ k + j) : ((rowCZ l n).map strE).getD (k + ((j : Int)).toNat) [] = strE (l.getD (k + j) ([] : L8)) := by
 rw [Int.toNat_natCast, mapD_getZ (by rw [rowC_lenZ hn]; exact hk), rowC_getZ hc]
theorem row_at3Z {l : List L8} {k j n : Nat} (hn : n ≤ l.length) (h1 : 1 ≤ j) (hk : k + j < l.length) (hc : (cqZ l n).length < k + j) : ((rowCZ l n).map strE).getD (k + (((j - 1 : Nat) : Int)).toNat) [] = strE (l.getD (k + j - 1) ([] : L8)) := by
 rw [row_at2Z hn (by omega) (by omega), show k + (j - 1) = k + j - 1 by omega]
theorem ix_okZ {i n : Nat} (h : i < n) : (decide (0 ≤ (i : Int)) && decide ((i : Int) < (n : Int))) = true := by simp; omega
theorem rowC_firstZ {l : List L8} {k : Nat} (hk : k < l.length) (h0 : 1 ≤ k) (hq : cqZ l k = l.take k) (c : eqRZ (l.getD k ([] : L8)) (l.getD (k - 1) ([] : L8)) = true) : rowCZ l (k + 1) = l ∧ (cqZ l (k + 1)).length = k := by
 have e : cqZ l (k + 1) = l.take k := by rw [cq_tZ h0 hk c, hq]
 have e2 : (l.take k).length = k := by simp; omega
 unfold rowCZ
 rw [e, e2]
 exact ⟨List.take_append_drop _ _, rfl⟩
theorem rowC_tZ {l : List L8} {n : Nat} (h0 : 1 ≤ n) (h : n < l.length) (c : eqRZ (l.getD n ([] : L8)) (l.getD (n - 1) ([] : L8)) = true) : rowCZ l (n + 1) = rowCZ l n := by unfold rowCZ; rw [cq_tZ h0 h c]
theorem rowC_fZ {l : List L8} {n : Nat} (h0 : 1 ≤ n) (h : n < l.length) (hl : (cqZ l n).length < l.length) (c : eqRZ (l.getD n ([] : L8)) (l.getD (n - 1) ([] : L8)) = false) : (rowCZ l n).set (cqZ l n).length (l.getD n ([] : L8)) = rowCZ l (n + 1) := by
 unfold rowCZ
 rw [cq_fZ h0 h c, List.set_append_right _ _ (Nat.le_refl _), Nat.sub_self, List.append_assoc]
 congr 1
 rw [List.drop_eq_getElem_cons hl, List.set_cons_zero]
 simp
theorem row_setZ {l : List L8} {n : Nat} (h0 : 1 ≤ n) (h : n < l.length) (hl : (cqZ l n).length < l.length) (c : eqRZ (l.getD n ([] : L8)) (l.getD (n - 1) ([] : L8)) = false) :
  ((rowCZ l n).map strE).set (0 + (((cqZ l n).length : Nat) : Int).toNat) (putD (((rowCZ l n).map strE).getD (0 + (((cqZ l n).length : Nat) : Int).toNat) []) 0 (strE (l.getD n ([] : L8)))) = (rowCZ l (n + 1)).map strE := by
 rw [Nat.zero_add, Int.toNat_natCast, mapD_getZ (by rw [rowC_lenZ (by omega)]; exact hl)]
 have e : putD (strE ((rowCZ l n).getD (cqZ l n).length ([] : L8))) 0 (strE (l.getD n ([] : L8))) = strE (l.getD n ([] : L8)) := rfl
 rw [e, ← rowC_fZ h0 h hl c, List.map_set]
theorem clear_rowZ {l : List L8} : ((compactF eqRZ l ++ l.drop (compactF eqRZ l).length).map strE).take (compactF eqRZ l).length ++ List.replicate (l.length - (compactF eqRZ l).length) (strE ([] : L8))
  ++ ((compactF eqRZ l ++ l.drop (compactF eqRZ l).length).map strE).drop ((compactF eqRZ l).length + (l.length - (compactF eqRZ l).length)) = (padCZ l).map strE := by
 have h := compactF_lenZ (eq := eqRZ) (l := l)
 unfold padCZ
 rw [List.map_append, List.map_append, List.map_replicate, List.take_left' (by simp), List.drop_eq_nil_of_le (by simp <;> omega), List.append_nil]
theorem pad_sameZ {l : List L8} (h : compactF eqRZ l = l) : padCZ l = l := by unfold padCZ; rw [h, Nat.sub_self]; simp
theorem compact_smallZ {l : List L8} (h : l.length < 2) : compactF eqRZ l = l := by
 match l, h with
 | [], _ => rfl
 | [x], _ => rfl
 | x :: y :: l, h => simp at h; omega
theorem add_1Z {n : Nat} (h : n ≤ 1000000) : V.one (.d (.int .i64 (IntKind.i64.wrap ((n : Int) + 1)))) = V.one (.d (.int .i64 ((n + 1 : Nat) : Int))) := by
 rw [wrap_i64 (by omega) (by omega)]; rfl
theorem cmG_eq : ∀ (l : List L8) (p : L8), compactG eqRZ p l = cmG p l
  | [], p => rfl
  | y :: l, p => by
    unfold compactG cmG
    rw [cmG_eq l y]; rfl
theorem cmS_eq : ∀ l : List L8, compactF eqRZ l = cmS l
 | [] => rfl
 | x :: l => congrArg (x :: ·) (cmG_eq l x)
theorem padZ_take (l : List L8) : ((padCZ l).map strE).take (compactF eqRZ l).length = (cmS l).map strE := by
 unfold padCZ
 rw [List.map_append, List.take_left' (by simp), cmS_eq]
theorem snocE (s : List L8) (q : L8) : s.map strE ++ [[D.str q]] = (s ++ [q]).map strE := by simp [strE]
theorem pc_CompactS (l : List L8) (al : Bool) (hl : l.length ≤ 1000000) :
  HCall Tryz.prog J 58 ([.one (.row 0 0 0 l.length)]) ([]) ([some ⟨al, 0, 1, 9, (l).map strE⟩]) ([]) (isH (.one (.row 0 0 0 (compactF eqRZ l).length)) ([]) ([some ⟨al, 0, 1, 9, (padCZ l).map strE⟩]) ([])) := by
 refine HCall.ofD tOk ⟨0, 1, 0⟩ (fn := Tryz.f58) Tryz.func58 (by kernel_rfl) rfl (Nat.le_of_ble_eq_true rfl) (fun E => ?_)
 iterate 9 first|refine Yp rfl ?_|apply Y1|apply Yn|apply Ys
 refine W.cond rfl (fun c1=>?_) fun c1=>?_
 ·skip
  have hs : compactF eqRZ l = l := compact_smallZ (by simp at c1; omega)
  iterate 6 first|refine Yp rfl ?_|apply Yu|apply Yt|apply Y1|apply Yn
  exact ⟨_, rfl, rfl, (by rw [hs]; exact LeG.refl _), rfl, (by rw [pad_sameZ hs]; rfl), rfl⟩
 apply Yk
 apply Yn
 apply Ys
 apply Y1
 refine Yp rfl ?_
 apply Yn
 apply Yb
 refine W.loop (fun k st => ∃ a : Nat, 1 ≤ a ∧ a ≤ l.length ∧ cqZ l a = l.take a ∧ k = l.length - a ∧ ∃ t b2 r2 m2, st = ⟨t, [] ++ b2, [some ⟨al, 0, 1, 9, (l).map strE⟩] ++ r2, [] ++ m2⟩ ∧ holdsL t [(0, .one (.row 0 0 0 l.length)), (3, .one (.d (.int .i64 (a : Int))))]) (l.length - 1) ⟨1, Nat.le_refl _, (by simp at c1; omega), cq_1Z l, rfl, _, _, _, _, rfl, rfl, rfl, trivial⟩ ?_
 rintro k0 _ ⟨a, f0_0, f0_1, f0_2, rfl, t0, bb0, rr0, mm0, rfl, hh0⟩
 refine W.keepR _ _ _ _ _ _ _ hh0 rfl ?_
 apply Ys
 apply Y1
 iterate 4 refine Yp rfl ?_
 apply Yn
 refine W.cond rfl (fun c2=>?_) fun c2=>?_
 ·skip
  have hk : a < l.length := by simpa using c2
  iterate 5 first|apply Yb|apply Yk|apply Ys|apply Yn
  refine W.regionD mixed (by kernel_rfl) ?_
  iterate 2 refine Ym rfl rfl ?_
  refine D.pure tOk zOk rfl rfl (ix_okZ hk) rfl ?_
  refine D.rload tOk rfl rfl rfl (row_at0Z hk) rfl rfl ?_
  iterate 2 refine Ym rfl rfl ?_
  refine D.pureE tOk zOk rfl rfl rfl (dec_i64 (by simp; omega) (by omega)) rfl ?_
  refine D.pure tOk zOk rfl rfl (ix_okZ (by omega)) rfl ?_
  refine D.rload tOk rfl rfl rfl (row_at0Z (by omega)) rfl rfl ?_
  refine Ym rfl rfl ?_
  apply Yn
  refine W.cond rfl (fun c3=>?_) fun c3=>?_
  ·skip
   have c3 : eqRZ (l.getD a []) (l.getD (a - 1) []) = true := c3
   have hC := rowC_firstZ hk f0_0 f0_2 c3
   apply Y1
   iterate 2 refine Yp rfl ?_
   refine S.sliceRow tOk a l.length rfl rfl rfl rfl rfl rfl rfl rfl rfl rfl ⟨by omega, Nat.le_refl _, hk⟩ (Nat.zero_add a) rfl ?_
   iterate 6 first|refine Yp rfl ?_|apply Y1|apply Yn|apply Ys
   rw [show l.map strE = (rowCZ l (a + 1)).map strE from by rw [hC.1]]
   apply Yb
   refine W.loop (fun k st => ∃ j : Nat, 1 ≤ j ∧ a + j ≤ l.length ∧ (cqZ l (a + j)).length < a + j ∧ k = l.length - (a + j) ∧ ∃ t b2 r2 m2, st = ⟨t, [] ++ b2, [some ⟨al, 0, 1, 9, (rowCZ l (a + j)).map strE⟩] ++ r2, [] ++ m2⟩ ∧ holdsL t [(0, .one (.row 0 0 0 l.length)), (3, .one (.d (.int .i64 ((cqZ l (a + j)).length : Int)))), (4, .one (.row 0 0 a (l.length - a))), (5, .one (.d (.int .i64 (j : Int))))]) (l.length - (a + 1)) ⟨1, Nat.le_refl _, hk, (by rw [hC.2]; omega), rfl, _, _, _, _, rfl, rfl, (by rw [hC.2]; rfl), rfl, rfl, trivial⟩ ?_
   rintro k2 _ ⟨j, f2_0, f2_1, f2_2, rfl, t2, bb2, rr2, mm2, rfl, hh2⟩
   refine W.keepR _ _ _ _ _ _ _ hh2 rfl ?_
   iterate 7 first|refine Yp rfl ?_|apply Y1|apply Yn|apply Ys
   refine W.cond rfl (fun c4=>?_) fun c4=>?_
   ·skip
    have hj : a + j < l.length := by simp at c4; omega
    iterate 5 first|apply Yb|apply Yk|apply Ys|apply Yn
    refine W.regionD mixed (by kernel_rfl) ?_
    iterate 2 refine Ym rfl rfl ?_
    refine D.pure tOk zOk rfl rfl (ix_okZ (by omega)) rfl ?_
    refine D.rload tOk rfl rfl rfl (row_at2Z (by omega) hj (by omega)) rfl rfl ?_
    iterate 2 refine Ym rfl rfl ?_
    refine D.pureE tOk zOk rfl rfl rfl (dec_i64 (by simp; omega) (by omega)) rfl ?_
    refine D.pure tOk zOk rfl rfl (ix_okZ (by omega)) rfl ?_
    refine D.rload tOk rfl rfl rfl (row_at3Z (by omega) f2_0 hj f2_2) rfl rfl ?_
    refine Ym rfl rfl ?_
    apply Yn
    refine W.cond rfl (fun c5=>?_) fun c5=>?_
    ·skip
     have c5 : eqRZ (l.getD (a + j) []) (l.getD (a + j - 1) []) = false := by unfold eqRZ; simpa using c5
     apply Y1
     iterate 4 refine Yp rfl ?_
     refine YP rfl (ix_okZ (by omega)) rfl ?_
     refine S.rload tOk rfl rfl rfl (row_at2Z (by omega) hj (by omega)) rfl rfl ?_
     refine YP rfl (ix_okZ (by omega)) rfl ?_
     refine S.rstore tOk rfl rfl rfl rfl rfl rfl rfl (row_setZ (by omega) hj (by omega) c5) rfl ?_
     iterate 9 first|refine Yp rfl ?_|apply Yw|apply Y4
     first | rw [show rowCZ l (a + j) = rowCZ l (a + (j + 1)) from by rw [← Nat.add_assoc, rowC_tZ (by omega) hj c5]] | rw [show rowCZ l (a + j + 1) = rowCZ l (a + (j + 1)) from rfl]
     refine loop_n (l.length - (a + (j + 1))) (by omega) ⟨j + 1, (by omega), (by omega), (by rw [← Nat.add_assoc, cq_fZ (by omega) hj c5]; simp; omega), rfl, _, _, _, _, rfl, rfl, (by rw [← Nat.add_assoc, cq_fZ (by omega) hj c5]; simp only [List.length_append, List.length_cons, List.length_nil, Nat.zero_add]; first | rfl | exact add_1Z (by omega)), rfl, inc_i64 (by omega), trivial⟩
    have c5 : eqRZ (l.getD (a + j) []) (l.getD (a + j - 1) []) = true := by unfold eqRZ; simpa using c5
    iterate 6 first|refine Yp rfl ?_|apply Yw|apply Yk|apply Y4
    first | rw [show rowCZ l (a + j) = rowCZ l (a + (j + 1)) from by rw [← Nat.add_assoc, rowC_tZ (by omega) hj c5]] | rw [show rowCZ l (a + j + 1) = rowCZ l (a + (j + 1)) from rfl]
    refine loop_n (l.length - (a + (j + 1))) (by omega) ⟨j + 1, (by omega), (by omega), (by rw [← Nat.add_assoc, cq_tZ (by omega) hj c5]; omega), rfl, _, _, _, _, rfl, rfl, (by rw [← Nat.add_assoc, cq_tZ (by omega) hj c5]; rfl), rfl, inc_i64 (by omega), trivial⟩
   have hj : a + j = l.length := by simp at c4; omega
   have e1 := cq_allZ (l := l) (n := a + j) (by omega)
   have e2 : rowCZ l (a + j) = compactF eqRZ l ++ l.drop (compactF eqRZ l).length := by unfold rowCZ; rw [e1]
   rw [e1] at f2_2
   rw [e2, e1]
   have hcl : (compactF eqRZ l).length < l.length := by omega
   iterate 7 first|refine Yp rfl ?_|apply Ye|apply Yx|apply Yq|apply Y3
   refine S.sliceRow tOk (compactF eqRZ l).length l.length rfl rfl rfl rfl rfl rfl rfl rfl rfl rfl ⟨by omega, Nat.le_refl _, hcl⟩ (Nat.zero_add _) rfl ?_
   refine S.clearRow tOk (strE []) rfl rfl rfl rfl rfl rfl rfl (List.all_eq_true.1 rfl) clear_rowZ rfl ?_
   apply Y3
   iterate 2 refine Yp rfl ?_
   refine S.sliceRow tOk 0 (compactF eqRZ l).length rfl rfl rfl rfl rfl rfl rfl rfl rfl rfl ⟨by omega, by omega, by omega⟩ rfl rfl ?_
   iterate 8 first|apply Yu|apply Yv|apply Yt|refine Yp rfl ?_|apply Yn
   exact ⟨_, rfl, rfl, LeG.refl _, rfl, rfl, rfl⟩
  have c3 : eqRZ (l.getD a []) (l.getD (a - 1) []) = false := c3
  apply Yk
  apply Yw
  apply Y4
  iterate 3 refine Yp rfl ?_
  refine loop_n (l.length - (a + 1)) (by omega) ⟨a + 1, (by omega), (by omega), (by rw [cq_fZ f0_0 hk c3, f0_2, take_getD (d := ([] : L8)) hk]), rfl, _, _, _, _, rfl, rfl, inc_i64 (by omega), trivial⟩
 have hs : compactF eqRZ l = l := by rw [← cq_allZ (show l.length ≤ a by simpa using c2), f0_2, List.take_of_length_le (by simpa using c2)]
 iterate 9 first|refine Yp rfl ?_|apply Ye|apply Yt|apply Yx|apply Yq|apply Y3|apply Yn
 exact ⟨_, rfl, rfl, (by rw [hs]; exact LeG.refl _), rfl, (by rw [pad_sameZ hs]; rfl), rfl⟩
theorem pc_us1 (x : Int) (n v : L8) (xs : List (List D)) (hn : n.length < 4294967000) (lv : Int) (s : List L8) (hs : s.length ≤ 1000000) :
  HCall Tryz.prog J 56 ([.agg [.d (.int .i64 x), .d (.str n), .d (.str v), .d (.vec 4 xs)], .one (.d (.int .i64 lv)), .one (.ptr 0 0)]) ([[.row 0 (s).length 0 ((s).map strE).length]]) ([some ⟨!(s).isEmpty, (s).length, 1, 9, (s).map strE⟩]) ([]) (isH (.tup []) ([[.row 0 (s ++ (useK x n).toList).length 0 ((s ++ (useK x n).toList).map strE).length]]) ([some ⟨!(s ++ (useK x n).toList).isEmpty, (s ++ (useK x n).toList).length, 1, 9, (s ++ (useK x n).toList).map strE⟩]) ([])) := by
 refine HCall.ofD tOk ⟨1, 1, 0⟩ (fn := Tryz.f56) Tryz.func56 (by kernel_rfl) rfl (Nat.le_of_ble_eq_true rfl) (fun E => ?_)
 iterate 12 first|refine Yp rfl ?_|apply Yb|refine S.box rfl rfl rfl rfl ?_|apply Y1|apply Y3|apply Yn|apply Ys
 refine W.cond rfl (fun c1=>?_) fun c1=>?_
 ·skip
  apply Yk
  apply Yn
  refine W.cond rfl (fun c2=>?_) fun c2=>?_
  ·skip
   apply Yr
   iterate 3 refine Yp rfl ?_
   refine YP rfl (cat_ok (by simp [-List.getD_eq_getElem?_getD]; omega)) rfl ?_
   refine S.slice tOk rfl rfl ?_
   refine S.append tOk rfl rfl rfl rfl rfl rfl rfl rfl rfl rfl rfl rfl (by show _ + 1 ≤ _; rw [List.length_map]; omega) rfl (snocE _ _) rfl ?_
   refine S.store tOk rfl rfl rfl rfl rfl rfl rfl rfl ?_
   apply Yw
   exact ⟨_, rfl, rfl, LeG.refl _, (by rw [use_2 c1]; simp), (by rw [use_2 c1]; simp; first | done | exact ⟨by cases s <;> rfl, rfl⟩), rfl⟩
  exact absurd (c1.symm.trans c2) (by decide)
 apply Yr
 iterate 2 refine Yp rfl ?_
 apply Yn
 refine W.cond rfl (fun c3=>?_) fun c3=>?_
 ·skip
  apply Yr
  iterate 3 refine Yp rfl ?_
  refine YP rfl (cat_ok (by simp [-List.getD_eq_getElem?_getD]; omega)) rfl ?_
  refine S.slice tOk rfl rfl ?_
  refine S.append tOk rfl rfl rfl rfl rfl rfl rfl rfl rfl rfl rfl rfl (by show _ + 1 ≤ _; rw [List.length_map]; omega) rfl (snocE _ _) rfl ?_
  refine S.store tOk rfl rfl rfl rfl rfl rfl rfl rfl ?_
  apply Yw
  exact ⟨_, rfl, rfl, LeG.refl _, (by rw [use_5 c3]; simp), (by rw [use_5 c3]; simp; first | done | exact ⟨by cases s <;> rfl, rfl⟩), rfl⟩
 apply Ys
 apply Y1
 iterate 2 refine Yp rfl ?_
 apply Yn
 refine W.cond rfl (fun c4=>?_) fun c4=>?_
 ·skip
  apply Yk
  apply Yn
  refine W.cond rfl (fun c5=>?_) fun c5=>?_
  ·skip
   apply Yr
   iterate 3 refine Yp rfl ?_
   refine YP rfl (cat_ok (by simp [-List.getD_eq_getElem?_getD]; omega)) rfl ?_
   refine S.slice tOk rfl rfl ?_
   refine S.append tOk rfl rfl rfl rfl rfl rfl rfl rfl rfl rfl rfl rfl (by show _ + 1 ≤ _; rw [List.length_map]; omega) rfl (snocE _ _) rfl ?_
   refine S.store tOk rfl rfl rfl rfl rfl rfl rfl rfl ?_
   apply Yw
   exact ⟨_, rfl, rfl, LeG.refl _, (by rw [use_3 c1 c3 c4]; simp), (by rw [use_3 c1 c3 c4]; simp; first | done | exact ⟨by cases s <;> rfl, rfl⟩), rfl⟩
  exact absurd (c4.symm.trans c5) (by decide)
 apply Yr
 iterate 2 refine Yp rfl ?_
 apply Yn
 refine W.cond rfl (fun c6=>?_) fun c6=>?_
 ·skip
  apply Yr
  iterate 3 refine Yp rfl ?_
  refine YP rfl (cat_ok (by simp [-List.getD_eq_getElem?_getD]; omega)) rfl ?_
  refine S.slice tOk rfl rfl ?_
  refine S.append tOk rfl rfl rfl rfl rfl rfl rfl rfl rfl rfl rfl rfl (by show _ + 1 ≤ _; rw [List.length_map]; omega) rfl (snocE _ _) rfl ?_
  refine S.store tOk rfl rfl rfl rfl rfl rfl rfl rfl ?_
  apply Yw
  exact ⟨_, rfl, rfl, LeG.refl _, (by rw [use_4 c1 c3 c6]; simp), (by rw [use_4 c1 c3 c6]; simp; first | done | exact ⟨by cases s <;> rfl, rfl⟩), rfl⟩
 apply Yk
 apply Yw
 exact ⟨_, rfl, rfl, LeG.refl _, (by rw [use_0 c1 c3 c4 c6]; simp), (by rw [use_0 c1 c3 c4 c6]; simp; first | done | exact ⟨by cases s <;> rfl, rfl⟩), rfl⟩
theorem us_t (c : CT) (lv : Int) (s : List L8) : (visit usS c lv s).1 = true := by rw [visit_us]
theorem us_room {c : CT} {lv : Int} {s s1 : List L8} {i : Nat} (hi : i < c.l.length) (h : visits (fun a => visit usS a (up1 lv)) (c.l.take i) (usS c lv s).2 = (true, s1)) : s1.length + (c.l.getD i CT.z).w ≤ s.length + c.w := by
 rw [visits_runs _ _ _ _ (Nat.le_refl _), runs_us] at h
 have h1 : (usS c lv s).2 ++ useL (CT.pts (c.l.take i) (up1 lv)) = s1 := (Prod.mk.inj h).2
 have h2 := useL_le (CT.pts (c.l.take i) (up1 lv))
 rw [pts_len _ _ _ (Nat.le_refl _)] at h2
 have h3 : (useK c.k c.n).toList.length ≤ 1 := by cases useK c.k c.n <;> simp
 have h4 : CT.ws c.l = CT.ws (c.l.take i) + ((c.l.getD i CT.z).w + CT.ws (c.l.drop (i + 1))) := by
  conv => lhs; rw [← List.take_append_drop i c.l, ws_app]
  have : c.l.drop i = c.l.getD i CT.z :: c.l.drop (i + 1) := by
   rw [List.drop_eq_getElem_cons hi, List.getD_eq_getElem?_getD, List.getElem?_eq_getElem hi]; rfl
  rw [this]; rfl
 have h5 : c.w = CT.ws c.l + 1 := by cases c; rfl
 rw [← h1]
 show (s ++ (useK c.k c.n).toList ++ _).length + _ ≤ _
 simp only [List.length_append]
 omega
theorem pc_partsUs (c : CT) (lv : Int) (s : List L8) (hc : CtBig c) (hs : s.length + c.w ≤ 1000000) (ih : ∀ a ∈ c.l, ∀ (lv : Int) (s : List L8), CtBig a → s.length + a.w ≤ 1000000 → HCall Tryz.prog J 30 [ctV a, .one (.d (.int .i64 lv)), .one (.clo 56 [.ptr 0 0])] [[.row 0 (s).length 0 ((s).map strE).length]] [some ⟨!(s).isEmpty, (s).length, 1, 9, (s).map strE⟩] [] (isH (.tup []) [[.row 0 ((visit usS a lv s).2).length 0 (((visit usS a lv s).2).map strE).length]] [some ⟨!((visit usS a lv s).2).isEmpty, ((visit usS a lv s).2).length, 1, 9, ((visit usS a lv s).2).map strE⟩] [])) :
  HCall Tryz.prog J 30 ([ctV c, .one (.d (.int .i64 lv)), .one (.clo 56 [.ptr 0 0])]) ([[.row 0 (s).length 0 ((s).map strE).length]]) ([some ⟨!(s).isEmpty, (s).length, 1, 9, (s).map strE⟩]) ([]) (isH (.tup []) ([[.row 0 ((visit usS c lv s).2).length 0 (((visit usS c lv s).2).map strE).length]]) ([some ⟨!((visit usS c lv s).2).isEmpty, ((visit usS c lv s).2).length, 1, 9, ((visit usS c lv s).2).map strE⟩]) ([])) := by
 have hbig := hc.ll
 have hf : (usS c lv s).1 = true := rfl
 have hpos := c.pos
 unfold ctV
 rw [ds_map]
 have hlen : ((c.l.map CT.d).length : Int) = (c.l.length : Int) := by rw [List.length_map]
 refine HCall.ofD tOk ⟨1, 1, 0⟩ (fn := Tryz.f30) Tryz.func30 (by kernel_rfl) rfl (Nat.le_of_ble_eq_true rfl) (fun E => ?_)
 apply Y1
 refine S.box rfl rfl rfl rfl ?_
 apply Y3
 iterate 3 refine Yp rfl ?_
 refine S.hcallD rfl rfl rfl rfl ((pc_us1 c.k c.n c.v _ hc.n lv s (by omega)).fd [0] [0] [] rfl) ?_
 apply Y3
 iterate 4 refine Yp rfl ?_
 apply Yn
 apply Yb
 refine W.loop (fun k st => ∃ i : Nat, ∃ s1 : List L8, i ≤ c.l.length ∧ visits (fun a => visit usS a (up1 lv)) (c.l.take i) (usS c lv s).2 = (true, s1) ∧ k = c.l.length - i ∧ ∃ t b2 r2 m2, st = ⟨t, [[.row 0 (s1).length 0 ((s1).map strE).length], [.d (.int .i64 c.k), .d (.str c.n), .d (.str c.v), .d (.vec 4 (c.l.map CT.d))]] ++ b2, [some ⟨!(s1).isEmpty, (s1).length, 1, 9, (s1).map strE⟩] ++ r2, [] ++ m2⟩ ∧ holdsL t [(1, .one (.d (.int .i64 lv))), (2, .one (.clo 56 [.ptr 0 0])), (13, .one (.d (.vec 4 (c.l.map CT.d)))), (14, .one (.d (.int .i64 ((c.l.map CT.d).length : Int)))), (15, .one (.d (.int .i64 (i : Int))))]) (c.l.length) ⟨0, _, Nat.zero_le _, visits_nil, rfl, _, _, _, _, rfl, rfl, rfl, rfl, rfl, rfl, trivial⟩ ?_
 rintro k0 _ ⟨i, s1, f0_0, f0_1, rfl, t0, bb0, rr0, mm0, rfl, hh0⟩
 refine W.keepR _ _ _ _ _ _ _ hh0 rfl ?_
 apply Y1
 refine Yp rfl ?_
 apply Yn
 apply Ys
 refine W.cond rfl (fun c1=>?_) fun c1=>?_
 ·skip
  have hi := row_lt c1
  apply Yk
  apply Yn
  apply Ys
  apply Yb
  apply Y1
  refine YE rfl (row_ok hi) (getD_map_ct hi) rfl ?_
  iterate 8 first|refine Yp rfl ?_|refine S.store tOk rfl rfl rfl rfl rfl rfl rfl rfl ?_|refine S.alloc tOk rfl rfl rfl rfl ?_|apply Y4
  refine S.hcallD rfl rfl rfl rfl ((ih (c.l.getD i CT.z) (mem_ct hi) (up1 lv) s1 (hc.l _ (mem_ct hi)) (by have := us_room hi f0_1; omega)).fd [0] [0] [] rfl) ?_
  apply Yw
  apply Y4
  iterate 2 refine Yp rfl ?_
  refine loop_n (c.l.length - (i + 1)) (by omega) ⟨i + 1, _, hi, visit_next hi f0_1 (us_t _ _ _), rfl, _, _, _, _, rfl, rfl, rfl, rfl, rfl, inc_i64 (by omega), trivial⟩
 have hi := row_ge c1
 have hv := visit_all hf hi f0_1
 apply Yq
 apply Ye
 apply Ye
 apply Yx
 exact ⟨_, rfl, rfl, LeG.refl _, (by rw [hv]; rfl), (by rw [hv]; rfl), rfl⟩
theorem pc_partsU : ∀ (n : Nat) (c : CT), c.w ≤ n → ∀ (lv : Int) (s : List L8), CtBig c → s.length + c.w ≤ 1000000 → HCall Tryz.prog J 30 [ctV c, .one (.d (.int .i64 lv)), .one (.clo 56 [.ptr 0 0])] [[.row 0 (s).length 0 ((s).map strE).length]] [some ⟨!(s).isEmpty, (s).length, 1, 9, (s).map strE⟩] [] (isH (.tup []) [[.row 0 ((visit usS c lv s).2).length 0 (((visit usS c lv s).2).map strE).length]] [some ⟨!((visit usS c lv s).2).isEmpty, ((visit usS c lv s).2).length, 1, 9, ((visit usS c lv s).2).map strE⟩] [])
 | 0, c, h => by have := c.pos; omega
 | n + 1, c, h => fun lv s hc hs => pc_partsUs c lv s hc hs (fun a ha => pc_partsU n a (by have := CT.sz ha; omega))
theorem sortStr : Sort1Ok Tryz.prog J 57 1 (fun s : L8 => [encStr s]) sortS := Sort1Ok.str Tryz.sort57 rfl ⟨Tryz.f57, Tryz.func57, by kernel_rfl, rfl⟩
theorem useL_w (c : CT) : (useL (c.pt 0)).length ≤ c.w := by have := useL_le (c.pt 0); rwa [pt_len] at this
theorem usesP_eq (c : CT) : D.vec 1 (((padCZ (sortS (useL (c.pt 0)))).map strE).take (compactF eqRZ (sortS (useL (c.pt 0)))).length) = strsD (usesP c) := by
 rw [padZ_take]; rfl
theorem sortS_len (l : List L8) : (sortS l).length = l.length := by unfold sortS; exact List.length_mergeSort _
theorem pc_outref2_Uses (c : CT) (hc : CtBig c) (hw : c.w ≤ 1000000) :
  PureCall Tryz.prog J 17 [ctV c] (.one (.d (strsD (usesP c)))) := by
 have hul := useL_w c
 have hsl := sortS_len (useL (c.pt 0))
 have hv := visit_us c 0 []
 rw [List.nil_append] at hv
 have pu := pc_partsU _ c (Nat.le_refl _) 0 [] hc (by simpa using hw)
 rw [hv] at pu
 have pcc := fun al => pc_CompactS (sortS (useL (c.pt 0))) al (by omega)
 rw [show (sortS (useL (c.pt 0))).length = ((useL (c.pt 0)).map strE).length from by rw [hsl, List.length_map]] at pcc
 refine PureCall.of_body tOk (fn := Tryz.f17) Tryz.func17 (by kernel_rfl) rfl (Nat.le_of_ble_eq_true rfl) (fun E => ?_)
 apply Y1
 refine S.box rfl rfl rfl rfl ?_
 refine Yp rfl ?_
 apply Y3
 refine S.alloc tOk rfl rfl rfl rfl ?_
 apply Yn
 apply Ys
 refine W.newRowB 1 0 1 9 rfl rfl rfl ?_
 apply Yr
 refine Yp rfl ?_
 refine S.makeFunc rfl rfl rfl ?_
 refine S.hcallD rfl rfl rfl rfl (pu.fd [1] [0] [] rfl) ?_
 apply Yn
 apply Ys
 refine W.keep [(3, .one (.ptr 1 0))] ⟨rfl, trivial⟩ ?_
 refine W.reVer (l := [(3, .one (.ptr 1 0))]) (b := [[.d (.int .i64 c.k), .d (.str c.n), .d (.str c.v), .d (.vec 4 (CT.ds c.l))], [.row 0 0 0 ((useL (c.pt 0)).map strE).length]]) 0 rfl rfl rfl rfl rfl ?_
 apply Yr
 refine Yp rfl ?_
 refine S.sortOwn (fD := strE) (useL (c.pt 0)) rfl rfl rfl sortStr rfl (fun _ => rfl) (fun _ => rfl) (by omega) rfl ?_
 apply Y3
 refine Yp rfl ?_
 refine S.hcallD rfl rfl rfl rfl ((pcc _).fd [] [0] [] rfl) ?_
 refine Yp rfl ?_
 apply Yn
 refine W.freezeQ (ri := 0) (q := ⟨_, _, _, _, _⟩) [2] rfl (by intro k hk; simp at hk; subst hk; rfl) rfl ?_
 apply Yt
 exact Yz rfl rfl rfl (congrArg (fun x => V.one (C.d x)) (usesP_eq c))
end
section
open Go
theorem dr_at {s r : L8} {p : Nat} {c : UInt8} (h : s.drop p = c :: r) : p < s.length ∧ s.getD p 0 = c ∧ s.drop (p + 1) = r := by
 have hl : p < s.length := by
  rcases Nat.lt_or_ge p s.length with h1 | h1
  ·skip
   exact h1
  ·skip
   rw [drop_end h1] at h; cases h
 rw [drop_at hl] at h
 obtain ⟨h1, h2⟩ := List.cons.inj h
 exact ⟨hl, h1, h2⟩
theorem dr_add {s b r : L8} {p : Nat} (h : s.drop p = b ++ r) : s.drop (p + b.length) = r := by
 rw [← List.drop_drop, h]; simp
def StopW (r : L8) : Prop := r = [] ∨ ∃ c q, r = c :: q ∧ wch c = false
theorem tw_stop {φ : UInt8 → Bool} {b r : L8} (hb : ∀ x ∈ b, φ x = true) (hr : r = [] ∨ ∃ c q, r = c :: q ∧ φ c = false) : (b ++ r).takeWhile φ = b := by
 rw [List.takeWhile_append_of_pos hb]
 rcases hr with rfl | ⟨c, q, rfl, hc⟩
 ·skip
  simp
 ·skip
  rw [List.takeWhile_cons, hc]; simp
theorem nx_to {s b r : L8} {p : Nat} {c : UInt8} (h : s.drop p = b ++ c :: r) (hb : ∀ x ∈ b, blk x = true) (hc : blk c = false) : nextT s p = tokAt s (p + b.length) ∧ s.drop (p + b.length) = c :: r := by
 refine ⟨?_, dr_add h⟩
 unfold nextT skipB
 rw [h, tw_stop hb (.inr ⟨c, r, rfl, hc⟩)]
inductive Lx (s : L8) : Nat → List Tok → Nat → Prop where
 | nil (p : Nat) : Lx s p [] p
 | cons (p p' : Nat) (T : List Tok) (h1 : ((nextT s p).k == 0 || (nextT s p).k == 4) = false) (h : Lx s (nextT s p).e T p') : Lx s p (nextT s p :: T) p'
theorem Lx.trans {s : L8} {p q r : Nat} {A B : List Tok} (h : Lx s p A q) (h2 : Lx s q B r) : Lx s p (A ++ B) r := by
 induction h with
 | nil p => exact h2
 | cons p p' T h1 h ih => exact .cons _ _ _ h1 (ih h2)
theorem Lx.one {s : L8} {p : Nat} {x : Tok} (h : nextT s p = x) (h1 : (x.k == 0 || x.k == 4) = false) : Lx s p [x] x.e := by
 subst h; exact .cons _ _ _ h1 (.nil _)
theorem lx_sign {s b r : L8} {p : Nat} {c : UInt8} (h : s.drop p = b ++ c :: r) (hb : ∀ x ∈ b, blk x = true) (hc : sgn c = true) : ∃ x p', Lx s p [x] p' ∧ s.drop p' = r ∧ x.k = 3 ∧ x.t = [c] := by
 have hbl : blk c = false := by
  unfold sgn at hc
  have h2 : c = 40 ∨ c = 41 ∨ c = 61 := by simpa [or_assoc] using hc
  rcases h2 with rfl | rfl | rfl <;> rfl
 obtain ⟨h1, h2⟩ := nx_to h hb hbl
 obtain ⟨h3, h4, h5⟩ := dr_at h2
 have e : nextT s p = ⟨3, p + b.length, [c], p + b.length + 1⟩ := by
  rw [h1]; unfold tokAt; rw [if_neg (by omega), h4, if_pos hc]
 exact ⟨_, _, Lx.one e rfl, h5, rfl, rfl⟩
theorem lx_word {s b w r : L8} {p : Nat} (h : s.drop p = b ++ (w ++ r)) (hb : ∀ x ∈ b, blk x = true) (hw : ∀ x ∈ w, wch x = true) (h0 : w ≠ []) (hr : StopW r) : ∃ x p', Lx s p [x] p' ∧ s.drop p' = r ∧ x.k = 1 ∧ x.t = w := by
 obtain ⟨c, u, rfl⟩ : ∃ c u, w = c :: u := List.exists_cons_of_ne_nil h0
 have hc := hw c (by simp)
 have hc2 : blk c = false ∧ (sgn c || c == 34) = false := by
  unfold wch at hc; simpa using hc
 obtain ⟨h1, h2⟩ := nx_to h hb hc2.1
 obtain ⟨h3, h4, h5⟩ := dr_at h2
 have h6 : s.drop (p + b.length) = (c :: u) ++ r := h2
 have hE : wordE s (p + b.length) = p + b.length + (c :: u).length := by
  unfold wordE; rw [h6, tw_stop hw hr]
 rw [Bool.or_eq_false_iff] at hc2
 have e : nextT s p = ⟨1, p + b.length, c :: u, p + b.length + (c :: u).length⟩ := by
  rw [h1]; unfold tokAt
  rw [if_neg (by omega), h4, if_neg (by rw [hc2.2.1]; simp), if_neg (by rw [hc2.2.2]; simp), hE, List.drop_take, h6]
  simp
 exact ⟨_, _, Lx.one e rfl, dr_add h6, rfl, rfl⟩
theorem quoB_app (v r : L8) : quoB v ++ r = 34 :: (escB v ++ 34 :: r) := by simp [quoB]
theorem lx_text {s b v r : L8} {p : Nat} (h : s.drop p = b ++ (quoB v ++ r)) (hb : ∀ x ∈ b, blk x = true) : ∃ x p', Lx s p [x] p' ∧ s.drop p' = r ∧ x.k = 2 ∧ x.t = v := by
 rw [quoB_app] at h
 obtain ⟨h1, h2⟩ := nx_to h hb rfl
 obtain ⟨h3, h4, h5⟩ := dr_at h2
 have hq : qAt s (p + b.length) = some (v, p + b.length + 1 + (escB v).length + 1) := by
  unfold qAt; rw [h5, quote_esc]; rfl
 have e : nextT s p = ⟨2, p + b.length, v, p + b.length + 1 + (escB v).length + 1⟩ := by
  rw [h1]; unfold tokAt
  rw [if_neg (by omega), h4, if_neg (by decide), if_pos (by decide), hq]; rfl
 have h6 : s.drop (p + b.length + 1) = (escB v ++ [34]) ++ r := by rw [h5]; simp
 have h7 := dr_add h6
 rw [List.length_append, List.length_singleton, ← Nat.add_assoc] at h7
 exact ⟨_, _, Lx.one e rfl, h7, rfl, rfl⟩
theorem lx_toks {s : L8} {p q : Nat} {T : List Tok} (h : Lx s p T q) : ∀ n, p ≤ s.length → s.length - p ≤ n → q ≤ s.length ∧ ∃ m, s.length - q ≤ m ∧ toksN n s p = T ++ toksN m s q := by
 induction h with
 | nil p => exact fun n hp hn => ⟨hp, n, hn, rfl⟩
 | cons p p' T h1 h ih =>
  intro n hp hn
  have hx := next_facts hp
  have h2 := hx.2.2.2.1 h1
  obtain ⟨m, rfl⟩ : ∃ m, n = m + 1 := ⟨n - 1, by omega⟩
  obtain ⟨h3, k, h4, h5⟩ := ih m hx.2.1 (by omega)
  refine ⟨h3, k, h4, ?_⟩
  conv => lhs; unfold toksN
  rw [if_neg (by rw [h1]; simp), h5]; rfl
theorem tk_1 {k : Int} {t : L8} {x y : Tok} {l : List Tok} (hk : x.k = k) (ht : t = [] ∨ x.t = t) : takeT k t ⟨x :: y :: l, -1⟩ = (x.t, ⟨y :: l, -1⟩) := by
  unfold takeT
  rw [if_neg (by show ¬ decide ((-1 : Int) ≥ 0) = true; decide), if_neg (by
    show ¬ ((x.k != k || (!(t == []) && !(x.t == t))) = true)
    rcases ht with rfl | rfl <;> simp [hk])]
  rfl
theorem is_1 {k : Int} {t : L8} {x : Tok} {l : List Tok} (h : (x.k == k && x.t == t) = true) : isT k t ⟨x :: l, -1⟩ = true := by
 show ((true && x.k == k) && x.t == t) = true
 rw [Bool.true_and]; exact h
theorem is_0 {k : Int} {t : L8} {x : Tok} {l : List Tok} (h : (x.k == k && x.t == t) = false) : isT k t ⟨x :: l, -1⟩ = false := by
 show ((true && x.k == k) && x.t == t) = false
 rw [Bool.true_and]; exact h
def FstT (T : List Tok) : Prop := ∃ x l, T = x :: l ∧ (x.k == 1 && x.t == wAnd) = false ∧ (x.k == 1 && x.t == wOr) = false ∧ (x.k == 3 && x.t == [41]) = false
theorem fst_w {x : Tok} {l : List Tok} {w : L8} (hk : x.k = 1) (ht : x.t = w) (h1 : (w == wAnd) = false) (h2 : (w == wOr) = false) : FstT (x :: l) := by
 refine ⟨x, l, rfl, ?_, ?_, ?_⟩
 ·skip
  rw [ht, h1, Bool.and_false]
 ·skip
  rw [ht, h2, Bool.and_false]
 ·skip
  rw [hk]; rfl
theorem fst_b {x : Tok} {l : List Tok} (hk : x.k = 3) (ht : x.t = [40]) : FstT (x :: l) := ⟨x, l, rfl, by rw [hk]; rfl, by rw [hk]; rfl, by rw [ht]; simp⟩
def Rt (n lv : Nat) (c : CT) : Prop := lv + n ≤ 1000 ∧ ∀ p ∈ c.pt (lv : Int), p.1.part = 0 ∧ p.2 + 1 ≤ ((lv + n : Nat) : Int)
theorem Rt.self {n lv : Nat} {c : CT} (h : Rt n lv c) : c.part = 0 ∧ ∃ m, n = m + 1 := by
 have := h.2 (c, (lv : Int)) (by rw [pt_eq]; simp)
 refine ⟨this.1, n - 1, ?_⟩
 have := this.2
 simp only at this
 omega
theorem Rt.sub {n lv : Nat} {c a : CT} (h : Rt (n + 1) lv c) (ha : a ∈ c.l) : Rt n (lv + 1) a := by
 refine ⟨by have := h.1; omega, fun p hp => ?_⟩
 have h1 := h.1
 have h2 := h.2 p (by rw [pt_eq, up1_of (by omega)]; exact List.mem_cons_of_mem _ (pts_sub ha p hp))
 refine ⟨h2.1, ?_⟩
 have := h2.2
 omega
section
variable {k : Int} {n v : L8} {l : List CT} (h : (CT.mk k n v l).part = 0)
include h
theorem sh_k : 1 ≤ k ∧ k ≤ 8 := by
 unfold CT.part partP at h
 show _
 have e : (CT.mk k n v l).k = k := rfl
 rw [e] at h
 by_cases h1 : (decide (k < 1) || decide (k > 8)) = true
 ·skip
  rw [if_pos h1] at h; exact absurd h (by decide)
 ·skip
  simp at h1; omega
theorem sh_form : (((!(decide (k ≥ 2) && decide (k ≤ 5)) && !(n == [])) || (!((decide (k ≥ 2) && decide (k ≤ 5)) && k != 4) && !(v == []))) || (!decide (k ≥ 6) && decide ((l.length : Int) > 0))) = false := by
 have hk := sh_k h
 unfold CT.part partP at h
 have e : (CT.mk k n v l).k = k := rfl
 have e1 : (CT.mk k n v l).n = n := rfl
 have e2 : (CT.mk k n v l).v = v := rfl
 have e3 : (CT.mk k n v l).l = l := rfl
 rw [e, e1, e2, e3, if_neg (by simp; omega)] at h
 rw [Bool.eq_false_iff]
 intro h2
 rw [h2, Bool.true_or, if_pos rfl] at h
 exact absurd h (by decide)
theorem sh_named (h2 : 2 ≤ k) (h5 : k ≤ 5) : l = [] ∧ (if (k == 3 || k == 4) then pathB n else nameB n) = true := by
  have hf := sh_form h
  have hk := sh_k h
  have hl : l = [] := by
    simp only [Bool.or_eq_false_iff] at hf
    have h6 := hf.2
    have e6 : decide (k ≥ 6) = false := by simp; omega
    rw [e6] at h6
    cases l with
    | nil => rfl
    | cons a l => simp at h6
  refine ⟨hl, ?_⟩
  unfold CT.part partP at h
  have e : (CT.mk k n v l).k = k := rfl
  have e1 : (CT.mk k n v l).n = n := rfl
  have e2 : (CT.mk k n v l).v = v := rfl
  have e3 : (CT.mk k n v l).l = l := rfl
  have e25 : (decide (k ≥ 2) && decide (k ≤ 5)) = true := by simp; omega
  have e6 : (k == 6) = false := by simp; omega
  rw [e, e1, e2, e3, if_neg (by simp; omega), hf, e6, Bool.false_and, Bool.or_false, if_neg (by simp), e25, if_neg (by simp)] at h
  by_cases h7 : (if (k == 3 || k == 4) then pathB n else nameB n) = true
  · exact h7
  · rw [if_pos (by simpa using h7)] at h
    exact absurd h (by decide)
theorem sh_bare (hk : k = 1 ∨ 6 ≤ k) : n = [] ∧ v = [] := by
 have hf := sh_form h
 have e25 : (decide (k ≥ 2) && decide (k ≤ 5)) = false := by simp; omega
 simp only [Bool.or_eq_false_iff] at hf
 rw [e25] at hf
 exact ⟨by simpa using hf.1.1, by simpa using hf.1.2⟩
theorem sh_k4 (hk : k = 4) : v = [] := by
 have hf := sh_form h
 subst hk
 simp only [Bool.or_eq_false_iff] at hf
 simpa using hf.1.2
theorem sh_k1 (hk : k = 1) : l = [] := by
 have hf := sh_form h
 subst hk
 simp only [Bool.or_eq_false_iff] at hf
 have := hf.2
 cases l with
 | nil => rfl
 | cons a l => simp at this
end
theorem wch_of {c : UInt8} (h : nameC (bI c) = true ∨ partC' (bI c) = true ∨ c = 47) : wch c = true := by
 have hne : ∀ k : UInt8, (k = 32 ∨ k = 9 ∨ k = 40 ∨ k = 41 ∨ k = 61 ∨ k = 34) → c ≠ k := by
  intro k hk e
  subst e
  rcases hk with rfl | rfl | rfl | rfl | rfl | rfl <;> exact absurd h (by decide)
 have n1 := hne 32 (by simp)
 have n2 := hne 9 (by simp)
 have n3 := hne 40 (by simp)
 have n4 := hne 41 (by simp)
 have n5 := hne 61 (by simp)
 have n6 := hne 34 (by simp)
 simp [wch, blk, sgn, n1, n2, n3, n4, n5, n6]
theorem name_w {n : L8} (h : nameB n = true) : (∀ x ∈ n, wch x = true) ∧ n ≠ [] := by
 unfold nameB eachB at h
 simp only [Bool.and_eq_true, List.all_eq_true] at h
 refine ⟨fun x hx => wch_of (.inl (h.1.1 x hx)), fun e => ?_⟩
 have := h.1.2.1
 rw [e] at this; simp at this
theorem path_w {n : L8} (h : pathB n = true) : (∀ x ∈ n, wch x = true) ∧ n ≠ [] := by
 refine ⟨fun x hx => ?_, fun e => by rw [e] at h; exact absurd h (by decide)⟩
 unfold pathB at h
 rw [Bool.and_eq_true, List.all_eq_true] at h
 rcases split_bytes (c := 47) n.length n (Nat.le_refl _) x hx with e | ⟨w, hw, ha⟩
 ·skip
  exact wch_of (.inr (.inr e))
 ·skip
  have hp := h.1 w hw
  unfold partB at hp
  rw [Bool.and_eq_true, Bool.and_eq_true] at hp
  have he := hp.1.1
  unfold eachB at he
  simp only [Bool.and_eq_true, List.all_eq_true] at he
  exact wch_of (.inr (.inl (he.1 x ha)))
theorem join_flat (sep : L8) (x : L8) : ∀ l : List L8, Lib.join (x :: l) sep = x ++ l.flatMap (fun y => sep ++ y)
  | [] => by rw [Lib.join_one]; simp
  | y :: l => by
    have e : Lib.join (x :: y :: l) sep = x ++ sep ++ Lib.join (y :: l) sep := by simp [Lib.join, List.intercalate, List.intersperse]
    rw [e, join_flat sep y l]; simp
theorem blk32 : ∀ x ∈ ([32] : L8), blk x = true := by decide
theorem blk0 : ∀ x ∈ ([] : L8), blk x = true := by decide
theorem stop32 (r : L8) : StopW (32 :: r) := .inr ⟨_, _, rfl, rfl⟩
theorem stop41 (r : L8) : StopW (41 :: r) := .inr ⟨_, _, rfl, rfl⟩
theorem wordC_w (k : Int) : (∀ x ∈ wordC k, wch x = true) ∧ wordC k ≠ [] ∧ (wordC k == []) = false ∧ (wordC k = wAnd ∨ wordC k = wOr) := by
 unfold wordC; split <;> decide
end
section
open Go
def LexRead (n lv : Nat) (c : CT) : Prop := ∀ (s b r : L8) (p : Nat), (∀ x ∈ b, blk x = true) → s.drop p = b ++ (c.tx ++ r) → StopW r →
 ∃ T p', Lx s p T p' ∧ s.drop p' = r ∧ FstT T ∧ ∀ (y : Tok) (R : List Tok), condT n ⟨T ++ y :: R, -1⟩ = (c, ⟨y :: R, -1⟩)
theorem adv_tail {x : Tok} {L : List Tok} (h : L ≠ []) : adv (x :: L) = L := by
 match L, h with
 | y :: l, _ => rfl
theorem tk_2 {k : Int} {t : L8} {x : Tok} {L : List Tok} (hk : x.k = k) (ht : t = [] ∨ x.t = t) (hL : L ≠ []) : takeT k t ⟨x :: L, -1⟩ = (x.t, ⟨L, -1⟩) := by
 match L, hL with
 | y :: l, _ => exact tk_1 hk ht
theorem tx_1 (n v : L8) (l : List CT) : (CT.mk 1 n v l).tx = wAlways := rfl
theorem tx_2 (n v : L8) (l : List CT) : (CT.mk 2 n v l).tx = [102, 97, 99, 116, 32] ++ n ++ [32, 61, 32] ++ quoB v := rfl
theorem tx_3 (n v : L8) (l : List CT) : (CT.mk 3 n v l).tx = [115, 101, 116, 116, 105, 110, 103, 32] ++ n ++ [32, 61, 32] ++ quoB v := rfl
theorem tx_4 (n v : L8) (l : List CT) : (CT.mk 4 n v l).tx = [104, 97, 115, 32] ++ n := rfl
theorem tx_5 (n v : L8) (l : List CT) : (CT.mk 5 n v l).tx = [118, 101, 114, 115, 105, 111, 110, 32] ++ n ++ [32, 105, 110, 32] ++ quoB v := rfl
theorem tx_6 (n v : L8) (a : CT) : (CT.mk 6 n v [a]).tx = [110, 111, 116, 32] ++ a.tx := rfl
theorem tx_l0 {k : Int} (hk : k = 7 ∨ k = 8) (n v : L8) : (CT.mk k n v []).tx = [40] ++ wordC k ++ [41] := by rcases hk with rfl | rfl <;> rfl
theorem tx_l1 {k : Int} (hk : k = 7 ∨ k = 8) (n v : L8) (a : CT) : (CT.mk k n v [a]).tx = [40] ++ wordC k ++ [32] ++ a.tx ++ [41] := by rcases hk with rfl | rfl <;> rfl
theorem tx_l2 {k : Int} (hk : k = 7 ∨ k = 8) (n v : L8) (a a2 : CT) (l : List CT) : (CT.mk k n v (a :: a2 :: l)).tx = [40] ++ (a.tx ++ ((a2 :: l).map CT.tx).flatMap (fun y => ([32] ++ wordC k ++ [32]) ++ y)) ++ [41] := by
 have e : (CT.mk k n v (a :: a2 :: l)).tx = [40] ++ Lib.join (CT.txs (a :: a2 :: l)) ([32] ++ wordC k ++ [32]) ++ [41] := by
  rcases hk with rfl | rfl <;> rfl
 rw [e, txs_map]
 show [40] ++ Lib.join (a.tx :: (a2 :: l).map CT.tx) ([32] ++ wordC k ++ [32]) ++ [41] = _
 rw [join_flat]
theorem fact_read {k : Int} {x y z t : Tok} {R : List Tok} (h1 : x.k = 1) (h2 : y.k = 3) (h3 : y.t = [61]) (h4 : z.k = 2) : factG k ⟨x :: y :: z :: t :: R, -1⟩ = (.mk k x.t z.t [], ⟨t :: R, -1⟩) := by
 unfold factG
 dsimp only
 rw [tk_1 h1 (.inl rfl)]
 dsimp only
 rw [tk_1 h2 (.inr h3)]
 dsimp only
 rw [tk_1 h4 (.inl rfl)]
theorem ver_read {x y z t : Tok} {R : List Tok} (h1 : x.k = 1) (h2 : y.k = 1) (h3 : y.t = wIn) (h4 : z.k = 2) : versionG ⟨x :: y :: z :: t :: R, -1⟩ = (.mk 5 x.t z.t [], ⟨t :: R, -1⟩) := by
 unfold versionG
 dsimp only
 rw [tk_1 h1 (.inl rfl)]
 dsimp only
 rw [tk_1 h2 (.inr h3)]
 dsimp only
 rw [tk_1 h4 (.inl rfl)]
theorem stop_flat (k : Int) (l : List CT) (r : L8) : StopW ((l.map CT.tx).flatMap (fun y => ([32] ++ wordC k ++ [32]) ++ y) ++ 41 :: r) := by
 cases l with
 | nil => exact stop41 r
 | cons a l => exact .inr ⟨32, wordC k ++ 32 :: (a.tx ++ ((l.map CT.tx).flatMap (fun y => ([32] ++ wordC k ++ [32]) ++ y) ++ 41 :: r)), by simp, rfl⟩
section
variable {n lv : Nat} {k : Int}
theorem lex_more : ∀ (l : List CT), (∀ a ∈ l, LexRead n lv a) → ∀ (s r : L8) (p : Nat), s.drop p = (l.map CT.tx).flatMap (fun y => ([32] ++ wordC k ++ [32]) ++ y) ++ 41 :: r →
    ∃ T p', Lx s p T p' ∧ s.drop p' = 41 :: r ∧ l.length ≤ T.length ∧ (∀ (z : Tok) (R acc) (fuel : Nat), z.k = 3 → l.length ≤ fuel → moreG (condT n) (wordC k) fuel acc ⟨T ++ z :: R, -1⟩ = (acc ++ l, ⟨z :: R, -1⟩)) ∧ (l ≠ [] → ∃ x T', T = x :: T' ∧ x.k = 1 ∧ x.t = wordC k)
  | [], _, s, r, p, h => by
    refine ⟨[], p, .nil p, h, Nat.le_refl _, fun z R acc fuel hz hf => ?_, fun h => (h rfl).elim⟩
    rw [List.append_nil]
    cases fuel with
    | zero => rfl
    | succ fuel =>
      rw [moreG.eq_2]
      exact if_neg (by rw [show ([] ++ z :: R : List Tok) = z :: R from rfl, is_0 (by rw [hz]; rfl)]; simp)
  | a :: l, ih, s, r, p, h => by
    have hw := wordC_w k
    have h0 : s.drop p = [32] ++ (wordC k ++ (32 :: (a.tx ++ ((l.map CT.tx).flatMap (fun y => ([32] ++ wordC k ++ [32]) ++ y) ++ 41 :: r)))) := by
      rw [h]; simp
    obtain ⟨x, p1, l1, d1, k1, t1⟩ := lx_word h0 blk32 hw.1 hw.2.1 (stop32 _)
    have hst := stop_flat k l r
    obtain ⟨Ta, p2, l2, d2, f2, c2⟩ := ih a (by simp) s [32] _ p1 blk32 d1 hst
    obtain ⟨T, p3, l3, d3, n3, c3, _⟩ := lex_more l (fun b hb => ih b (by simp [hb])) s r p2 d2
    refine ⟨x :: (Ta ++ T), p3, (Lx.trans l1 (Lx.trans l2 l3) : Lx s p ([x] ++ (Ta ++ T)) p3), d3, ?_, fun z R acc fuel hz hf => ?_, fun _ => ⟨x, _, rfl, k1, t1⟩⟩
    · simp only [List.length_cons, List.length_append]; omega
    · cases fuel with
      | zero => simp at hf
      | succ fuel =>
        have hT : (x :: (Ta ++ T)) ++ z :: R = x :: (Ta ++ (T ++ z :: R)) := by simp
        have hne : Ta ++ (T ++ z :: R) ≠ [] := by simp
        have hL : ∃ y L, T ++ z :: R = y :: L := List.exists_cons_of_ne_nil (by simp)
        obtain ⟨y, L, hy⟩ := hL
        rw [hT, moreG.eq_2, if_pos (is_1 (by rw [k1, t1]; simp))]
        have ea : advS ⟨x :: (Ta ++ (T ++ z :: R)), -1⟩ = ⟨Ta ++ (T ++ z :: R), -1⟩ := by
          unfold advS; rw [adv_tail hne]
        rw [ea]
        have ec : condT n ⟨Ta ++ (T ++ z :: R), -1⟩ = (a, ⟨T ++ z :: R, -1⟩) := by rw [hy]; exact c2 y L
        rw [ec]
        show moreG (condT n) (wordC k) fuel (acc ++ [a]) ⟨T ++ z :: R, -1⟩ = _
        rw [c3 z R _ fuel hz (by simp at hf; omega)]
        simp
end
theorem kind_of {k : Int} (hk : k = 7 ∨ k = 8) : kindT (wordC k) = k := by rcases hk with rfl | rfl <;> decide
section
variable {f : PS → CT × PS} {k : Int} (hk : k = 7 ∨ k = 8)
include hk
theorem list_word {x w z : Tok} {L : List Tok} (h1 : x.k = 3) (h2 : x.t = [40]) (h3 : w.k = 1) (h4 : w.t = wordC k) : listG false f ⟨x :: w :: z :: L, -1⟩ = shortG f k ⟨z :: L, -1⟩ := by
 have e : (takeT 3 [40] ⟨x :: w :: z :: L, -1⟩).2 = ⟨w :: z :: L, -1⟩ := by rw [tk_1 h1 (.inr h2)]
 rcases hk with rfl | rfl
 ·skip
  rw [lg_and (by rw [e, is_1 (by rw [h3, h4]; rfl)]; rfl), e]; rfl
 ·skip
  rw [lg_or (by rw [e, is_0 (by rw [h3, h4]; rfl)]; rfl) (by rw [e, is_1 (by rw [h3, h4]; rfl)]; rfl), e]; rfl
end
theorem lex_read : ∀ (n lv : Nat) (c : CT), Rt n lv c → LexRead n lv c
  | 0, lv, c, h => by obtain ⟨_, m, hm⟩ := h.self; omega
  | n + 1, lv, c, h => by
    intro s b r p hb hd hr
    have ih : ∀ a ∈ c.l, LexRead n (lv + 1) a := fun a ha => lex_read n (lv + 1) a (h.sub ha)
    have hp := h.self.1
    obtain ⟨k, nm, v, l, rfl⟩ : ∃ k nm v l, c = CT.mk k nm v l := by cases c; exact ⟨_, _, _, _, rfl⟩
    have hk := sh_k hp
    have hkk : k = 1 ∨ k = 2 ∨ k = 3 ∨ k = 4 ∨ k = 5 ∨ k = 6 ∨ (k = 7 ∨ k = 8) := by omega
    have ih : ∀ a ∈ l, LexRead n (lv + 1) a := ih
    rcases hkk with rfl | rfl | rfl | rfl | rfl | rfl | hk2
    · -- always
      obtain ⟨rfl, rfl⟩ := sh_bare hp (.inl rfl)
      obtain rfl := sh_k1 hp rfl
      rw [tx_1] at hd
      obtain ⟨x, p1, l1, d1, k1, t1⟩ := lx_word hd hb (by decide) (by decide) hr
      refine ⟨[x], p1, l1, d1, fst_w k1 t1 rfl rfl, fun y R => ?_⟩
      show condG false (condT n) ⟨x :: y :: R, -1⟩ = _
      have e := tk_1 (x := x) (y := y) (l := R) k1 (.inl rfl : ([] : L8) = [] ∨ x.t = [])
      rw [cg_always (is_0 (by rw [k1]; rfl)) (by rw [e, t1]; rfl), e]
    · -- fact
      obtain ⟨rfl, hn⟩ := sh_named hp (by decide) (by decide)
      have hn := name_w (show nameB nm = true from hn)
      have h0 : s.drop p = b ++ (wFact ++ (32 :: (nm ++ (32 :: 61 :: 32 :: (quoB v ++ r))))) := by rw [hd, tx_2]; simp [wFact]
      obtain ⟨x1, p1, l1, d1, k1, t1⟩ := lx_word h0 hb (by decide) (by decide) (stop32 _)
      obtain ⟨x2, p2, l2, d2, k2, t2⟩ := lx_word (b := [32]) d1 blk32 hn.1 hn.2 (stop32 _)
      obtain ⟨x3, p3, l3, d3, k3, t3⟩ := lx_sign (b := [32]) d2 blk32 rfl
      obtain ⟨x4, p4, l4, d4, k4, t4⟩ := lx_text (b := [32]) d3 blk32
      refine ⟨[x1, x2, x3, x4], p4, l1.trans (l2.trans (l3.trans l4)), d4, fst_w k1 t1 rfl rfl, fun y R => ?_⟩
      show condG false (condT n) ⟨x1 :: x2 :: x3 :: x4 :: y :: R, -1⟩ = _
      have e := tk_1 (x := x1) (y := x2) (l := x3 :: x4 :: y :: R) k1 (.inl rfl : ([] : L8) = [] ∨ x1.t = [])
      rw [cg_fact (is_0 (by rw [k1]; rfl)) (by rw [e, t1]; rfl) (by rw [e, t1]; rfl) (by rw [e, t1]; rfl), e, fact_read k2 k3 t3 k4, t2, t4]
    · -- setting
      obtain ⟨rfl, hn⟩ := sh_named hp (by decide) (by decide)
      have hn := path_w (show pathB nm = true from hn)
      have h0 : s.drop p = b ++ (wSetting ++ (32 :: (nm ++ (32 :: 61 :: 32 :: (quoB v ++ r))))) := by rw [hd, tx_3]; simp [wSetting]
      obtain ⟨x1, p1, l1, d1, k1, t1⟩ := lx_word h0 hb (by decide) (by decide) (stop32 _)
      obtain ⟨x2, p2, l2, d2, k2, t2⟩ := lx_word (b := [32]) d1 blk32 hn.1 hn.2 (stop32 _)
      obtain ⟨x3, p3, l3, d3, k3, t3⟩ := lx_sign (b := [32]) d2 blk32 rfl
      obtain ⟨x4, p4, l4, d4, k4, t4⟩ := lx_text (b := [32]) d3 blk32
      refine ⟨[x1, x2, x3, x4], p4, l1.trans (l2.trans (l3.trans l4)), d4, fst_w k1 t1 rfl rfl, fun y R => ?_⟩
      show condG false (condT n) ⟨x1 :: x2 :: x3 :: x4 :: y :: R, -1⟩ = _
      have e := tk_1 (x := x1) (y := x2) (l := x3 :: x4 :: y :: R) k1 (.inl rfl : ([] : L8) = [] ∨ x1.t = [])
      rw [cg_setting (is_0 (by rw [k1]; rfl)) (by rw [e, t1]; rfl) (by rw [e, t1]; rfl), e, fact_read k2 k3 t3 k4, t2, t4]
    · -- has
      obtain ⟨rfl, hn⟩ := sh_named hp (by decide) (by decide)
      obtain rfl := sh_k4 hp rfl
      have hn := path_w (show pathB nm = true from hn)
      have h0 : s.drop p = b ++ (wHas ++ (32 :: (nm ++ r))) := by rw [hd, tx_4]; simp [wHas]
      obtain ⟨x1, p1, l1, d1, k1, t1⟩ := lx_word h0 hb (by decide) (by decide) (stop32 _)
      obtain ⟨x2, p2, l2, d2, k2, t2⟩ := lx_word (b := [32]) d1 blk32 hn.1 hn.2 hr
      refine ⟨[x1, x2], p2, l1.trans l2, d2, fst_w k1 t1 rfl rfl, fun y R => ?_⟩
      show condG false (condT n) ⟨x1 :: x2 :: y :: R, -1⟩ = _
      have e := tk_1 (x := x1) (y := x2) (l := y :: R) k1 (.inl rfl : ([] : L8) = [] ∨ x1.t = [])
      have e2 := tk_1 (x := x2) (y := y) (l := R) k2 (.inl rfl : ([] : L8) = [] ∨ x2.t = [])
      rw [cg_has (is_0 (by rw [k1]; rfl)) (by rw [e, t1]; rfl) (by rw [e, t1]; rfl) (by rw [e, t1]; rfl) (by rw [e, t1]; rfl), e]
      dsimp only
      rw [e2, t2]
    · -- version
      obtain ⟨rfl, hn⟩ := sh_named hp (by decide) (by decide)
      have hn := name_w (show nameB nm = true from hn)
      have h0 : s.drop p = b ++ (wVersion ++ (32 :: (nm ++ (32 :: (wIn ++ (32 :: (quoB v ++ r))))))) := by rw [hd, tx_5]; simp [wVersion, wIn]
      obtain ⟨x1, p1, l1, d1, k1, t1⟩ := lx_word h0 hb (by decide) (by decide) (stop32 _)
      obtain ⟨x2, p2, l2, d2, k2, t2⟩ := lx_word (b := [32]) d1 blk32 hn.1 hn.2 (stop32 _)
      obtain ⟨x3, p3, l3, d3, k3, t3⟩ := lx_word (b := [32]) (w := wIn) d2 blk32 (by decide) (by decide) (stop32 _)
      obtain ⟨x4, p4, l4, d4, k4, t4⟩ := lx_text (b := [32]) d3 blk32
      refine ⟨[x1, x2, x3, x4], p4, l1.trans (l2.trans (l3.trans l4)), d4, fst_w k1 t1 rfl rfl, fun y R => ?_⟩
      show condG false (condT n) ⟨x1 :: x2 :: x3 :: x4 :: y :: R, -1⟩ = _
      have e := tk_1 (x := x1) (y := x2) (l := x3 :: x4 :: y :: R) k1 (.inl rfl : ([] : L8) = [] ∨ x1.t = [])
      rw [cg_version (is_0 (by rw [k1]; rfl)) (by rw [e, t1]; rfl) (by rw [e, t1]; rfl) (by rw [e, t1]; rfl) (by rw [e, t1]; rfl) (by rw [e, t1]; rfl), e, ver_read k2 k3 t3 k4, t2, t4]
    · -- not
      obtain ⟨rfl, rfl⟩ := sh_bare hp (.inr (by decide))
      obtain ⟨a, rfl⟩ : ∃ a, l = [a] := by
        have h1 : l.length = 1 := part_6 hp rfl
        exact List.length_eq_one_iff.1 h1
      have h0 : s.drop p = b ++ (wNot ++ (32 :: (a.tx ++ r))) := by rw [hd, tx_6]; simp [wNot]
      obtain ⟨x1, p1, l1, d1, k1, t1⟩ := lx_word h0 hb (by decide) (by decide) (stop32 _)
      obtain ⟨Ta, p2, l2, d2, f2, c2⟩ := ih a (List.mem_cons_self ..) s [32] _ p1 blk32 d1 hr
      refine ⟨x1 :: Ta, p2, (Lx.trans l1 l2 : Lx s p ([x1] ++ Ta) p2), d2, fst_w k1 t1 rfl rfl, fun y R => ?_⟩
      show condG false (condT n) ⟨x1 :: (Ta ++ y :: R), -1⟩ = _
      have e : takeT 1 [] ⟨x1 :: (Ta ++ y :: R), -1⟩ = (x1.t, ⟨Ta ++ y :: R, -1⟩) := tk_2 k1 (.inl rfl) (by simp)
      rw [cg_not (is_0 (by rw [k1]; rfl)) (by rw [e, t1]; rfl) (by rw [e, t1]; rfl) (by rw [e, t1]; rfl) (by rw [e, t1]; rfl) (by rw [e, t1]; rfl) (by rw [e, t1]; rfl) rfl, e]
      dsimp only
      rw [c2]
    · -- lists
      obtain ⟨rfl, rfl⟩ := sh_bare hp (.inr (by omega))
      have hw := wordC_w k
      match l, ih, hd with
      | [], _, hd =>
        rw [tx_l0 hk2] at hd
        have h0 : s.drop p = b ++ 40 :: (wordC k ++ 41 :: r) := by rw [hd]; simp
        obtain ⟨x1, p1, l1, d1, k1, t1⟩ := lx_sign h0 hb rfl
        obtain ⟨x2, p2, l2, d2, k2, t2⟩ := lx_word (b := []) d1 blk0 hw.1 hw.2.1 (stop41 _)
        obtain ⟨x3, p3, l3, d3, k3, t3⟩ := lx_sign (b := []) d2 blk0 rfl
        refine ⟨[x1, x2, x3], p3, l1.trans (l2.trans l3), d3, fst_b k1 t1, fun y R => ?_⟩
        show condG false (condT n) ⟨x1 :: x2 :: x3 :: y :: R, -1⟩ = _
        rw [cg_list (is_1 (by rw [k1, t1]; rfl)), list_word hk2 k1 t1 k2 t2, sh_0 (by rw [is_1 (by rw [k3, t3]; rfl)]; rfl), tk_1 k3 (.inr t3)]
      | [a], ih, hd =>
        rw [tx_l1 hk2] at hd
        have h0 : s.drop p = b ++ 40 :: (wordC k ++ (32 :: (a.tx ++ 41 :: r))) := by rw [hd]; simp
        obtain ⟨x1, p1, l1, d1, k1, t1⟩ := lx_sign h0 hb rfl
        obtain ⟨x2, p2, l2, d2, k2, t2⟩ := lx_word (b := []) d1 blk0 hw.1 hw.2.1 (stop32 _)
        obtain ⟨Ta, p3, l3, d3, f3, c3⟩ := ih a (List.mem_cons_self ..) s [32] _ p2 blk32 d2 (stop41 _)
        obtain ⟨x4, p4, l4, d4, k4, t4⟩ := lx_sign (b := []) d3 blk0 rfl
        obtain ⟨x5, U, rfl, g1, g2, g3⟩ := f3
        refine ⟨x1 :: x2 :: ((x5 :: U) ++ [x4]), p4, (Lx.trans l1 (Lx.trans l2 (Lx.trans l3 l4)) : Lx s p ([x1] ++ ([x2] ++ ((x5 :: U) ++ [x4]))) p4), d4, fst_b k1 t1, fun y R => ?_⟩
        have hT : (x1 :: x2 :: ((x5 :: U) ++ [x4])) ++ y :: R = x1 :: x2 :: x5 :: (U ++ x4 :: y :: R) := by simp
        rw [hT]
        show condG false (condT n) _ = _
        have c4 : condT n ⟨x5 :: (U ++ x4 :: y :: R), -1⟩ = (a, ⟨x4 :: y :: R, -1⟩) := c3 x4 (y :: R)
        rw [cg_list (is_1 (by rw [k1, t1]; rfl)), list_word hk2 k1 t1 k2 t2, sh_1 (by rw [is_0 g3]; rfl), c4]
        dsimp only
        rw [tk_1 k4 (.inr t4)]
      | a :: a2 :: l, ih, hd =>
        rw [tx_l2 hk2] at hd
        have h0 : s.drop p = b ++ 40 :: (a.tx ++ (((a2 :: l).map CT.tx).flatMap (fun y => ([32] ++ wordC k ++ [32]) ++ y) ++ 41 :: r)) := by
          rw [hd]; simp only [List.append_assoc, List.cons_append, List.nil_append]
        obtain ⟨x1, p1, l1, d1, k1, t1⟩ := lx_sign h0 hb rfl
        obtain ⟨Ta, p2, l2, d2, f2, c2⟩ := ih a (List.mem_cons_self ..) s [] _ p1 blk0 d1 (stop_flat k (a2 :: l) r)
        obtain ⟨Tm, p3, l3, d3, n3, c3, f3⟩ := lex_more (k := k) (a2 :: l) (fun x hx => ih x (List.mem_cons_of_mem _ hx)) s r p2 d2
        obtain ⟨x4, p4, l4, d4, k4, t4⟩ := lx_sign (b := []) d3 blk0 rfl
        obtain ⟨x5, U, rfl, g1, g2, g3⟩ := f2
        obtain ⟨x6, W, rfl, k6, t6⟩ := f3 (by simp)
        refine ⟨x1 :: ((x5 :: U) ++ ((x6 :: W) ++ [x4])), p4, (Lx.trans l1 (Lx.trans l2 (Lx.trans l3 l4)) : Lx s p ([x1] ++ ((x5 :: U) ++ ((x6 :: W) ++ [x4]))) p4), d4, fst_b k1 t1, fun y R => ?_⟩
        have hT : (x1 :: ((x5 :: U) ++ ((x6 :: W) ++ [x4]))) ++ y :: R = x1 :: x5 :: (U ++ x6 :: (W ++ x4 :: y :: R)) := by simp
        rw [hT]
        show condG false (condT n) _ = _
        have et : (takeT 3 [40] ⟨x1 :: x5 :: (U ++ x6 :: (W ++ x4 :: y :: R)), -1⟩).2 = ⟨x5 :: (U ++ x6 :: (W ++ x4 :: y :: R)), -1⟩ := by rw [tk_1 k1 (.inr t1)]
        have c4 : condT n ⟨x5 :: (U ++ x6 :: (W ++ x4 :: y :: R)), -1⟩ = (a, ⟨x6 :: (W ++ x4 :: y :: R), -1⟩) := c2 x6 (W ++ x4 :: y :: R)
        have es : signT ⟨x6 :: (W ++ x4 :: y :: R), -1⟩ = ⟨x6 :: (W ++ x4 :: y :: R), -1⟩ := sign_0 (by
          show (true && (x6.k != 1 || (!(x6.t == wAnd) && !(x6.t == wOr)))) = false
          rw [k6, t6]
          rcases hw.2.2.2 with e | e <;> rw [e] <;> rfl)
        have em : moreG (condT n) (wordC k) (x6 :: x6 :: (W ++ x4 :: y :: R)).length [a] ⟨x6 :: (W ++ x4 :: y :: R), -1⟩ = (a :: a2 :: l, ⟨x4 :: y :: R, -1⟩) :=
          c3 x4 (y :: R) [a] _ k4 (by
            have : (a2 :: l).length ≤ (x6 :: W).length := n3
            simp only [List.length_cons, List.length_append] at this ⊢
            omega)
        rw [cg_list (is_1 (by rw [k1, t1]; rfl)), lg_long (by rw [et, is_0 g1]; rfl) (by rw [et, is_0 g2]; rfl), et]
        rw [lo_eq (l := a :: a2 :: l) (p := ⟨x4 :: y :: R, -1⟩) (by
          rw [c4]
          show moreG (condT n) x6.t (x6 :: x6 :: (W ++ x4 :: y :: R)).length [a] (signT ⟨x6 :: (W ++ x4 :: y :: R), -1⟩) = _
          rw [es, t6, em]), c4]
        show (CT.mk (kindT x6.t) [] [] (a :: a2 :: l), (takeT 3 [41] ⟨x4 :: y :: R, -1⟩).2) = _
        rw [t6, kind_of hk2, tk_1 k4 (.inr t4)]
theorem check_few {c : CT} (h : checkP c = 0) : c.w ≤ 100 ∧ deepB (c.pt 0) = false := by
 have h1 : decide ((visit cc1 c 0 (0, false)).2.1 > 100) = false ∧ (visit cc1 c 0 (0, false)).2.2 = false := by
  unfold checkP at h
  split at h
  ·skip
   cases h
  ·skip
   rename_i h1
   refine ⟨by simpa using h1, ?_⟩
   split at h
   ·skip
    cases h
   ·skip
    rename_i h2
    cases h3 : (visit cc1 c 0 (0, false)).2.2 with
    | false => rfl
    | true => rw [h3, h, Bool.and_true] at h2; exact (h2 rfl).elim
 rw [visit_runs] at h1
 have hr := run_cc1 (c.pt 0) 0 false (by omega)
 rw [pt_len] at hr
 by_cases hw : c.w ≤ 100
 ·skip
  refine ⟨hw, ?_⟩
  have h2 := h1.2
  have h3 := hr.1 (by omega)
  rw [show ((0 : Nat) : Int) = 0 from rfl] at h3
  rw [h3] at h2
  simpa using h2
 ·skip
  have h2 := h1.1
  have h3 := hr.2 (by omega)
  rw [show ((0 : Nat) : Int) = 0 from rfl] at h3
  rw [h3] at h2
  exact absurd h2 (by decide)
theorem rt_of {c : CT} (h : checkP c = 0) : Rt 100 0 c := by
 refine ⟨by decide, fun p hp => ⟨check_parts h p hp, ?_⟩⟩
 have h2 := (check_few h).2
 unfold deepB at h2
 rw [List.any_eq_false] at h2
 have h3 := h2 p hp
 simp at h3
 omega
theorem parse_print {c : CT} (h : checkP c = 0) (hl : c.tx.length ≤ 4000) : parseP c.tx = (c, 0, 0) := by
 obtain ⟨T, q, h1, h2, h3, h4⟩ := lex_read 100 0 c (rt_of h) c.tx [] [] 0 blk0 (by simp) (.inl rfl)
 obtain ⟨h5, m, h6, h7⟩ := lx_toks h1 c.tx.length (Nat.zero_le _) (by omega)
 have hq : q = c.tx.length := by
  have := congrArg List.length h2
  simp at this; omega
 obtain ⟨R, hR⟩ := toks_hd m c.tx q
 have hk : (nextT c.tx q).k = 0 := by
  have e : skipB c.tx q = q := skip_end (i := q) (by omega) h5 rfl |>.symm ▸ rfl
  unfold nextT tokAt
  rw [e, if_pos (by omega)]
 have h8 : condT 100 ⟨toks c.tx, -1⟩ = (c, ⟨nextT c.tx q :: R, -1⟩) := by
  unfold toks
  rw [h7, hR]; exact h4 _ _
 have he : endS (condT 100 ⟨toks c.tx, -1⟩).2 = ⟨nextT c.tx q :: R, -1⟩ := by
  rw [h8]; exact end_0 (by show (true && (nextT c.tx q).k != 0) = false; rw [hk]; rfl)
 have := pp_3 (s := c.tx) (by simp; omega) he rfl (by rw [h8]; show (checkP c != 0) = false; rw [h]; rfl)
 rw [this, h8]
end
section
open Go
open Go.RowKit
attribute [local irreducible] thenK blockK W
attribute [local irreducible] rangeB rangeR pathB nameB valueB visit visits checkP errR sortS useK useL usesP namesP printC holdsP CT.ho CT.tx parseP listE firstNe tabOf tellT valT
theorem pc_EqualStr (l : List (List UInt8)) (hl : l.length ≤ 1000000000) :
  PureCall Tryz.prog J 16 [.one (.d (.vec 1 (l.map fun x => [.str x]))), .one (.d (.vec 1 (l.map fun x => [.str x])))] (.one (.d (.bool true))) := by
 refine PureCall.of_body tOk (fn := Tryz.f16) Tryz.func16 (by kernel_rfl) rfl (Nat.le_of_ble_eq_true rfl) (fun E => ?_)
 iterate 11 first|refine Yp rfl ?_|apply Y1|apply Yn|apply Ys
 refine W.cond rfl (fun c1=>?_) fun c1=>?_
 ·skip
  exact absurd c1 (by simp)
 iterate 9 first|refine Yp rfl ?_|apply Yb|apply Yk|apply Y1|apply Yn|apply Ys
 refine W.loop (fun k st => ∃ i : Nat, i ≤ l.length ∧ k = l.length - i ∧ ∃ t b2 r2 m2, st = ⟨t, [] ++ b2, [] ++ r2, [] ++ m2⟩ ∧ holdsL t [(0, .one (.d (.vec 1 (l.map fun x => [.str x])))), (1, .one (.d (.vec 1 (l.map fun x => [.str x])))), (12, .one (.d (.int .i64 ((l.map fun x => ([.str x] : List D)).length : Int)))), (13, .one (.d (.int .i64 (i : Int))))]) (l.length) ⟨0, Nat.zero_le _, rfl, _, _, _, _, rfl, rfl, rfl, rfl, rfl, trivial⟩ ?_
 rintro k0 _ ⟨i, f0_0, rfl, t0, bb0, rr0, mm0, rfl, hh0⟩
 refine W.keepR _ _ _ _ _ _ _ hh0 rfl ?_
 apply Y1
 refine Yp rfl ?_
 apply Yn
 apply Ys
 refine W.cond rfl (fun c2=>?_) fun c2=>?_
 ·skip
  have hi := row_lt c2
  iterate 9 first|refine Yp rfl ?_|apply Yb|apply Yk|apply Y1|apply Ys|apply Yn
  refine W.regionD mixed (by kernel_rfl) ?_
  iterate 2 refine Ym rfl rfl ?_
  refine D.pureE tOk zOk rfl rfl (row_ok hi) (row_at [] hi) rfl ?_
  iterate 3 refine Ym rfl rfl ?_
  refine D.pureE tOk zOk rfl rfl (row_ok hi) (row_at [] hi) rfl ?_
  iterate 2 refine Ym rfl rfl ?_
  apply Yn
  refine W.cond rfl (fun c3=>?_) fun c3=>?_
  ·skip
   exact absurd c3 (by simp)
  apply Yk
  apply Yw
  apply Y4
  iterate 2 refine Yp rfl ?_
  refine loop_n (l.length - (i + 1)) (by omega) ⟨i + 1, hi, rfl, _, _, _, _, rfl, rfl, rfl, rfl, inc_i64 (by omega), trivial⟩
 apply Yq
 apply Ye
 apply Ye
 apply Yx
 apply Y3
 refine Yp rfl ?_
 apply Yn
 apply Yt
 exact ⟨_, rfl, rfl, LeV.refl _⟩
theorem nm_ok {c : CT} (hs : CtSm c) (hw : c.w ≤ 1048576) : NmOk c := by
 obtain ⟨h1, h2, h3⟩ := nm_facts c
 refine ⟨by omega, fun x hx => ?_, h1⟩
 have h4 := useL_len (pt_T _ c 0 (Nat.le_refl _) hs) x.1 ((h2 x.1).1 (List.mem_map.2 ⟨x, hx, rfl⟩))
 exact Nat.le_trans h4 (by decide)
theorem print2 (c : CT) : (printC c).2 = checkP c := by
 cases h : (checkP c != 0) with
 | true => rw [printC_1 h]
 | false => rw [printC_2 h]; simpa using (show checkP c = 0 by simpa using h).symm
theorem names2 (c : CT) : (namesP c).2 = checkP c := by
 cases h : (checkP c != 0) with
 | true => rw [np_1 h]
 | false => rw [np_2 h]; simpa using (show checkP c = 0 by simpa using h).symm
section
variable {c : CT} {fl gl : List Stg} (h : (checkP c != 0) = false)
include h
theorem hp_bad (h2 : (firstNe [listE nameB fl, listE pathB gl] != 0) = true) : holdsP c fl gl = (false, firstNe [listE nameB fl, listE pathB gl]) := by
 rw [first2] at h2 ⊢
 unfold firstB at h2 ⊢
 cases h3 : (listE nameB fl != 0) with
 | true => rw [hp_2 h h3, if_pos rfl]
 | false => rw [h3, if_neg (by simp)] at h2; rw [hp_3 h h3 h2, if_neg (by simp)]
theorem hp_good (h2 : (firstNe [listE nameB fl, listE pathB gl] != 0) = false) : holdsP c fl gl = (c.ho (valT fl) (valT gl), 0) ∧ listE nameB fl = 0 ∧ listE pathB gl = 0 := by
 rw [first2] at h2
 unfold firstB at h2
 cases h3 : (listE nameB fl != 0) with
 | true => rw [h3, if_pos rfl] at h2; rw [h2] at h3; cases h3
 | false =>
  rw [h3, if_neg (by simp)] at h2
  exact ⟨hp_4 h h3 h2, by simpa using h3, by simpa using h2⟩
end
theorem stgL_of {l : List Stg} {φ : L8 → Bool} (h : StgB l) (h2 : listE φ l = 0) : StgL l := ⟨h.n, fun s hs => (h.s s hs).2, rise_of h2⟩
theorem pc_outlaw2_CondsMatch (c : CT) (hs : CtSm c) (hw : c.w ≤ 1048576) (hb : c.b ≤ 100000000) (fl gl : List Stg) (hf : StgB fl) (hg : StgB gl) :
  PureCall Tryz.prog J 4 [ctV c, .one (.d (.vec 2 (fl.map stgD))), .one (.d (.vec 2 (gl.map stgD)))] (.one (.d (.bool true))) := by
 have hbig := hs.big
 have hT := check_T hs
 have hnm := nm_ok hs hw
 have pe := pc_CondErr c hbig
 rw [errs_eq (by omega)] at pe
 have pH := pc_Holds c hbig hT fl gl hf hg
 refine PureCall.of_body tOk (fn := Tryz.f4) Tryz.func4 (by kernel_rfl) rfl (Nat.le_of_ble_eq_true rfl) (fun E => ?_)
 iterate 5 first|refine Yp rfl ?_|refine S.box rfl rfl rfl rfl ?_|apply Y3|apply Y1
 refine S.call rfl rfl rfl rfl rfl (pe) ?_
 iterate 3 first|refine Yp rfl ?_|apply Y3
 refine S.call rfl rfl rfl rfl rfl (pc_ver_PrintCond c hbig hT hb) ?_
 iterate 7 first|refine Yp rfl ?_|apply Y3
 refine S.call rfl rfl rfl rfl rfl (pc_ver_Names c hbig hnm) ?_
 iterate 9 first|refine Yp rfl ?_|apply Y3
 refine S.call rfl rfl rfl rfl rfl (pH) ?_
 iterate 5 refine Yp rfl ?_
 apply Yn
 apply Ys
 apply Y1
 refine S.call rfl rfl rfl rfl rfl (pc_outlaw2_versions) ?_
 iterate 2 refine Yp rfl ?_
 refine Yg rfl rfl tg ?_
 refine S.callG rfl rfl rfl rfl tg rfl rfl (fun h => pc_ver_CheckCond c hbig) ?_
 iterate 14 first|refine S.pickOr tOk zOk rfl rfl tg ?_|refine Yg rfl rfl tg ?_|refine Yp rfl ?_|apply Yn
 refine W.cond rfl (fun c1=>?_) fun c1=>?_
 ·skip
  exact absurd c1 (by rw [print2, names2]; simp)
 iterate 7 first|refine Yp rfl ?_|apply Yk|apply Y1|apply Yn|apply Ys
 refine W.cond rfl (fun c2=>?_) fun c2=>?_
 ·skip
  iterate 21 first|refine S.pickAnd tOk zOk rfl rfl tg ?_|refine Yg rfl rfl tg ?_|refine Yp rfl ?_|apply Yu|apply Yt|apply Y1|apply Yn
  exact Yz rfl rfl rfl (by simp [printC_1 c2, np_1 c2, hp_1 c2])
 have h0 : checkP c = 0 := by simpa using c2
 have hfew := (check_few h0).1
 have hT0 := hT h0
 have ep := printC_2 c2
 have peq : PureCall Tryz.prog J 16 [.one (.d (.vec 1 ((namesP c).1.map fun x => [.str x]))), .one (.d (.vec 1 ((usesP c).map fun x => [.str x])))] (.one (.d (.bool true))) := by
  have h1 : (namesP c).1 = usesP c := by rw [np_2 c2, uses_eq]
  have h2 : (usesP c).length ≤ 1000000000 := by
   rw [uses_eq, sortS_len, List.length_map]
   have := (nm_facts c).2.2
   omega
  rw [h1]; exact pc_EqualStr (usesP c) h2
 apply Yk
 apply Yn
 apply Ys
 apply Y1
 iterate 2 refine Yp rfl ?_
 refine S.call rfl rfl rfl rfl rfl (pc_CondText c hT0 hb) ?_
 iterate 4 first|refine Yg rfl rfl tg ?_|refine Yp rfl ?_
 refine S.callG rfl rfl rfl rfl tg rfl rfl (fun h => pc_outref2_Uses c hbig (by omega)) ?_
 refine S.callG rfl rfl rfl rfl tg rfl rfl (fun h => peq) ?_
 refine Yg rfl rfl tg ?_
 refine S.pickOr tOk zOk rfl rfl tg ?_
 apply Yn
 refine W.cond rfl (fun c3=>?_) fun c3=>?_
 ·skip
  exact absurd c3 (by rw [ep]; simp)
 iterate 8 first|refine Yp rfl ?_|apply Yk|apply Y1|apply Yn|apply Ys
 refine W.cond rfl (fun c4=>?_) fun c4=>?_
 ·skip
  have hl : c.tx.length ≤ 4000 := by have h1 := c4; rw [ep] at h1; simp at h1; omega
  have pp : PureCall Tryz.prog J 18 [.one (.d (.str (printC c).1))] (.tup [ctV c, .one (.d (.int .i64 0)), .one (.d (.int .i64 0))]) := by
   have h1 := pc_ver_ParseCond c.tx (by omega)
   rw [parse_print h0 hl] at h1
   rw [ep]; exact h1
  apply Y1
  refine Yp rfl ?_
  refine S.call rfl rfl rfl rfl rfl (pp) ?_
  iterate 18 first|refine S.pickOr tOk zOk rfl rfl tg ?_|refine Yp rfl ?_|refine Yg rfl rfl tg ?_|refine S.store tOk rfl rfl rfl rfl rfl rfl rfl rfl ?_|refine S.alloc tOk rfl rfl rfl rfl ?_|apply Y3
  refine S.callG rfl rfl rfl rfl tg rfl rfl (fun h => pc_same _ c (Nat.le_refl _) hbig) ?_
  refine Yg rfl rfl tg ?_
  refine S.pickOr tOk zOk rfl rfl tg ?_
  apply Yn
  refine W.cond rfl (fun c5=>?_) fun c5=>?_
  ·skip
   exact absurd c5 (by simp)
  apply Yk
  apply Yn
  apply Ys
  apply Y1
  refine Yp rfl ?_
  refine S.call rfl rfl rfl rfl rfl (pc_listF fl hf.n hf.s) ?_
  refine Yp rfl ?_
  refine S.call rfl rfl rfl rfl rfl (pc_listE gl hg.n hg.s) ?_
  refine S.slice tOk rfl rfl ?_
  refine S.call rfl rfl rfl rfl rfl (pc_outref2_First [listE nameB fl, listE pathB gl] (by simp)) ?_
  iterate 5 first|refine Yp rfl ?_|apply Y3|apply Yn
  refine W.cond rfl (fun c6=>?_) fun c6=>?_
  ·skip
   have hh := hp_bad (fl := fl) (gl := gl) c2 (by assumption)
   iterate 12 first|refine S.pickAnd tOk zOk rfl rfl tg ?_|refine Yp rfl ?_|refine Yg rfl rfl tg ?_|apply Yu|apply Yt|apply Y1|apply Yn
   exact Yz rfl rfl rfl (by first | (simp; done) | (rw [hh]; simp; done))
  obtain ⟨hh, hz1, hz2⟩ := hp_good (fl := fl) (gl := gl) c2 (by assumption)
  have hf1 := stgL_of hf hz1
  have hg1 := stgL_of hg hz2
  have pr := pc_ref (tabOf fl) (tabOf gl) (tab_b hf1) (tab_b hg1) _ c (Nat.le_refl _) hT0
  rw [show tellT (tabOf fl) = valT fl from funext (tell_eq hf1.r), show tellT (tabOf gl) = valT gl from funext (tell_eq hg1.r)] at pr
  have pF1 := pc_Facts fl hf.n
  have pF2 := pc_Facts gl hg.n
  generalize tabOf fl = ft at pr pF1
  generalize tabOf gl = gt at pr pF2
  rw [hh]
  apply Yk
  apply Yn
  apply Ys
  refine W.keepR [(3, .one (.ptr 0 0)), (1, .one (.d (.vec 2 (fl.map stgD)))), (2, .one (.d (.vec 2 (gl.map stgD)))), (12, .one (.d (.bool (c.ho (valT fl) (valT gl))))), (13, .one (.d (.int .i64 0)))] [[.d (.int .i64 c.k), .d (.str c.n), .d (.str c.v), .d (.vec 4 (CT.ds c.l))]] [[.d (.int .i64 c.k), .d (.str c.n), .d (.str c.v), .d (.vec 4 (CT.ds c.l))]] [] [] [] [] ⟨rfl, rfl, rfl, rfl, rfl, trivial⟩ rfl ?_
  refine W.regionS 13 mixed rfl (by kernel_rfl) ?_
  refine AnyZ.eager 0 rfl (by kernel_rfl) (Eag.pure tOk zOk rfl (fun _ _ _ => rfl) rfl rfl) ?_
  refine AnyZ.eager 1 rfl (by kernel_rfl) (Eag.pure tOk zOk rfl (fun _ _ _ => rfl) rfl rfl) ?_
  refine AnyZ.eager 2 rfl (by kernel_rfl) (Eag.pure tOk zOk rfl (fun _ _ _ => rfl) rfl rfl) ?_
  refine AnyZ.eager 3 rfl (by kernel_rfl) (Eag.pureG tOk zOk rfl rfl (fun _ _ _ => rfl) tg (fun _ => rfl) rfl) ?_
  refine AnyZ.eager 5 rfl (by kernel_rfl) (Eag.pureG tOk zOk rfl rfl (fun _ _ _ => rfl) tg (fun _ => rfl) rfl) ?_
  refine AnyZ.eager 7 rfl (by kernel_rfl) (Eag.pureG tOk zOk rfl rfl (fun _ _ _ => rfl) tg (fun _ => rfl) rfl) ?_
  refine AnyZ.two 4 6 (by kernel_rfl) rfl rfl ?_ ?_
  ·skip
   refine OpZ.d ?_
   refine Yy rfl rfl rfl tg ?_
   refine WD.nil ?_
   refine AnyZ.one 6 (by kernel_rfl) rfl ?_
   refine OpZ.hcallT rfl rfl rfl rfl tg rfl (pF1.fd (B' := [[.d (.int .i64 c.k), .d (.str c.n), .d (.str c.v), .d (.vec 4 (CT.ds c.l))]]) (R' := []) (M' := [tabD ft]) [] [] [] rfl) ?_
   refine AnyZ.one 8 (by kernel_rfl) rfl ?_
   refine OpZ.hcallT rfl rfl rfl rfl tg rfl (pF2.frameD (Rv := .one (.map 1)) (B' := [[.d (.int .i64 c.k), .d (.str c.n), .d (.str c.v), .d (.vec 4 (CT.ds c.l))]]) (R' := []) (M' := [tabD ft, tabD gt]) [] [] [] rfl rfl rfl rfl rfl rfl rfl rfl rfl) ?_
   refine AnyZ.one 9 (by kernel_rfl) rfl ?_
   refine OpZ.hcallT rfl rfl rfl rfl tg rfl (pr.fd (B' := [[.d (.int .i64 c.k), .d (.str c.n), .d (.str c.v), .d (.vec 4 (CT.ds c.l))]]) (R' := []) (M' := [tabD ft, tabD gt]) [] [] [0, 1] rfl) ?_
   refine AnyZ.eager 10 rfl (by kernel_rfl) (Eag.pureG tOk zOk rfl rfl (fun _ _ _ => rfl) tg (fun _ => rfl) rfl) ?_
   refine AnyZ.one 11 (by kernel_rfl) rfl ?_
   refine OpZ.d ?_
   refine D.pickAnd tOk zOk rfl rfl tg ?_
   refine WD.nil ?_
   refine AnyZ.eager 12 rfl (by kernel_rfl) (Eag.pure tOk zOk rfl (fun _ _ _ => rfl) rfl rfl) ?_
   refine AnyZ.nil (by kernel_rfl) ?_
   apply Yn
   apply Yt
   exact Yz rfl rfl rfl (by first | (simp; done) | (rw [hh]; simp; done))
  refine OpZ.hcallT rfl rfl rfl rfl tg rfl (pF1.fd (B' := [[.d (.int .i64 c.k), .d (.str c.n), .d (.str c.v), .d (.vec 4 (CT.ds c.l))]]) (R' := []) (M' := [tabD ft]) [] [] [] rfl) ?_
  refine AnyZ.two 4 8 (by kernel_rfl) rfl rfl ?_ ?_
  ·skip
   refine OpZ.d ?_
   refine Yy rfl rfl rfl tg ?_
   refine WD.nil ?_
   refine AnyZ.one 8 (by kernel_rfl) rfl ?_
   refine OpZ.hcallT rfl rfl rfl rfl tg rfl (pF2.frameD (Rv := .one (.map 1)) (B' := [[.d (.int .i64 c.k), .d (.str c.n), .d (.str c.v), .d (.vec 4 (CT.ds c.l))]]) (R' := []) (M' := [tabD ft, tabD gt]) [] [] [] rfl rfl rfl rfl rfl rfl rfl rfl rfl) ?_
   refine AnyZ.one 9 (by kernel_rfl) rfl ?_
   refine OpZ.hcallT rfl rfl rfl rfl tg rfl (pr.fd (B' := [[.d (.int .i64 c.k), .d (.str c.n), .d (.str c.v), .d (.vec 4 (CT.ds c.l))]]) (R' := []) (M' := [tabD ft, tabD gt]) [] [] [0, 1] rfl) ?_
   refine AnyZ.eager 10 rfl (by kernel_rfl) (Eag.pureG tOk zOk rfl rfl (fun _ _ _ => rfl) tg (fun _ => rfl) rfl) ?_
   refine AnyZ.one 11 (by kernel_rfl) rfl ?_
   refine OpZ.d ?_
   refine D.pickAnd tOk zOk rfl rfl tg ?_
   refine WD.nil ?_
   refine AnyZ.eager 12 rfl (by kernel_rfl) (Eag.pure tOk zOk rfl (fun _ _ _ => rfl) rfl rfl) ?_
   refine AnyZ.nil (by kernel_rfl) ?_
   apply Yn
   apply Yt
   exact Yz rfl rfl rfl (by first | (simp; done) | (rw [hh]; simp; done))
  refine OpZ.hcallT rfl rfl rfl rfl tg rfl (pF2.frameD (Rv := .one (.map 1)) (B' := [[.d (.int .i64 c.k), .d (.str c.n), .d (.str c.v), .d (.vec 4 (CT.ds c.l))]]) (R' := []) (M' := [tabD ft, tabD gt]) [] [] [] rfl rfl rfl rfl rfl rfl rfl rfl rfl) ?_
  refine AnyZ.one 4 (by kernel_rfl) rfl ?_
  refine OpZ.d ?_
  refine Yy rfl rfl rfl tg ?_
  refine WD.nil ?_
  refine AnyZ.one 9 (by kernel_rfl) rfl ?_
  refine OpZ.hcallT rfl rfl rfl rfl tg rfl (pr.fd (B' := [[.d (.int .i64 c.k), .d (.str c.n), .d (.str c.v), .d (.vec 4 (CT.ds c.l))]]) (R' := []) (M' := [tabD ft, tabD gt]) [] [] [0, 1] rfl) ?_
  refine AnyZ.eager 10 rfl (by kernel_rfl) (Eag.pureG tOk zOk rfl rfl (fun _ _ _ => rfl) tg (fun _ => rfl) rfl) ?_
  refine AnyZ.one 11 (by kernel_rfl) rfl ?_
  refine OpZ.d ?_
  refine D.pickAnd tOk zOk rfl rfl tg ?_
  refine WD.nil ?_
  refine AnyZ.eager 12 rfl (by kernel_rfl) (Eag.pure tOk zOk rfl (fun _ _ _ => rfl) rfl rfl) ?_
  refine AnyZ.nil (by kernel_rfl) ?_
  apply Yn
  apply Yt
  exact Yz rfl rfl rfl (by first | (simp; done) | (rw [hh]; simp; done))
 apply Yk
 apply Yn
 apply Ys
 apply Y1
 refine Yp rfl ?_
 refine S.call rfl rfl rfl rfl rfl (pc_listF fl hf.n hf.s) ?_
 refine Yp rfl ?_
 refine S.call rfl rfl rfl rfl rfl (pc_listE gl hg.n hg.s) ?_
 refine S.slice tOk rfl rfl ?_
 refine S.call rfl rfl rfl rfl rfl (pc_outref2_First [listE nameB fl, listE pathB gl] (by simp)) ?_
 iterate 5 first|refine Yp rfl ?_|apply Y3|apply Yn
 refine W.cond rfl (fun c7=>?_) fun c7=>?_
 ·skip
  have hh := hp_bad (fl := fl) (gl := gl) c2 (by assumption)
  iterate 12 first|refine S.pickAnd tOk zOk rfl rfl tg ?_|refine Yp rfl ?_|refine Yg rfl rfl tg ?_|apply Yu|apply Yt|apply Y1|apply Yn
  exact Yz rfl rfl rfl (by first | (simp; done) | (rw [hh]; simp; done))
 obtain ⟨hh, hz1, hz2⟩ := hp_good (fl := fl) (gl := gl) c2 (by assumption)
 have hf1 := stgL_of hf hz1
 have hg1 := stgL_of hg hz2
 have pr := pc_ref (tabOf fl) (tabOf gl) (tab_b hf1) (tab_b hg1) _ c (Nat.le_refl _) hT0
 rw [show tellT (tabOf fl) = valT fl from funext (tell_eq hf1.r), show tellT (tabOf gl) = valT gl from funext (tell_eq hg1.r)] at pr
 have pF1 := pc_Facts fl hf.n
 have pF2 := pc_Facts gl hg.n
 generalize tabOf fl = ft at pr pF1
 generalize tabOf gl = gt at pr pF2
 rw [hh]
 apply Yk
 apply Yn
 apply Ys
 refine W.keepR [(3, .one (.ptr 0 0)), (1, .one (.d (.vec 2 (fl.map stgD)))), (2, .one (.d (.vec 2 (gl.map stgD)))), (12, .one (.d (.bool (c.ho (valT fl) (valT gl))))), (13, .one (.d (.int .i64 0)))] [[.d (.int .i64 c.k), .d (.str c.n), .d (.str c.v), .d (.vec 4 (CT.ds c.l))]] [] [] [] [] [] ⟨rfl, rfl, rfl, rfl, rfl, trivial⟩ rfl ?_
 refine W.regionS 13 mixed rfl (by kernel_rfl) ?_
 refine AnyZ.eager 0 rfl (by kernel_rfl) (Eag.pure tOk zOk rfl (fun _ _ _ => rfl) rfl rfl) ?_
 refine AnyZ.eager 1 rfl (by kernel_rfl) (Eag.pure tOk zOk rfl (fun _ _ _ => rfl) rfl rfl) ?_
 refine AnyZ.eager 2 rfl (by kernel_rfl) (Eag.pure tOk zOk rfl (fun _ _ _ => rfl) rfl rfl) ?_
 refine AnyZ.eager 3 rfl (by kernel_rfl) (Eag.pureG tOk zOk rfl rfl (fun _ _ _ => rfl) tg (fun _ => rfl) rfl) ?_
 refine AnyZ.eager 5 rfl (by kernel_rfl) (Eag.pureG tOk zOk rfl rfl (fun _ _ _ => rfl) tg (fun _ => rfl) rfl) ?_
 refine AnyZ.eager 7 rfl (by kernel_rfl) (Eag.pureG tOk zOk rfl rfl (fun _ _ _ => rfl) tg (fun _ => rfl) rfl) ?_
 refine AnyZ.two 4 6 (by kernel_rfl) rfl rfl ?_ ?_
 ·skip
  refine OpZ.d ?_
  refine Yy rfl rfl rfl tg ?_
  refine WD.nil ?_
  refine AnyZ.one 6 (by kernel_rfl) rfl ?_
  refine OpZ.hcallT rfl rfl rfl rfl tg rfl (pF1.fd (B' := [[.d (.int .i64 c.k), .d (.str c.n), .d (.str c.v), .d (.vec 4 (CT.ds c.l))]]) (R' := []) (M' := [tabD ft]) [] [] [] rfl) ?_
  refine AnyZ.one 8 (by kernel_rfl) rfl ?_
  refine OpZ.hcallT rfl rfl rfl rfl tg rfl (pF2.frameD (Rv := .one (.map 1)) (B' := [[.d (.int .i64 c.k), .d (.str c.n), .d (.str c.v), .d (.vec 4 (CT.ds c.l))]]) (R' := []) (M' := [tabD ft, tabD gt]) [] [] [] rfl rfl rfl rfl rfl rfl rfl rfl rfl) ?_
  refine AnyZ.one 9 (by kernel_rfl) rfl ?_
  refine OpZ.hcallT rfl rfl rfl rfl tg rfl (pr.fd (B' := [[.d (.int .i64 c.k), .d (.str c.n), .d (.str c.v), .d (.vec 4 (CT.ds c.l))]]) (R' := []) (M' := [tabD ft, tabD gt]) [] [] [0, 1] rfl) ?_
  refine AnyZ.eager 10 rfl (by kernel_rfl) (Eag.pureG tOk zOk rfl rfl (fun _ _ _ => rfl) tg (fun _ => rfl) rfl) ?_
  refine AnyZ.one 11 (by kernel_rfl) rfl ?_
  refine OpZ.d ?_
  refine D.pickAnd tOk zOk rfl rfl tg ?_
  refine WD.nil ?_
  refine AnyZ.eager 12 rfl (by kernel_rfl) (Eag.pure tOk zOk rfl (fun _ _ _ => rfl) rfl rfl) ?_
  refine AnyZ.nil (by kernel_rfl) ?_
  apply Yn
  apply Yt
  exact Yz rfl rfl rfl (by first | (simp; done) | (rw [hh]; simp; done))
 refine OpZ.hcallT rfl rfl rfl rfl tg rfl (pF1.fd (B' := [[.d (.int .i64 c.k), .d (.str c.n), .d (.str c.v), .d (.vec 4 (CT.ds c.l))]]) (R' := []) (M' := [tabD ft]) [] [] [] rfl) ?_
 refine AnyZ.two 4 8 (by kernel_rfl) rfl rfl ?_ ?_
 ·skip
  refine OpZ.d ?_
  refine Yy rfl rfl rfl tg ?_
  refine WD.nil ?_
  refine AnyZ.one 8 (by kernel_rfl) rfl ?_
  refine OpZ.hcallT rfl rfl rfl rfl tg rfl (pF2.frameD (Rv := .one (.map 1)) (B' := [[.d (.int .i64 c.k), .d (.str c.n), .d (.str c.v), .d (.vec 4 (CT.ds c.l))]]) (R' := []) (M' := [tabD ft, tabD gt]) [] [] [] rfl rfl rfl rfl rfl rfl rfl rfl rfl) ?_
  refine AnyZ.one 9 (by kernel_rfl) rfl ?_
  refine OpZ.hcallT rfl rfl rfl rfl tg rfl (pr.fd (B' := [[.d (.int .i64 c.k), .d (.str c.n), .d (.str c.v), .d (.vec 4 (CT.ds c.l))]]) (R' := []) (M' := [tabD ft, tabD gt]) [] [] [0, 1] rfl) ?_
  refine AnyZ.eager 10 rfl (by kernel_rfl) (Eag.pureG tOk zOk rfl rfl (fun _ _ _ => rfl) tg (fun _ => rfl) rfl) ?_
  refine AnyZ.one 11 (by kernel_rfl) rfl ?_
  refine OpZ.d ?_
  refine D.pickAnd tOk zOk rfl rfl tg ?_
  refine WD.nil ?_
  refine AnyZ.eager 12 rfl (by kernel_rfl) (Eag.pure tOk zOk rfl (fun _ _ _ => rfl) rfl rfl) ?_
  refine AnyZ.nil (by kernel_rfl) ?_
  apply Yn
  apply Yt
  exact Yz rfl rfl rfl (by first | (simp; done) | (rw [hh]; simp; done))
 refine OpZ.hcallT rfl rfl rfl rfl tg rfl (pF2.frameD (Rv := .one (.map 1)) (B' := [[.d (.int .i64 c.k), .d (.str c.n), .d (.str c.v), .d (.vec 4 (CT.ds c.l))]]) (R' := []) (M' := [tabD ft, tabD gt]) [] [] [] rfl rfl rfl rfl rfl rfl rfl rfl rfl) ?_
 refine AnyZ.one 4 (by kernel_rfl) rfl ?_
 refine OpZ.d ?_
 refine Yy rfl rfl rfl tg ?_
 refine WD.nil ?_
 refine AnyZ.one 9 (by kernel_rfl) rfl ?_
 refine OpZ.hcallT rfl rfl rfl rfl tg rfl (pr.fd (B' := [[.d (.int .i64 c.k), .d (.str c.n), .d (.str c.v), .d (.vec 4 (CT.ds c.l))]]) (R' := []) (M' := [tabD ft, tabD gt]) [] [] [0, 1] rfl) ?_
 refine AnyZ.eager 10 rfl (by kernel_rfl) (Eag.pureG tOk zOk rfl rfl (fun _ _ _ => rfl) tg (fun _ => rfl) rfl) ?_
 refine AnyZ.one 11 (by kernel_rfl) rfl ?_
 refine OpZ.d ?_
 refine D.pickAnd tOk zOk rfl rfl tg ?_
 refine WD.nil ?_
 refine AnyZ.eager 12 rfl (by kernel_rfl) (Eag.pure tOk zOk rfl (fun _ _ _ => rfl) rfl rfl) ?_
 refine AnyZ.nil (by kernel_rfl) ?_
 apply Yn
 apply Yt
 exact Yz rfl rfl rfl (by first | (simp; done) | (rw [hh]; simp; done))
end
section
open Go Go.RowKit Go.ChangeShapes
def RDs (w : World) (cs : List Value) (ds : List D) : Prop :=
 cs.length = ds.length ∧ ∀ (i : Nat) (c : Value) (d : D), cs[i]? = some c → ds[i]? = some d → RD (fun b => b < w.heap.size) w d c
theorem RDs.one {w : World} {c : Value} {d : D} (h : RD (fun b => b < w.heap.size) w d c) : RDs w [c] [d] :=
 ⟨rfl, fun i a b h1 h2 => by
  match i with
  | 0 => simp at h1 h2; subst h1; subst h2; exact h
  | i + 1 => simp at h1⟩
theorem RDs.append {w : World} {a b : List Value} {x y : List D} (h1 : RDs w a x) (h2 : RDs w b y) : RDs w (a ++ b) (x ++ y) := by
  refine ⟨by simp [h1.1, h2.1], fun i c d hc hd => ?_⟩
  by_cases hi : i < a.length
  · rw [List.getElem?_append_left hi] at hc
    rw [List.getElem?_append_left (by rw [← h1.1]; exact hi)] at hd
    exact h1.2 i c d hc hd
  · rw [List.getElem?_append_right (by omega)] at hc
    rw [List.getElem?_append_right (by rw [← h1.1]; omega)] at hd
    rw [← h1.1] at hd
    exact h2.2 _ c d hc hd
structure Dec (P : Program) (t : TypeId) (α : Type) where
 ds : α → List D
 wf : Nat → α → Prop
 up : ∀ (m n : Nat) (x : α), m ≤ n → wf m x → wf n x
 lim : Nat → Bool
 wt : α → Nat
 ok : ∀ {H : Type} {enc : TypeId × Value → H} {w : World} {fuel : Nat} {cs : List Value} {d : DataW H} {ps : List MemPlace}, lim fuel = true → DataW.trod enc P w 0 (fun _ => true) true fuel t cs = some (d, ps) →
  ∃ x : α, RDs w cs (ds x) ∧ wf (Rows.uptoBulk d) x ∧ wt x ≤ Rows.uptoBulk d
theorem trod_int {H : Type} {enc : TypeId × Value → H} {P : Program} {w : World} {fuel : Nat} {t : TypeId} {cs : List Value} {x : DataW H × List MemPlace} {k : IntKind} (ht : P.underlying t = some (.int k)) (h : DataW.trod enc P w 0 (fun _ => true) true fuel t cs = some x) :
    ∃ n, cs = [.int k n] ∧ (Lit.int k n).wf = true := by
  cases fuel with
  | zero => simp [DataW.trod] at h
  | succ fuel =>
    unfold DataW.trod at h
    rw [ht] at h
    split at h <;> first
      | (rename_i k1 k2 n he1 he2
         simp only [Option.some.injEq, TypeDesc.int.injEq] at he1
         subst he1
         split at h
         · rename_i hk; exact ⟨n, by rw [hk.1], hk.2⟩
         · cases h)
      | (simp_all; done)
theorem trod_str {H : Type} {enc : TypeId × Value → H} {P : Program} {w : World} {fuel : Nat} {t : TypeId} {cs : List Value} {x : DataW H × List MemPlace} (ht : P.underlying t = some .string) (h : DataW.trod enc P w 0 (fun _ => true) true fuel t cs = some x) :
    ∃ s : ByteArray, cs = [.string s] ∧ x.1 = .lit (.string s.data.toList) := by
  cases fuel with
  | zero => simp [DataW.trod] at h
  | succ fuel =>
    unfold DataW.trod at h
    rw [ht] at h
    split at h <;> first
      | (split at h
         · cases h; exact ⟨_, rfl, rfl⟩
         · cases h)
      | (simp_all; done)
def Dec.int {P : Program} {t : TypeId} (k : IntKind) (ht : P.underlying t = some (.int k)) : Dec P t Int where
 ds n := [.int k n]
 wf _ n := (Lit.int k n).wf = true
 up _ _ _ _ h := h
 lim _ := true
 wt _ := 0
 ok _ h := by
  obtain ⟨n, rfl, hw⟩ := trod_int ht h
  exact ⟨n, .one (.int _ _), hw, Nat.zero_le _⟩
def Dec.str {P : Program} {t : TypeId} (ht : P.underlying t = some .string) : Dec P t (List UInt8) where
 ds s := [.str s]
 wf N s := s.length < N
 up _ _ _ h1 h := Nat.lt_of_lt_of_le h h1
 lim _ := true
 wt _ := 0
 ok _ h := by
  obtain ⟨s, rfl, hx⟩ := trod_str ht h
  refine ⟨s.data.toList, .one (.str s.data.toList), ?_, Nat.zero_le _⟩
  simp only at hx
  rw [hx]
  simp [Rows.uptoBulk]
theorem mapM_len {α β : Type} {f : α → Option β} : ∀ {l : List α} {r : List β}, l.mapM f = some r → r.length = l.length
  | [], r, h => by simp at h; subst h; rfl
  | a :: l, r, h => by
    simp only [List.mapM_cons, Option.bind_eq_bind, Option.bind_eq_some_iff, Option.pure_def, Option.some.injEq] at h
    obtain ⟨b, hb, r', hr', rfl⟩ := h
    simp [mapM_len hr']
structure DecF (P : Program) (fs : List Field) (off tot : Nat) (α : Type) where
 ds : α → List D
 wf : Nat → α → Prop
 up : ∀ (m n : Nat) (x : α), m ≤ n → wf m x → wf n x
 lim : Nat → Bool
 wt : α → Nat
 ok : ∀ {H : Type} {enc : TypeId × Value → H} {w : World} {fuel : Nat} {cs : List Value} {xs : List (DataW H × List MemPlace)}, lim fuel = true → cs.length = tot →
  fs.mapM (fun f => DataW.trod enc P w 0 (fun _ => true) true fuel f.type ((cs.drop f.offset).take (P.cellsOf f.type))) = some xs →
  ∃ x : α, RDs w (cs.drop off) (ds x) ∧ wf (Rows.uptoBulkAll (xs.map (·.1))) x ∧ wt x ≤ Rows.uptoBulkAll (xs.map (·.1))
def DecF.nil {P : Program} (tot : Nat) : DecF P [] tot tot Unit where
 ds _ := []
 wf _ _ := True
 up _ _ _ _ h := h
 lim _ := true
 wt _ := 0
 ok _ hl h := ⟨(), ⟨by simp [hl], fun i c d h1 h2 => by simp at h2⟩, trivial, Nat.zero_le _⟩
def DecF.cons {P : Program} {f : Field} {fs : List Field} {off tot n : Nat} {α β : Type} (de : Dec P f.type α) (ho : f.offset = off) (hn : P.cellsOf f.type = n) (r : DecF P fs (off + n) tot β) : DecF P (f :: fs) off tot (α × β) where
 ds x := de.ds x.1 ++ r.ds x.2
 wf N x := de.wf N x.1 ∧ r.wf N x.2
 up m n x h hx := ⟨de.up m n x.1 h hx.1, r.up m n x.2 h hx.2⟩
 lim f := de.lim f && r.lim f
 wt x := de.wt x.1 + r.wt x.2
 ok {H enc w fuel cs xs} hq hl h := by
  have hq := Bool.and_eq_true_iff.1 hq
  simp only [List.mapM_cons, Option.bind_eq_bind, Option.bind_eq_some_iff, Option.pure_def, Option.some.injEq] at h
  obtain ⟨b, hb, r', hr', rfl⟩ := h
  obtain ⟨x, h1, h2, h5⟩ := de.ok (d := b.1) (ps := b.2) hq.1 hb
  obtain ⟨y, h3, h4, h6⟩ := r.ok hq.2 hl hr'
  refine ⟨(x, y), ?_, ⟨de.up _ _ _ ?_ h2, r.up _ _ _ ?_ h4⟩, ?_⟩
  ·skip
   have e : cs.drop off = (cs.drop f.offset).take (P.cellsOf f.type) ++ cs.drop (off + n) := by
    rw [ho, hn, ← List.drop_drop, List.take_append_drop]
   rw [e]; exact h1.append h3
  ·skip
   simp only [List.map_cons, Rows.uptoBulkAll]; omega
  ·skip
   simp only [List.map_cons, Rows.uptoBulkAll]; omega
  ·skip
   simp only [List.map_cons, Rows.uptoBulkAll]; omega
def Dec.struct {P : Program} {t : TypeId} {fs : Array Field} {tot : Nat} {α : Type} (ht : P.underlying t = some (.struct fs)) (hc : P.cellsOf t = tot) (r : DecF P fs.toList 0 tot α) : Dec P t α where
  ds := r.ds
  wf := r.wf
  up := r.up
  lim f := r.lim (f - 1)
  wt x := r.wt x + 1
  ok {H enc w fuel cs d ps} hq h := by
    cases fuel with
    | zero => simp [DataW.trod] at h
    | succ fuel =>
      unfold DataW.trod at h
      rw [ht] at h
      split at h <;> first
        | (rename_i he1
           simp only [Option.some.injEq, TypeDesc.struct.injEq] at he1
           subst he1
           split at h
           · rename_i hl
             simp only [Option.map_eq_some_iff] at h
             obtain ⟨xs, hx, he⟩ := h
             obtain ⟨x, h1, h2, h3⟩ := r.ok hq (hl.trans hc) hx
             cases he
             exact ⟨x, h1, r.up _ _ _ (by simp only [Rows.uptoBulk]; omega) h2, by simp only [Rows.uptoBulk]; omega⟩
           · cases h)
        | (simp_all; done)
def Dec.iso {P : Program} {t : TypeId} {α β : Type} (d : Dec P t α) (f : α → β) (ds : β → List D) (wf : Nat → β → Prop) (up : ∀ (m n : Nat) (x : β), m ≤ n → wf m x → wf n x) (hd : ∀ a, d.ds a = ds (f a)) (hw : ∀ N a, d.wf N a → d.wt a ≤ N → wf N (f a)) (wt : β → Nat := fun _ => 0) (hwt : ∀ a, wt (f a) ≤ d.wt a := by intro _; exact Nat.zero_le _) : Dec P t β where
  ds := ds
  wf := wf
  up := up
  lim := d.lim
  wt := wt
  ok hq h := by
    obtain ⟨x, h1, h2, h3⟩ := d.ok hq h
    exact ⟨f x, hd x ▸ h1, hw _ _ h2 h3, Nat.le_trans (hwt x) h3⟩
theorem choose_list {α : Type} {Q : Nat → α → Prop} : ∀ (n : Nat), (∀ i, i < n → ∃ x, Q i x) → ∃ xs : List α, xs.length = n ∧ ∀ i x, xs[i]? = some x → Q i x
  | 0, _ => ⟨[], rfl, fun i x h => by simp at h⟩
  | n + 1, h => by
    obtain ⟨xs, h1, h2⟩ := choose_list n (fun i hi => h i (by omega))
    obtain ⟨x, hx⟩ := h n (by omega)
    refine ⟨xs ++ [x], by simp [h1], fun i y hy => ?_⟩
    by_cases hi : i < xs.length
    · rw [List.getElem?_append_left hi] at hy; exact h2 i y hy
    · rw [List.getElem?_append_right (by omega)] at hy
      have e : i = n := by
        apply Decidable.byContradiction; intro hne
        rw [List.getElem?_eq_none (by simp; omega)] at hy; cases hy
      subst e
      rw [h1] at hy
      simp at hy; subst hy; exact hx
theorem cells_at {w : World} {a : Addr} {n : Nat} {cs : List Value} (h : w.cells? 0 a n = some cs) : cs.length = n ∧ ∀ j, j < n → w.cell? (a.add j) = cs[j]? := by
 unfold World.cells? at h
 rw [if_pos (Nat.zero_le _)] at h
 have hl := mapM_len h
 simp at hl
 refine ⟨hl, fun j hj => ?_⟩
 obtain ⟨b, h1, h2⟩ := Lib.mapM_at h j j (by simp [hj])
 rw [h1, h2]
theorem spot_none {w : World} {a : Addr} {v : Value} (h : w.cell? a = some v) : a.spot = none := by
 unfold World.cell? at h
 split at h
 ·skip
  split at h
  ·skip
   cases h
  ·skip
   rename_i hs; simpa using hs
 ·skip
  cases h
theorem bulk_mem {H : Type} {x : DataW H} : ∀ {l : List (DataW H)}, x ∈ l → Rows.uptoBulk x ≤ Rows.uptoBulkAll l
  | [], h => by cases h
  | a :: l, h => by
    simp only [Rows.uptoBulkAll]
    rcases List.mem_cons.1 h with rfl | h
    · omega
    · have := bulk_mem h; omega
theorem bulk_pos {H : Type} (d : DataW H) : 1 ≤ Rows.uptoBulk d := by
 cases d with
 | lit l => cases l <;> simp [Rows.uptoBulk]
 | _ => simp [Rows.uptoBulk]
theorem bulk_len {H : Type} : ∀ (l : List (DataW H)), l.length ≤ Rows.uptoBulkAll l
  | [] => by simp
  | a :: l => by
    have h1 := bulk_pos a
    have h2 := bulk_len l
    simp only [Rows.uptoBulkAll, List.length_cons]; omega
theorem bulk_sum {H : Type} {α : Type} {f : α → Nat} : ∀ {xs : List α} {l : List (DataW H)}, xs.length = l.length → (∀ (i : Nat) (x : α) (d : DataW H), xs[i]? = some x → l[i]? = some d → f x ≤ Rows.uptoBulk d) → (xs.map f).sum ≤ Rows.uptoBulkAll l
  | [], l, _, _ => Nat.zero_le _
  | x :: xs, [], h, _ => by simp at h
  | x :: xs, d :: l, h, hx => by
    have h1 := hx 0 x d rfl rfl
    have h2 := bulk_sum (f := f) (xs := xs) (l := l) (by simpa using h) (fun i y e h3 h4 => hx (i + 1) y e h3 h4)
    simp only [List.map_cons, List.sum_cons, Rows.uptoBulkAll]; omega
def Dec.slice {P : Program} {t e : TypeId} {sz : Nat} {α : Type} (ht : P.underlying t = some (.slice e)) (hc : P.cellsOf e = sz) (h0 : 0 < sz) (de : Dec P e α) : Dec P t (List α) where
  ds xs := [.vec sz (xs.map de.ds)]
  wf N xs := xs.length < N ∧ ∀ x ∈ xs, de.wf N x
  up m n xs h hx := ⟨by omega, fun x hm => de.up m n x h (hx.2 x hm)⟩
  lim f := de.lim (f - 1)
  wt xs := (xs.map de.wt).sum
  ok {H enc w fuel cs d ps} hq h := by
    rcases DataW.trod_slice ht h with h1 | ⟨a, len, cap, elems, rest, n, hfu, rfl, hx, hb, hl, hm, hlen, hel, hsp, hns⟩
    · obtain ⟨rfl, h2⟩ := h1
      cases h2
      exact ⟨[], .one (.empty _ _ _), ⟨by simp [Rows.uptoBulk], by simp⟩, Nat.zero_le _⟩
    · have key : ∀ i, i < len → ∃ x, ∃ cs' : List Value, ∃ y, elems[i]? = some y ∧ w.cells? 0 (a.add (i * sz)) sz = some cs' ∧ RDs w cs' (de.ds x) ∧ de.wf (Rows.uptoBulk y.1) x ∧ de.wt x ≤ Rows.uptoBulk y.1 := fun i hi => by
        have h1 := hel i hi
        have h2 : elems[i]? = some (elems[i]'(by omega)) := List.getElem?_eq_getElem _
        rw [h2, hc, Option.bind_eq_some_iff] at h1
        obtain ⟨cs', h3, h4⟩ := h1
        obtain ⟨x, h5, h6, h7⟩ := de.ok (d := (elems[i]'(by omega)).1) (ps := (elems[i]'(by omega)).2) (by have := hq; rw [hfu] at this; exact this) h4
        exact ⟨x, cs', _, h2, h3, h5, h6, h7⟩
      obtain ⟨xs, hxl, hxs⟩ := choose_list len key
      cases hx
      refine ⟨xs, .one ?_, ⟨?_, fun x hx => ?_⟩, ?_⟩
      · by_cases hne : xs = []
        · subst hne
          simp at hxl
          rw [← hxl]
          exact .empty _ _ _
        · have hpos : 0 < len := by
            cases xs with
            | nil => exact absurd rfl hne
            | cons x l => rw [← hxl]; simp
          have hs : a.spot = none := by
            obtain ⟨x, cs', y, _, h3, _⟩ := key 0 hpos
            obtain ⟨h4, h5⟩ := cells_at h3
            have h6 := h5 0 h0
            have h7 : cs'[0]? = some (cs'[0]'(by omega)) := List.getElem?_eq_getElem _
            rw [h7] at h6
            simp only [Addr.add, Nat.zero_mul, if_true] at h6
            exact spot_none h6
          have hadd : ∀ i j, (a.add (i * sz)).add j = ⟨a.block, a.off + i * sz + j, none⟩ := fun i j => by
            cases a with
            | mk b o s =>
              simp only at hs; subst hs
              unfold Addr.add
              by_cases h1 : i * sz = 0 <;> by_cases h2 : j = 0 <;> simp [h1, h2]
          have hat : ∀ (i j : Nat) (x : List D) (d : D), (xs.map de.ds)[i]? = some x → x[j]? = some d → ∃ v, w.cell? ⟨a.block, a.off + i * sz + j, none⟩ = some v ∧ RD (fun b => b < w.heap.size) w d v := fun i j x d h1 h2 => by
            simp only [List.getElem?_map, Option.map_eq_some_iff] at h1
            obtain ⟨x', h1, rfl⟩ := h1
            obtain ⟨cs', y, _, h3, h4, _⟩ := hxs i x' h1
            obtain ⟨h5, h6⟩ := cells_at h3
            have hj : j < sz := by
              have := (List.getElem?_eq_some_iff.1 h2).1
              rw [← h4.1, h5] at this; exact this
            have h7 : cs'[j]? = some (cs'[j]'(by omega)) := List.getElem?_eq_getElem _
            have h8 := h6 j hj
            rw [hadd, h7] at h8
            exact ⟨_, h8, h4.2 j _ d h7 h2⟩
          have hal : a = ⟨a.block, a.off, none⟩ := by cases a; simp only at hs; subst hs; rfl
          have hlen' : len = (xs.map de.ds).length := by simp [hxl]
          rw [hal, hlen']
          refine RD.vec sz (xs.map de.ds) a.block a.off cap (fun i j => (w.cell? ⟨a.block, a.off + i * sz + j, none⟩).getD undef) (by simpa using hne) (by rw [← hlen']; exact hl) ?_ ?_ ?_ ?_
          · obtain ⟨x, cs', y, _, h3, _⟩ := key 0 hpos
            obtain ⟨h4, h5⟩ := cells_at h3
            have h6 := h5 0 h0
            have h7 : cs'[0]? = some (cs'[0]'(by omega)) := List.getElem?_eq_getElem _
            rw [h7, hadd] at h6
            apply Decidable.byContradiction; intro hn
            unfold World.cell? at h6
            rw [Array.getElem?_eq_none (by simp only at hn ⊢; omega)] at h6
            cases h6
          · intro x hx
            simp only [List.mem_map] at hx
            obtain ⟨x', hx', rfl⟩ := hx
            obtain ⟨i, hi⟩ := List.getElem?_of_mem hx'
            obtain ⟨cs', y, _, h3, h4, _⟩ := hxs i x' hi
            rw [← h4.1]; exact (cells_at h3).1
          · intro i j x d h1 h2
            obtain ⟨v, h3, _⟩ := hat i j x d h1 h2
            rw [h3]; rfl
          · intro i j x d h1 h2
            obtain ⟨v, h3, h4⟩ := hat i j x d h1 h2
            simp only [h3, Option.getD_some]; exact h4
      · have h1 := bulk_len (elems.map (·.1))
        simp only [Rows.uptoBulk, List.length_map] at h1 ⊢; omega
      · obtain ⟨i, hi⟩ := List.getElem?_of_mem hx
        obtain ⟨cs', y, h2, _, _, h4, _⟩ := hxs i x hi
        refine de.up _ _ _ ?_ h4
        have := bulk_mem (x := y.1) (l := elems.map (·.1)) (List.mem_map.2 ⟨y, List.mem_of_getElem? h2, rfl⟩)
        simp only [Rows.uptoBulk]; omega
      · have := bulk_sum (f := de.wt) (xs := xs) (l := elems.map (·.1)) (by simp; omega) (fun i x d h1 h2 => by
          obtain ⟨cs', y, h3, _, _, _, h4⟩ := hxs i x h1
          rw [List.getElem?_map, h3] at h2
          cases h2; exact h4)
        simp only [Rows.uptoBulk]; omega
end
section
open Go Go.RowKit Go.ChangeShapes Go.WideShapes Go.ChangeAt
theorem Below.trodAll {H : Type} {enc : TypeId × Value → H} {P : Program} (hl : laidOutB P = true) {W W' : World} (hb : Below W.heap.size W W') : ∀ {ts : List TypeId} {vs : List Value} {ds : List (DataW H)} {ps : List MemPlace},
    ts.all (fun t => P.readableRec t && decide (t < P.types.size)) = true → DataW.TrodAll enc P W 0 (fun _ => true) true ts vs ds ps → (∀ x ∈ ps, x.block < W.heap.size) → DataW.TrodAll enc P W' 0 (fun b => decide (b < W.heap.size)) true ts vs ds ps
  | [], [], [], _, _, h, _ => h
  | [], [], _ :: _, _, _, h, _ => h.elim
  | [], _ :: _, _, _, _, h, _ => h.elim
  | _ :: _, [], _, _, _, h, _ => h.elim
  | _ :: _, _ :: _, [], _, _, h, _ => h.elim
  | t :: ts, v :: vs, d :: ds, ps, ha, h, hp => by
    simp only [List.all_cons, Bool.and_eq_true, decide_eq_true_eq] at ha
    obtain ⟨p, q, h1, h2, rfl⟩ := h
    exact ⟨p, q, Below.trod hl ha.1.1 ha.1.2 h1 hb (fun x hx => hp x (List.mem_append.2 (.inl hx))), Below.trodAll hl hb (by simpa using ha.2) h2 (fun x hx => hp x (List.mem_append.2 (.inr hx))), rfl⟩
theorem law_post {P : Program} {J : Inv} {f : FuncId} {fn : Func} {s : ChangeSpec} {tb : TypeId} (hl : laidOutB P = true) (hts : fn.params.toList.all (fun t => P.readableRec t && decide (t < P.types.size)) = true)
  (hv : s.vars = []) (hres : fn.resultTypes = #[tb]) (htb : P.underlying tb = some .bool) {H : Type} {enc : TypeId × Value → H} {W : World} {args : Array Value} {ds gs : List (DataW H)} {before : List MemPlace}
  (hW : DataW.Whole enc P fn.params.toList s.vars false W args.toList ds gs before) (hs : (s.fn H (ds ++ gs)).results = [.lit (.bool true)] ∧ (s.fn H (ds ++ gs)).args = ds ∧ (s.fn H (ds ++ gs)).vars = [])
  {us : List V} (pc : PureCall P J f us (.one (.d (.bool true)))) (hJ : J.I W) (hn : args.size = us.length) (hx : ∀ (i : Nat) (u : V) (v : Value), us[i]? = some u → args[i]? = some v → RV (noGh fun b => b < W.heap.size) noSh W u v) :
  Calls P f args W fun e W' => ∃ v, e = .returned v ∧ s.post enc P fn false true false false W args v W' := by
 have h := pc.calls (fun b => b < W.heap.size) W args.toList hJ (fun b hb => hb) (by simpa using hn) (fun i u v h1 h2 => hx i u v h1 (by simpa using h2))
 have h' : Calls P f args W _ := h
 refine h'.mono fun e W' ⟨v, im', he, hB, _, _, _, hr⟩ => ⟨v, he, ?_⟩
 obtain rfl : v = .bool true := by
  cases hr with | one _ _ h => cases h with | d _ _ h => cases h with | bool => rfl
 have hlt : ∀ x ∈ before, x.block < W.heap.size := fun x hx => by simpa using hW.lt x hx
 have hW' := hW
 obtain ⟨p, q, hA, hV, rfl, _, _⟩ := hW
 rw [hv] at hV
 have hgs : gs = [] ∧ q = [] := by
  cases gs with
  | nil => exact ⟨rfl, hV⟩
  | cons g gs => exact hV.elim
 obtain ⟨rfl, rfl⟩ := hgs
 refine ⟨ds, [], p ++ [], [], p, [], hW', ?_, ?_, ?_, hB.frame _, fun h => by cases h⟩
 ·skip
  rw [hs.1, hres]
  exact trodAll_cons_mk (shut_bool htb true) trodAll_mk0
 ·skip
  rw [hs.2.1]
  exact Below.trodAll hl hB hts hA (fun x hx => hlt x (by simp [hx]))
 ·skip
  rw [hs.2.2, hv]; rfl
theorem arg_agg {P : Program} {t : TypeId} {α : Type} (de : Dec P t α) {W : World} {r : Reach} {base : Nat} {v : Value} (ht : (match P.underlying t with | some (.struct _) | some (.array _ _) => true | _ => false) = true) (hv : Value.okWide P W r base t v)
    {H : Type} {enc : TypeId × Value → H} {d : DataW H} {ps : List MemPlace} (h : DataW.Trod enc P W 0 (fun _ => true) true t v d ps) (hlim : ∀ f, de.lim f = true := by intro _; rfl) : ∃ x : α, RV (noGh fun b => b < W.heap.size) noSh W (.agg ((de.ds x).map .d)) v ∧ de.wf (Rows.uptoBulk d) x := by
  obtain ⟨fuel, h⟩ := h
  obtain ⟨x, h1, h2, _⟩ := de.ok (hlim _) h
  refine ⟨x, ?_, h2⟩
  have hc : ∃ cs, v = .agg cs := by
    unfold Value.okWide at hv
    split at hv
    · exact ⟨_, hv.choose_spec.1⟩
    · exact ⟨_, hv.choose_spec.1⟩
    · rename_i h3 h4
      split at ht
      · rename_i fs h5; exact absurd h5 (h3 _)
      · rename_i n e h5; exact absurd h5 (h4 _ _)
      · cases ht
  obtain ⟨cs, rfl⟩ := hc
  have h3 : RDs W cs.toList (de.ds x) := h1
  have := RV.agg (g := noGh fun b => b < W.heap.size) (h := noSh) (w := W) ((de.ds x).map .d) cs.toList (by simp [h3.1]) (fun i c v hc hv => by
    simp only [List.getElem?_map, Option.map_eq_some_iff] at hc
    obtain ⟨d, hd, rfl⟩ := hc
    exact .d _ _ (h3.2 i v d hv hd))
  simpa using this
theorem arg_one {P : Program} {t : TypeId} {α : Type} (de : Dec P t α) {W : World} {r : Reach} {base : Nat} {v : Value} (ht : (match P.underlying t with | some .bool | some (.int _) | some .string | some (.slice _) | some (.pointer _) | some (.map _ _) => true | _ => false) = true) (hv : Value.okWide P W r base t v)
    {H : Type} {enc : TypeId × Value → H} {d : DataW H} {ps : List MemPlace} (h : DataW.Trod enc P W 0 (fun _ => true) true t v d ps) (hlim : ∀ f, de.lim f = true := by intro _; rfl) : ∃ x : α, (∀ e, de.ds x = [e] → RV (noGh fun b => b < W.heap.size) noSh W (.one (.d e)) v) ∧ de.wf (Rows.uptoBulk d) x := by
  obtain ⟨fuel, h⟩ := h
  obtain ⟨x, h1, h2, _⟩ := de.ok (hlim _) h
  refine ⟨x, fun e he => ?_, h2⟩
  have hc : v.cells.toList = [v] := by
    cases v with
    | agg cs =>
      exfalso
      unfold Value.okWide Cell.okWide Cell.ok at hv
      split at ht <;> simp_all
    | _ => rfl
  rw [hc, he] at h1
  exact .one _ _ (.d _ _ (h1.2 0 v e rfl rfl))
end
section
open Go Go.RowKit Go.ChangeShapes Go.WideShapes Go.ChangeAt
theorem trod_iface {H : Type} {enc : TypeId × Value → H} {P : Program} {w : World} {fuel : Nat} {t : TypeId} {cs : List Value} {nm : String} {x : DataW H} {p : List MemPlace} {ms : Array (String × TypeId)} (ht : P.underlying t = some (.interface ms))
  (h : DataW.trod enc P w 0 (fun _ => true) false fuel t cs = some (.iface nm x, p)) : ∃ u v, cs = [.iface u v] := by
 cases fuel with
 | zero => simp [DataW.trod] at h
 | succ fuel =>
  unfold DataW.trod at h
  rw [ht] at h
  split at h <;> first
   | exact ⟨_, _, rfl⟩
   | (simp_all; done)
theorem err_of {P : Program} {W : World} {n : String} {nm : String} {d : DataW Unit} {g : Nat} {t : TypeId} {ms : Array (String × TypeId)} (hg : P.globalNamed n = some g) (hty : (P.globals[g]?).map (·.type) = some t) (ht : P.underlying t = some (.interface ms))
  (h : Lib.VarReads P W n (.iface nm d)) : ∃ t p, W.var? P n = some #[.iface t p] := by
 obtain ⟨g', t', cs, fuel, p, hg', ht', hvar, hd⟩ := h
 obtain rfl := Option.some.inj (hg.symm.trans hg')
 obtain rfl := Option.some.inj (hty.symm.trans ht')
 obtain ⟨u, v, hc⟩ := trod_iface ht hd
 exact ⟨u, v, by rw [hvar]; congr 1; exact Array.ext' (by simpa using hc)⟩
theorem pow_of {W : World} (h : Lib.VarReads Tryz.prog W "internal/strconv.uint64pow10" Rows.laid_internal_strconv_uint64pow10) : Lib.TabIs Tryz.prog W "internal/strconv.uint64pow10" .u64 Lib.pow10Tab := by
 obtain ⟨g', t', cs, fuel, p, hg', ht', hvar, hd⟩ := h
 obtain rfl := Option.some.inj ((show Tryz.prog.globalNamed "internal/strconv.uint64pow10" = some 5 by kernel_rfl).symm.trans hg')
 obtain rfl := Option.some.inj ((show (Tryz.prog.globals[5]?).map (·.type) = some 278 by kernel_rfl).symm.trans ht')
 unfold Lib.TabIs
 rw [hvar, ← Lib.cells_of_tab (k := .u64) (zs := Lib.pow10Tab) Tryz.underlying278 Tryz.underlying182 (by kernel_rfl) (by kernel_rfl) hd]
theorem db_of {W : World} (h : Lib.VarReads Tryz.prog W "math/bits.deBruijn64tab" Rows.laid_math_bits_deBruijn64tab) : Lib.TabIs Tryz.prog W "math/bits.deBruijn64tab" .u8 (List.map (fun n : Nat => (n : Int)) Lib.deBruijn64tab) := by
 obtain ⟨g', t', cs, fuel, p, hg', ht', hvar, hd⟩ := h
 obtain rfl := Option.some.inj ((show Tryz.prog.globalNamed "math/bits.deBruijn64tab" = some 7 by kernel_rfl).symm.trans hg')
 obtain rfl := Option.some.inj ((show (Tryz.prog.globals[7]?).map (·.type) = some 308 by kernel_rfl).symm.trans ht')
 unfold Lib.TabIs
 rw [hvar, ← Lib.cells_of_tab (k := .u8) (zs := List.map (fun n : Nat => (n : Int)) Lib.deBruijn64tab) Tryz.underlying308 Tryz.underlying5 (by kernel_rfl) (by kernel_rfl) hd]
theorem base_of {W : World} {l : List (String × DataW Unit)} (hl : laidMet Tryz.prog l W) (h1 : ("internal/strconv.uint64pow10", Rows.laid_internal_strconv_uint64pow10) ∈ l) (h2 : ("strconv.ErrSyntax", Rows.laid_strconv_ErrSyntax) ∈ l)
  (h3 : ("strconv.ErrRange", Rows.laid_strconv_ErrRange) ∈ l) (h4 : ("math/bits.deBruijn64tab", Rows.laid_math_bits_deBruijn64tab) ∈ l) (hS : W.ShapedOpen Tryz.prog) : J.I W where
 max := cell_of_shapedOpen_int (t := 3) (zero := #[.int .i64 0]) hS (of_decide_eq_true (by kernel_rfl)) (by kernel_rfl) rfl (by kernel_rfl) (by kernel_rfl) Tryz.underlying3
 pow := pow_of (Lib.laidMet.reads hl h1)
 esyn := err_of (g := 3) (by kernel_rfl) (by kernel_rfl) Tryz.underlying126 (Lib.laidMet.reads hl h2)
 eran := err_of (g := 4) (by kernel_rfl) (by kernel_rfl) Tryz.underlying126 (Lib.laidMet.reads hl h3)
 db := db_of (Lib.laidMet.reads hl h4)
mutual
def dcells : DataW Unit → List Value
  | .lit (.int k n) => [.int k n]
  | .agg ds => dcellsL ds
  | _ => []
def dcellsL : List (DataW Unit) → List Value
  | [] => []
  | d :: ds => dcells d ++ dcellsL ds
end
def putCs (cs : List Value) : Obj → Obj
 | .cells _ t fr => .cells cs.toArray t fr
 | o => o
def errText : DataW Unit → ByteArray
 | .iface _ (.ptr (.agg [.lit (.string s)])) => ⟨s.toArray⟩
 | _ => ByteArray.empty
def errCell (b : Nat) : List Value := [.iface 295 (.pointer (some ⟨b, 0, none⟩))]
noncomputable def laidWorld (os : Os) : World :=
 { World.holding Tryz.prog os ⟨#[], #[], []⟩ with heap :=
  let h := (World.holding Tryz.prog os ⟨#[], #[], []⟩).heap
  let h := h.modify 5 (putCs (dcells Rows.laid_internal_strconv_uint64pow10))
  let h := h.modify 1 (putCs (dcells Rows.laid_unicode_utf8_first))
  let h := h.modify 2 (putCs (dcells Rows.laid_unicode_utf8_acceptRanges))
  let h := h.modify 6 (putCs (dcells Rows.laid_math_bits_deBruijn32tab))
  let h := h.modify 7 (putCs (dcells Rows.laid_math_bits_deBruijn64tab))
  let n := h.size
  let h := h.modify 3 (putCs (errCell n))
  let h := h.modify 4 (putCs (errCell (n + 1)))
  (h.push (.cells #[.string (errText Rows.laid_strconv_ErrSyntax)] 297 (0, 0))).push (.cells #[.string (errText Rows.laid_strconv_ErrRange)] 297 (0, 0)) }
end
end Go.Proofs.YtfcdmcdhhikhaaaGreatDoor
namespace Go.Proofs.YtfcdmcdhhikhaaaGreatDoor
section
open Go Go.RowKit
noncomputable def decStg : Dec Tryz.prog 97 Stg :=
  Dec.iso (Dec.struct Tryz.underlying97 (tot := 2) (by kernel_rfl)
    (DecF.cons (Dec.str Tryz.underlying9) rfl (n := 1) (by kernel_rfl) (DecF.cons (Dec.str Tryz.underlying9) rfl (n := 1) (by kernel_rfl) (DecF.nil 2))))
    (fun x => (⟨x.1, x.2.1⟩ : Stg)) stgD (fun N s => s.k.length < N ∧ s.v.length < N) (fun m n v h hv => ⟨Nat.lt_of_lt_of_le hv.1 h, Nat.lt_of_lt_of_le hv.2 h⟩) (fun _ => rfl)
    (fun N x hx _ => ⟨hx.1, hx.2.1⟩)
end
section
open Go Go.RowKit
noncomputable def Dec.strW {P : Program} {t : TypeId} (ht : P.underlying t = some .string) : Dec P t (List UInt8) where
 ds s := [.str s]
 wf N s := s.length < N
 up _ _ _ h1 h := Nat.lt_of_lt_of_le h h1
 lim _ := true
 wt s := s.length
 ok _ h := by
  obtain ⟨s, rfl, hx⟩ := trod_str ht h
  simp only at hx
  refine ⟨s.data.toList, .one (.str s.data.toList), ?_, ?_⟩
  ·skip
   rw [hx]; simp [Rows.uptoBulk]
  ·skip
   rw [hx]; simp [Rows.uptoBulk]
mutual
def CT.by : CT → Nat
  | .mk k n v l => n.length + v.length + CT.bys l + 1
def CT.bys : List CT → Nat
  | [] => 0
  | c :: l => c.by + CT.bys l
end
theorem bys_sum : ∀ (l : List CT), CT.bys l = (l.map CT.by).sum
  | [] => rfl
  | c :: l => by
    show c.by + CT.bys l = _
    rw [bys_sum l]; rfl
inductive CtI (N : Nat) : CT → Prop where
 | mk (k : Int) (n v : List UInt8) (l : List CT) (h1 : n.length < N) (h2 : v.length < N) (h3 : ∀ a ∈ l, CtI N a) (h4 : l.length < N) : CtI N (.mk k n v l)
theorem CtI.up {m n : Nat} (h : m ≤ n) : ∀ {c : CT}, CtI m c → CtI n c := fun hc => by
 induction hc with
 | mk k nn v l h1 h2 h3 h4 ih => exact .mk k nn v l (by omega) (by omega) ih (by omega)
theorem CtI.sm {N : Nat} (hN : N ≤ 1048576) : ∀ {c : CT}, CtI N c → CtSm c := fun hc => by
 induction hc with
 | mk k nn v l h1 h2 h3 h4 ih => exact .mk k nn v l (by omega) (by omega) (by omega) ih
def CtWb (N : Nat) (c : CT) : Prop := CtI N c ∧ c.by ≤ N
theorem CtWb.up {m n : Nat} {c : CT} (h : m ≤ n) (hc : CtWb m c) : CtWb n c := ⟨CtI.up h hc.1, Nat.le_trans hc.2 h⟩
theorem condB : ∀ (n : Nat) {H : Type} {enc : TypeId × Value → H} {w : World} {fuel : Nat} {cs : List Value} {d : DataW H} {ps : List MemPlace}, fuel ≤ n → DataW.trod enc Tryz.prog w 0 (fun _ => true) true fuel 24 cs = some (d, ps) →
    ∃ x : CT, RDs w cs (CT.d x) ∧ CtWb (Rows.uptoBulk d) x ∧ x.by ≤ Rows.uptoBulk d
  | 0, H, enc, w, fuel, cs, d, ps, hf, h => by
    obtain rfl : fuel = 0 := by omega
    simp [DataW.trod] at h
  | n + 1, H, enc, w, fuel, cs, d, ps, hf, h => by
    let e : Dec Tryz.prog 24 CT := { ds := CT.d, wf := CtWb, up := fun _ _ _ h hx => CtWb.up h hx, lim := fun f => decide (f ≤ n), wt := CT.by, ok := fun hl h => condB n (of_decide_eq_true hl) h }
    let D0 := Dec.iso (Dec.struct Tryz.underlying24 (tot := 4) (by kernel_rfl)
      (DecF.cons (Dec.int .i64 Tryz.underlying3) rfl (n := 1) (by kernel_rfl) (DecF.cons (Dec.strW Tryz.underlying9) rfl (n := 1) (by kernel_rfl) (DecF.cons (Dec.strW Tryz.underlying9) rfl (n := 1) (by kernel_rfl)
        (DecF.cons (Dec.slice Tryz.underlying22 (sz := 4) (by kernel_rfl) (by decide) e) rfl (n := 1) (by kernel_rfl) (DecF.nil 4))))))
      (fun x => CT.mk x.1 x.2.1 x.2.2.1 x.2.2.2.1) CT.d CtWb (fun _ _ _ h hx => CtWb.up h hx) (fun x => by rw [ct_d]; show _ = [_, _, _, D.vec 4 (CT.ds x.2.2.2.1)]; rw [ds_map]; rfl)
      (fun N x hx hw => by
        obtain ⟨h1, h2, h3, h4, _⟩ := hx
        refine ⟨.mk _ _ _ _ h2 h3 (fun a ha => (h4.2 a ha).1) h4.1, ?_⟩
        show x.2.1.length + x.2.2.1.length + CT.bys x.2.2.2.1 + 1 ≤ N
        have hw : (0 + (x.2.1.length + (x.2.2.1.length + ((x.2.2.2.1.map CT.by).sum + 0)))) + 1 ≤ N := hw
        rw [bys_sum]; omega) CT.by (fun x => by
        show x.2.1.length + x.2.2.1.length + CT.bys x.2.2.2.1 + 1 ≤ (0 + (x.2.1.length + (x.2.2.1.length + ((x.2.2.2.1.map CT.by).sum + 0)))) + 1
        rw [bys_sum]; omega)
    refine D0.ok ?_ h
    show (true && (true && (true && (decide (fuel - 1 - 1 ≤ n) && true)))) = true
    simp; omega
noncomputable def decCb : Dec Tryz.prog 24 CT where
 ds := CT.d
 wf := CtWb
 up _ _ _ h hx := CtWb.up h hx
 lim _ := true
 wt := CT.by
 ok _ h := condB _ (Nat.le_refl _) h
noncomputable def decCn : Dec Tryz.prog 24 CT :=
 Dec.iso decCb (fun c => c) (fun c => [.int .i64 c.k, .str c.n, .str c.v, .vec 4 (CT.ds c.l)]) CtWb (fun _ _ _ h hx => CtWb.up h hx) (fun c => ct_d c) (fun N c hx _ => hx)
theorem by_w : ∀ (n : Nat) (c : CT), c.by ≤ n → c.w ≤ c.by
  | 0, .mk k nn v l, h => by have h : nn.length + v.length + CT.bys l + 1 ≤ 0 := h; omega
  | n + 1, .mk k nn v l, h => by
    have h : nn.length + v.length + CT.bys l + 1 ≤ n + 1 := h
    have hl : ∀ l : List CT, CT.bys l ≤ n → CT.ws l ≤ CT.bys l := fun l => by
      induction l with
      | nil => exact fun _ => Nat.le_refl _
      | cons a l ih =>
        intro h
        have h : a.by + CT.bys l ≤ n := h
        have h1 := by_w n a (by omega)
        have h2 := ih (by omega)
        show a.w + CT.ws l ≤ a.by + CT.bys l
        omega
    have := hl l (by omega)
    show CT.ws l + 1 ≤ nn.length + v.length + CT.bys l + 1
    omega
theorem by_b : ∀ (n : Nat) (c : CT), c.by ≤ n → c.b + 5 ≤ 35 * c.by
  | 0, .mk k nn v l, h => by have h : nn.length + v.length + CT.bys l + 1 ≤ 0 := h; omega
  | n + 1, .mk k nn v l, h => by
    have h : nn.length + v.length + CT.bys l + 1 ≤ n + 1 := h
    have hl : ∀ l : List CT, CT.bys l ≤ n → CT.bs l ≤ 35 * CT.bys l := fun l => by
      induction l with
      | nil => exact fun _ => Nat.le_refl _
      | cons a l ih =>
        intro h
        have h : a.by + CT.bys l ≤ n := h
        have h1 := by_b n a (by omega)
        have h2 := ih (by omega)
        show a.b + 5 + CT.bs l ≤ 35 * (a.by + CT.bys l)
        omega
    have := hl l (by omega)
    show nn.length + 2 * v.length + 30 + CT.bs l + 5 ≤ 35 * (nn.length + v.length + CT.bys l + 1)
    omega
structure CtA (c : CT) : Prop where
 sm : CtSm c
 w : c.w ≤ 1048576
 b : c.b ≤ 100000000
theorem CtWb.a {N : Nat} (hN : N ≤ 1048576) {c : CT} (h : CtWb N c) : CtA c := ⟨CtI.sm hN h.1, by have := by_w _ c (Nat.le_refl _); have := h.2; omega, by have := by_b _ c (Nat.le_refl _); have := h.2; omega⟩
end
end Go.Proofs.YtfcdmcdhhikhaaaGreatDoor
namespace Go.Proofs.YtfcdmcdhhikhaaaGreatDoor.fnCondsMatch
open Go Go.RowKit Go.ChangeShapes Go.WideShapes Go.ChangeAt
theorem contract (H : Type) (enc : TypeId × Value → H) (W : World) (base : Nat) (args : Array Value) (ds gs : List (DataW H)) (before : List MemPlace)
  (hval : ∀ (j : Nat) t v, Tryz.f4.params[j]? = some t → args[j]? = some v → Value.okWide Tryz.prog W .any base t v)
  (hW : DataW.Whole enc Tryz.prog Tryz.f4.params.toList Rows.condsMatchSpec.vars false W args.toList ds gs before) (hc : Rows.uptoSmall H (ds ++ gs) = true)
  (hL : laidMetH Tryz.prog Rows.condsMatchUptoRow.laid W) (hS : W.ShapedOpen Tryz.prog) :
  Calls Tryz.prog 4 args W fun e W' => ∃ v, e = .returned v ∧ Rows.condsMatchSpec.post enc Tryz.prog Tryz.f4 false true false false W args v W' := by
 have hW' := hW
 obtain ⟨p, q, hA0, hV, rfl, hfz, hnd⟩ := hW
 have hA : DataW.TrodAll enc Tryz.prog W 0 (fun _ => true) true Tryz.f4.params.toList args.toList ds p := hA0
 rw [Tryz.params4] at hA hval
 obtain ⟨v0, vs0, d0, ds0, p0, q0, hargs, rfl, rfl, h0, r0⟩ := trodAll_cons hA
 obtain ⟨v1, vs1, d1, ds1, p1, q1, rfl, rfl, rfl, h1, r1⟩ := trodAll_cons r0
 obtain ⟨v2, vs2, d2, ds2, p2, q2, rfl, rfl, rfl, h2, r2⟩ := trodAll_cons r1
 obtain ⟨rfl, rfl, rfl⟩ := trodAll_nil r2
 obtain rfl : args = #[v0, v1, v2] := Array.ext' (by simpa using hargs)
 obtain ⟨rfl, rfl⟩ := trodVars_none hV
 obtain ⟨c, e0, w0⟩ := arg_agg decCn (by kernel_rfl) (hval 0 24 v0 rfl rfl) h0
 obtain ⟨fl, e1, w1⟩ := arg_one (Dec.slice Tryz.underlying36 (sz := 2) (by kernel_rfl) (by decide) decStg) (by kernel_rfl) (hval 1 36 v1 rfl rfl) h1
 obtain ⟨gl, e2, w2⟩ := arg_one (Dec.slice Tryz.underlying36 (sz := 2) (by kernel_rfl) (by decide) decStg) (by kernel_rfl) (hval 2 36 v2 rfl rfl) h2
 have hbulk : Rows.uptoBulkAll ([d0, d1, d2] ++ []) ≤ 1048576 := of_decide_eq_true hc
 simp only [List.append_nil, Rows.uptoBulkAll] at hbulk
 have h0 : CtWb (Rows.uptoBulk d0) c := w0
 have h0a := h0.a (by omega)
 have h1 : fl.length < Rows.uptoBulk d1 ∧ ∀ u ∈ fl, u.k.length < Rows.uptoBulk d1 ∧ u.v.length < Rows.uptoBulk d1 := w1
 have h2 : gl.length < Rows.uptoBulk d2 ∧ ∀ u ∈ gl, u.k.length < Rows.uptoBulk d2 ∧ u.v.length < Rows.uptoBulk d2 := w2
 have pc := pc_outlaw2_CondsMatch c h0a.sm h0a.w h0a.b fl gl ⟨by omega, fun u hu => by have := h1.2 u hu; omega⟩ ⟨by omega, fun u hu => by have := h2.2 u hu; omega⟩
 refine law_post (by kernel_rfl) (by kernel_rfl) rfl rfl Tryz.underlying4 hW' ⟨rfl, rfl, rfl⟩ pc (base_of (l := Rows.condsMatchUptoRow.laid) hL (.tail _ (.tail _ (.head _))) (.tail _ (.tail _ (.tail _ (.tail _ (.tail _ (.head _)))))) (.tail _ (.tail _ (.tail _ (.tail _ (.head _))))) (.tail _ (.head _)) hS) rfl (fun i u v hu hv => ?_)
 match i with
 | 0 => simp at hu hv; subst hu; subst hv; exact e0
 | 1 => simp at hu hv; subst hu; subst hv; exact e1 _ rfl
 | 2 => simp at hu hv; subst hu; subst hv; exact e2 _ rfl
 | i + 3 => simp at hu
end Go.Proofs.YtfcdmcdhhikhaaaGreatDoor.fnCondsMatch
namespace Go.Proofs.YtfcdmcdhhikhaaaGreatDoor.fnCondsMatch
open Go Go.RowKit Go.ChangeShapes Go.WideShapes Go.ChangeAt
def zargs : Array Value := #[.agg #[.int .i64 0, .string ⟨#[]⟩, .string ⟨#[]⟩, .slice none 0 0], .slice none 0 0, .slice none 0 0]
set_option maxRecDepth 100000 in
theorem laid_met (os : Os) : laidMet Tryz.prog Rows.condsMatchUptoRow.laid ((laidWorld os).forCall (fun _ _ => 0) ⟨#[], zargs, []⟩).memory :=
 laidMet_of_run' 8 (by kernel_rfl) (by kernel_rfl)
set_option maxRecDepth 100000 in
theorem reads (os : Os) {H : Type} (enc : TypeId × Value → H) : ∃ ds places, DataW.whole enc Tryz.prog ((laidWorld os).forCall (fun _ _ => 0) ⟨#[], zargs, []⟩).memory Tryz.f4.params.toList Rows.condsMatchSpec.vars false zargs.toList 8 = some (ds, [], places) ∧ Rows.uptoSmall H (ds ++ []) = true :=
 ⟨[.agg [.lit (.int .i64 0), .lit (.string []), .lit (.string []), .nil], .nil, .nil], [], by kernel_rfl, by kernel_rfl⟩
theorem own : ownKnob Tryz.prog.godebug = none := by kernel_rfl
set_option maxRecDepth 100000 in
theorem liftedUpto (os : Os) (started : os.Started) (H : Type) (enc : TypeId × Value → H) (F : Stop.Interp) :
    ReturnsInHanded {} Tryz.checked os 4 .any ((Rows.OpenSpec.upto Rows.condsMatchSpec).preRow enc Tryz.prog Tryz.f4 Rows.condsMatchUptoRow.domain false Rows.condsMatchUptoRow.laid) (((Rows.OpenSpec.upto Rows.condsMatchSpec).at F).post enc Tryz.prog Tryz.f4 false true false false) := by
  obtain ⟨ds, places, hx, hsm⟩ := reads os enc
  refine returnsInHanded_of_row (C := Tryz.checked) (s := Rows.OpenSpec.upto Rows.condsMatchSpec) own started (by kernel_rfl) Tryz.func4
    (witness_row_at (enc := enc) (C := Tryz.checked) false (laidWorld os) zargs rfl (by kernel_rfl) (by kernel_rfl) (by kernel_rfl)
      (OpenSpec.preRow_of_cond 8 hx (by kernel_rfl) (fun k hk => by cases hk; exact hsm) (by kernel_rfl) (laid_met os))) ?_
  intro W base args ds gs before hval hW _ hcond _ hL hS _
  exact contract H enc W base args ds gs before hval hW (hcond _ rfl) hL hS
theorem band {a b : Bool} (ha : a = true) (hb : b = true) : (a && b) = true := by rw [ha, hb]; rfl
set_option maxRecDepth 100000 in
theorem closed : joinedFacts Tryz.pinned.checked.prog 4 Tryz.f4 (Rows.OpenSpec.upto Rows.condsMatchSpec).bare Rows.condsMatchUptoRow = true := by
 unfold joinedFacts
 refine band (band (band (band (band (band (band (band (band (band (band (band (band (band (band (band (band (band (band (band (band (band (band (band (band (band (band (band (band (band (band ?_ ?_) ?_) ?_) ?_) ?_) ?_) ?_) ?_) ?_) ?_) ?_) ?_) ?_) ?_) ?_) ?_) ?_) ?_) ?_) ?_) ?_) ?_) ?_) ?_) ?_) ?_) ?_) ?_) ?_) ?_) ?_
 all_goals (as_aux_lemma => kernel_rfl)
theorem saidUpto : Rows.CondsMatchUptoSaid :=
  OpenClaim.holds_of_cond 4 Tryz.f4 rfl rfl rfl rfl rfl rfl rfl ⟨rfl, rfl, rfl, rfl, rfl⟩ rfl rfl rfl rfl rfl (by as_aux_lemma => kernel_rfl) Tryz.func4 closed
    (of_decide_eq_true (by kernel_rfl)) (by unfold Func.isWrapper; first | (rw [if_pos (by decide +kernel)]; kernel_rfl) | (rw [if_neg (by decide +kernel)]; exact ⟨rfl, rfl⟩))
    (fun os started H enc _ F => by rw [OpenClaim.pre_eq_preRow]; exact liftedUpto os started H enc F)
theorem plain (f : FuncId) (fn : Func) (hf : Tryz.pinned.checked.prog.funcNamed "outfitter/outlaw2.CondsMatch" = some f) (hfn : Tryz.pinned.checked.prog.funcs[f]? = some fn) :
  true = Tryz.pinned.checked.prog.looks [] ∧ ∀ (j : Nat) t, fn.params[j]? = some t → Tryz.pinned.checked.prog.wantsStandIn t = false := by
 obtain rfl : f = 4 := Option.some.inj ((show Tryz.prog.funcNamed "outfitter/outlaw2.CondsMatch" = some 4 by kernel_rfl).symm.trans hf) |>.symm
 obtain rfl : fn = Tryz.f4 := (Option.some.inj (Tryz.func4.symm.trans hfn)).symm
 refine ⟨by kernel_rfl, fun j t ht => ?_⟩
 rw [Tryz.params4] at ht
 have hm : t = 36 ∨ t = 24 := by
  have h1 := Array.mem_of_getElem? ht
  have h2 : t = 24 ∨ t = 36 ∨ t = 36 := by simpa using h1
  rcases h2 with h | h | h <;> rw [h] <;> simp
 rcases hm with rfl | rfl
 ·skip
  exact (show Tryz.prog.wantsStandIn 36 = false by kernel_rfl)
 ·skip
  exact (show Tryz.prog.wantsStandIn 24 = false by kernel_rfl)
theorem cardUpto : Rows.CondsMatchUptoCardSaid :=
 Claim7.holds_tied_plain_at .later [] _ _ _ _ saidUpto (fun _ h => by cases h) (by kernel_rfl) (fun _ h => by cases h) condsMatchUpto_row_tie rfl ⟨rfl, rfl⟩ (by kernel_rfl) rfl plain (by kernel_rfl)
end Go.Proofs.YtfcdmcdhhikhaaaGreatDoor.fnCondsMatch
