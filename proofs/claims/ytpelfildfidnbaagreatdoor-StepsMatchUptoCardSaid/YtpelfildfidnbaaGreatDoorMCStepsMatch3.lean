/- Part 3 of a proof: W117, A69, W118, W32, W119, W120, A15. -/
import Derived.Test.YtpelfildfidnbaaGreatDoorRows
import Derived.Lib.LaidTab
import Derived.Carry
import Derived.ChangeSame
import Derived.OpenVars
import Derived.OpenShut
import Derived.Test.YtpelfildfidnbaaGreatDoorMCStepsMatch2
set_option linter.unusedVariables false
set_option linter.unusedSimpArgs false
set_option maxRecDepth 100000
set_option maxHeartbeats 4000000
namespace Go.Proofs.YtpelfildfidnbaaGreatDoor
section
open Go
open Go.RowKit
attribute [local irreducible] thenK blockK W
attribute [local irreducible] pathB nameB valueB listE svAt svE flE flO flAt stgO svO dirs dirTo stgAt clear paT prevP chkM bigM atK askP errC chgE cntU fltB confB gnB manyB putQ doB actB sortS getL hasL setL delL
theorem FT_len (T : TabG Fl) : ((FT T).length : Int) = (T.length : Int) := by simp [FT, mapOf]
theorem ST_len (T : TabG Stg) : ((ST T).length : Int) = (T.length : Int) := by simp [ST, mapOf]
theorem VT_len (T : TabG Svc) : ((VT T).length : Int) = (T.length : Int) := by simp [VT, mapOf]
theorem inc_l {n : Nat} (h : n ≤ 8000000) : V.one (.d (.int .i64 (IntKind.i64.wrap ((n : Int) + 1)))) = V.one (.d (.int .i64 ((n : Int) + 1))) := by rw [wrap_i64 (by omega) (by omega)]
theorem pc_flt (b : Bn) (hb : BnA b) (c : Chm) (hc : ChmA c) :
  HCall Tryz.prog J 161 ([.one (.ptr 0 0), .agg [.d (.int .i64 c.k), .d (.str c.f.p), .d (.str c.f.d), .d (.bool c.f.r), .d (.str c.s.k), .d (.str c.s.v), .d (.str c.v.n), .d (.str c.v.p), .d (.bool c.v.au), .d (.bool c.v.on)]]) ([[.d (.vec 2 (b.fa.map stgD)), .map 0, .map 1, .map 2, .map 3]]) ([]) ([FT (b.T), UT (b.U), ST (b.S), VT (b.V)]) (isH (.one (.d (.int .i64 (fltB b c)))) ([[.d (.vec 2 (b.fa.map stgD)), .map 0, .map 1, .map 2, .map 3]]) ([]) ([FT (b.T), UT (b.U), ST (b.S), VT (b.V)])) := by
 have h1 := hc.f.p
 have b1 := hb.t
 have b2 := hb.s
 have b3 := hb.v
 refine HCall.ofD tOk ⟨1, 0, 4⟩ (fn := Tryz.f161) Tryz.func161 (by kernel_rfl) rfl (Nat.le_of_ble_eq_true rfl) (fun E => ?_)
 iterate 18 first|refine Yp rfl ?_|apply Yb|refine S.box rfl rfl rfl rfl ?_|apply Y1|apply Y3|apply Yn|apply Ys
 refine W.cond rfl (fun c1=>?_) fun c1=>?_
 ·skip
  apply Ys
  apply Y1
  iterate 4 refine Yp rfl ?_
  refine S.hcallD rfl rfl rfl rfl ((pc_cfl b c.f.p h1).fd [0] [] [0, 1, 2, 3] rfl) ?_
  apply Yn
  refine W.cond rfl (fun c2=>?_) fun c2=>?_
  ·skip
   iterate 7 first|apply Yu|apply Yv|apply Yt|refine Yp rfl ?_|apply Y1|apply Yn
   exact ⟨_, rfl, rfl, LeG.of_eq (congrArg (fun x => V.one (C.d (D.int .i64 x))) ((fo_11 (by assumption) (by assumption)).symm)), rfl, rfl, rfl⟩
  apply Yk
  apply Yn
  apply Ys
  refine W.regionC 7 mixed rfl (by kernel_rfl) ?_
  iterate 7 refine Ym rfl rfl ?_
  refine WD.nil ?_
  refine S.hcallD rfl rfl rfl rfl ((pc_missFile b.T c.f.p).fd [] [] [0] rfl) ?_
  apply Yn
  refine W.cond rfl (fun c3=>?_) fun c3=>?_
  ·skip
   have hF := fo_1 (b := b) (c := c) (by assumption) (by assumption) (mny_t (by assumption))
   apply Yr
   iterate 4 refine Yp rfl ?_
   refine S.mapLen tOk rfl rfl rfl rfl (FT_len _) ?_
   refine YE rfl rfl (inc_l (by omega)) rfl ?_
   iterate 8 first|refine Yp rfl ?_|apply Yw|apply Y1|apply Yn|apply Ys
   refine W.cond rfl (fun c4=>?_) fun c4=>?_
   ·skip
    apply Y1
    refine Yp rfl ?_
    apply Yn
    apply Yt
    apply Yu
    exact ⟨_, rfl, rfl, LeG.of_eq (congrArg (fun x => V.one (C.d (D.int .i64 x))) ((ft_g hF (by assumption)).symm)), rfl, rfl, rfl⟩
   iterate 8 first|refine Yp rfl ?_|apply Yk|apply Y1|apply Yn|apply Ys
   refine W.cond rfl (fun c5=>?_) fun c5=>?_
   ·skip
    apply Y1
    refine Yp rfl ?_
    apply Yn
    apply Yt
    apply Yu
    exact ⟨_, rfl, rfl, LeG.of_eq (congrArg (fun x => V.one (C.d (D.int .i64 x))) ((ft_m hF (by assumption) (by assumption)).symm)), rfl, rfl, rfl⟩
   apply Yk
   apply Y3
   refine Yp rfl ?_
   apply Yn
   apply Yt
   exact ⟨_, rfl, rfl, LeG.of_eq (congrArg (fun x => V.one (C.d (D.int .i64 x))) ((ft_o hF (by assumption) (by assumption)).symm)), rfl, rfl, rfl⟩
  have hF := fo_1 (b := b) (c := c) (by assumption) (by assumption) (mny_f (by assumption))
  iterate 7 first|refine Yp rfl ?_|apply Yw|apply Yk|apply Y1|apply Yn|apply Ys
  refine W.cond rfl (fun c6=>?_) fun c6=>?_
  ·skip
   apply Y1
   refine Yp rfl ?_
   apply Yn
   apply Yt
   apply Yu
   exact ⟨_, rfl, rfl, LeG.of_eq (congrArg (fun x => V.one (C.d (D.int .i64 x))) ((ft_g hF (by assumption)).symm)), rfl, rfl, rfl⟩
  iterate 8 first|refine Yp rfl ?_|apply Yk|apply Y1|apply Yn|apply Ys
  refine W.cond rfl (fun c7=>?_) fun c7=>?_
  ·skip
   apply Y1
   refine Yp rfl ?_
   apply Yn
   apply Yt
   apply Yu
   exact ⟨_, rfl, rfl, LeG.of_eq (congrArg (fun x => V.one (C.d (D.int .i64 x))) ((ft_m hF (by assumption) (by assumption)).symm)), rfl, rfl, rfl⟩
  apply Yk
  apply Y3
  refine Yp rfl ?_
  apply Yn
  apply Yt
  exact ⟨_, rfl, rfl, LeG.of_eq (congrArg (fun x => V.one (C.d (D.int .i64 x))) ((ft_o hF (by assumption) (by assumption)).symm)), rfl, rfl, rfl⟩
 apply Y1
 iterate 2 refine Yp rfl ?_
 apply Yn
 refine W.cond rfl (fun c8=>?_) fun c8=>?_
 ·skip
  have hF := fo_2 (b := b) (c := c) (by assumption)
  refine W.regionC 7 mixed rfl (by kernel_rfl) ?_
  iterate 7 refine Ym rfl rfl ?_
  refine WD.nil ?_
  refine S.hcallD rfl rfl rfl rfl ((pc_missFile b.T c.f.p).fd [] [] [0] rfl) ?_
  iterate 7 first|refine Yp rfl ?_|apply Yw|apply Y1|apply Yn|apply Ys
  refine W.cond rfl (fun c9=>?_) fun c9=>?_
  ·skip
   apply Y1
   refine Yp rfl ?_
   apply Yn
   apply Yt
   apply Yu
   exact ⟨_, rfl, rfl, LeG.of_eq (congrArg (fun x => V.one (C.d (D.int .i64 x))) ((ft_g hF (by assumption)).symm)), rfl, rfl, rfl⟩
  iterate 8 first|refine Yp rfl ?_|apply Yk|apply Y1|apply Yn|apply Ys
  refine W.cond rfl (fun c10=>?_) fun c10=>?_
  ·skip
   apply Y1
   refine Yp rfl ?_
   apply Yn
   apply Yt
   apply Yu
   exact ⟨_, rfl, rfl, LeG.of_eq (congrArg (fun x => V.one (C.d (D.int .i64 x))) ((ft_m hF (by assumption) (by assumption)).symm)), rfl, rfl, rfl⟩
  apply Yk
  apply Y3
  refine Yp rfl ?_
  apply Yn
  apply Yt
  exact ⟨_, rfl, rfl, LeG.of_eq (congrArg (fun x => V.one (C.d (D.int .i64 x))) ((ft_o hF (by assumption) (by assumption)).symm)), rfl, rfl, rfl⟩
 apply Y1
 iterate 2 refine Yp rfl ?_
 apply Yn
 refine W.cond rfl (fun c11=>?_) fun c11=>?_
 ·skip
  apply Ys
  refine W.regionC 7 mixed rfl (by kernel_rfl) ?_
  iterate 7 refine Ym rfl rfl ?_
  refine WD.nil ?_
  refine S.hcallD rfl rfl rfl rfl ((pc_missSetting b.S c.s.k).fd [] [] [2] rfl) ?_
  apply Yn
  refine W.cond rfl (fun c12=>?_) fun c12=>?_
  ·skip
   have hF := fo_3 (b := b) (c := c) (by assumption) (mny_t (by assumption))
   apply Yr
   iterate 4 refine Yp rfl ?_
   refine S.mapLen tOk rfl rfl rfl rfl (ST_len _) ?_
   refine YE rfl rfl (inc_l (by omega)) rfl ?_
   iterate 8 first|refine Yp rfl ?_|apply Yw|apply Y1|apply Yn|apply Ys
   refine W.cond rfl (fun c13=>?_) fun c13=>?_
   ·skip
    apply Y1
    refine Yp rfl ?_
    apply Yn
    apply Yt
    apply Yu
    exact ⟨_, rfl, rfl, LeG.of_eq (congrArg (fun x => V.one (C.d (D.int .i64 x))) ((ft_g hF (by assumption)).symm)), rfl, rfl, rfl⟩
   iterate 8 first|refine Yp rfl ?_|apply Yk|apply Y1|apply Yn|apply Ys
   refine W.cond rfl (fun c14=>?_) fun c14=>?_
   ·skip
    apply Y1
    refine Yp rfl ?_
    apply Yn
    apply Yt
    apply Yu
    exact ⟨_, rfl, rfl, LeG.of_eq (congrArg (fun x => V.one (C.d (D.int .i64 x))) ((ft_m hF (by assumption) (by assumption)).symm)), rfl, rfl, rfl⟩
   apply Yk
   apply Y3
   refine Yp rfl ?_
   apply Yn
   apply Yt
   exact ⟨_, rfl, rfl, LeG.of_eq (congrArg (fun x => V.one (C.d (D.int .i64 x))) ((ft_o hF (by assumption) (by assumption)).symm)), rfl, rfl, rfl⟩
  have hF := fo_3 (b := b) (c := c) (by assumption) (mny_f (by assumption))
  iterate 7 first|refine Yp rfl ?_|apply Yw|apply Yk|apply Y1|apply Yn|apply Ys
  refine W.cond rfl (fun c15=>?_) fun c15=>?_
  ·skip
   apply Y1
   refine Yp rfl ?_
   apply Yn
   apply Yt
   apply Yu
   exact ⟨_, rfl, rfl, LeG.of_eq (congrArg (fun x => V.one (C.d (D.int .i64 x))) ((ft_g hF (by assumption)).symm)), rfl, rfl, rfl⟩
  iterate 8 first|refine Yp rfl ?_|apply Yk|apply Y1|apply Yn|apply Ys
  refine W.cond rfl (fun c16=>?_) fun c16=>?_
  ·skip
   apply Y1
   refine Yp rfl ?_
   apply Yn
   apply Yt
   apply Yu
   exact ⟨_, rfl, rfl, LeG.of_eq (congrArg (fun x => V.one (C.d (D.int .i64 x))) ((ft_m hF (by assumption) (by assumption)).symm)), rfl, rfl, rfl⟩
  apply Yk
  apply Y3
  refine Yp rfl ?_
  apply Yn
  apply Yt
  exact ⟨_, rfl, rfl, LeG.of_eq (congrArg (fun x => V.one (C.d (D.int .i64 x))) ((ft_o hF (by assumption) (by assumption)).symm)), rfl, rfl, rfl⟩
 apply Y1
 iterate 2 refine Yp rfl ?_
 apply Yn
 refine W.cond rfl (fun c17=>?_) fun c17=>?_
 ·skip
  have hF := fo_4 (b := b) (c := c) (by assumption)
  refine W.regionC 7 mixed rfl (by kernel_rfl) ?_
  iterate 7 refine Ym rfl rfl ?_
  refine WD.nil ?_
  refine S.hcallD rfl rfl rfl rfl ((pc_missSetting b.S c.s.k).fd [] [] [2] rfl) ?_
  iterate 7 first|refine Yp rfl ?_|apply Yw|apply Y1|apply Yn|apply Ys
  refine W.cond rfl (fun c18=>?_) fun c18=>?_
  ·skip
   apply Y1
   refine Yp rfl ?_
   apply Yn
   apply Yt
   apply Yu
   exact ⟨_, rfl, rfl, LeG.of_eq (congrArg (fun x => V.one (C.d (D.int .i64 x))) ((ft_g hF (by assumption)).symm)), rfl, rfl, rfl⟩
  iterate 8 first|refine Yp rfl ?_|apply Yk|apply Y1|apply Yn|apply Ys
  refine W.cond rfl (fun c19=>?_) fun c19=>?_
  ·skip
   apply Y1
   refine Yp rfl ?_
   apply Yn
   apply Yt
   apply Yu
   exact ⟨_, rfl, rfl, LeG.of_eq (congrArg (fun x => V.one (C.d (D.int .i64 x))) ((ft_m hF (by assumption) (by assumption)).symm)), rfl, rfl, rfl⟩
  apply Yk
  apply Y3
  refine Yp rfl ?_
  apply Yn
  apply Yt
  exact ⟨_, rfl, rfl, LeG.of_eq (congrArg (fun x => V.one (C.d (D.int .i64 x))) ((ft_o hF (by assumption) (by assumption)).symm)), rfl, rfl, rfl⟩
 apply Y1
 iterate 2 refine Yp rfl ?_
 apply Yn
 refine W.cond rfl (fun c20=>?_) fun c20=>?_
 ·skip
  apply Ys
  refine W.regionC 7 mixed rfl (by kernel_rfl) ?_
  iterate 7 refine Ym rfl rfl ?_
  refine WD.nil ?_
  refine S.hcallD rfl rfl rfl rfl ((pc_missService b.V c.v.n).fd [] [] [3] rfl) ?_
  apply Yn
  refine W.cond rfl (fun c21=>?_) fun c21=>?_
  ·skip
   have hF := fo_5 (b := b) (c := c) (by assumption) (mny_t (by assumption))
   apply Yr
   iterate 4 refine Yp rfl ?_
   refine S.mapLen tOk rfl rfl rfl rfl (VT_len _) ?_
   refine YE rfl rfl (inc_l (by omega)) rfl ?_
   iterate 8 first|refine Yp rfl ?_|apply Yw|apply Y1|apply Yn|apply Ys
   refine W.cond rfl (fun c22=>?_) fun c22=>?_
   ·skip
    apply Y1
    refine Yp rfl ?_
    apply Yn
    apply Yt
    apply Yu
    exact ⟨_, rfl, rfl, LeG.of_eq (congrArg (fun x => V.one (C.d (D.int .i64 x))) ((ft_g hF (by assumption)).symm)), rfl, rfl, rfl⟩
   iterate 8 first|refine Yp rfl ?_|apply Yk|apply Y1|apply Yn|apply Ys
   refine W.cond rfl (fun c23=>?_) fun c23=>?_
   ·skip
    apply Y1
    refine Yp rfl ?_
    apply Yn
    apply Yt
    apply Yu
    exact ⟨_, rfl, rfl, LeG.of_eq (congrArg (fun x => V.one (C.d (D.int .i64 x))) ((ft_m hF (by assumption) (by assumption)).symm)), rfl, rfl, rfl⟩
   apply Yk
   apply Y3
   refine Yp rfl ?_
   apply Yn
   apply Yt
   exact ⟨_, rfl, rfl, LeG.of_eq (congrArg (fun x => V.one (C.d (D.int .i64 x))) ((ft_o hF (by assumption) (by assumption)).symm)), rfl, rfl, rfl⟩
  have hF := fo_5 (b := b) (c := c) (by assumption) (mny_f (by assumption))
  iterate 7 first|refine Yp rfl ?_|apply Yw|apply Yk|apply Y1|apply Yn|apply Ys
  refine W.cond rfl (fun c24=>?_) fun c24=>?_
  ·skip
   apply Y1
   refine Yp rfl ?_
   apply Yn
   apply Yt
   apply Yu
   exact ⟨_, rfl, rfl, LeG.of_eq (congrArg (fun x => V.one (C.d (D.int .i64 x))) ((ft_g hF (by assumption)).symm)), rfl, rfl, rfl⟩
  iterate 8 first|refine Yp rfl ?_|apply Yk|apply Y1|apply Yn|apply Ys
  refine W.cond rfl (fun c25=>?_) fun c25=>?_
  ·skip
   apply Y1
   refine Yp rfl ?_
   apply Yn
   apply Yt
   apply Yu
   exact ⟨_, rfl, rfl, LeG.of_eq (congrArg (fun x => V.one (C.d (D.int .i64 x))) ((ft_m hF (by assumption) (by assumption)).symm)), rfl, rfl, rfl⟩
  apply Yk
  apply Y3
  refine Yp rfl ?_
  apply Yn
  apply Yt
  exact ⟨_, rfl, rfl, LeG.of_eq (congrArg (fun x => V.one (C.d (D.int .i64 x))) ((ft_o hF (by assumption) (by assumption)).symm)), rfl, rfl, rfl⟩
 apply Y1
 iterate 2 refine Yp rfl ?_
 apply Yn
 refine W.cond rfl (fun c26=>?_) fun c26=>?_
 ·skip
  have hF := fo_6 (b := b) (c := c) (by assumption)
  refine W.regionC 7 mixed rfl (by kernel_rfl) ?_
  iterate 7 refine Ym rfl rfl ?_
  refine WD.nil ?_
  refine S.hcallD rfl rfl rfl rfl ((pc_missService b.V c.v.n).fd [] [] [3] rfl) ?_
  iterate 7 first|refine Yp rfl ?_|apply Yw|apply Y1|apply Yn|apply Ys
  refine W.cond rfl (fun c27=>?_) fun c27=>?_
  ·skip
   apply Y1
   refine Yp rfl ?_
   apply Yn
   apply Yt
   apply Yu
   exact ⟨_, rfl, rfl, LeG.of_eq (congrArg (fun x => V.one (C.d (D.int .i64 x))) ((ft_g hF (by assumption)).symm)), rfl, rfl, rfl⟩
  iterate 8 first|refine Yp rfl ?_|apply Yk|apply Y1|apply Yn|apply Ys
  refine W.cond rfl (fun c28=>?_) fun c28=>?_
  ·skip
   apply Y1
   refine Yp rfl ?_
   apply Yn
   apply Yt
   apply Yu
   exact ⟨_, rfl, rfl, LeG.of_eq (congrArg (fun x => V.one (C.d (D.int .i64 x))) ((ft_m hF (by assumption) (by assumption)).symm)), rfl, rfl, rfl⟩
  apply Yk
  apply Y3
  refine Yp rfl ?_
  apply Yn
  apply Yt
  exact ⟨_, rfl, rfl, LeG.of_eq (congrArg (fun x => V.one (C.d (D.int .i64 x))) ((ft_o hF (by assumption) (by assumption)).symm)), rfl, rfl, rfl⟩
 have hF := fo_n (b := b) (c := c) (by assumption) (by assumption) (by assumption) (by assumption) (by assumption) (by assumption)
 apply Yk
 apply Yw
 apply Yn
 apply Ys
 apply Y1
 refine Yp rfl ?_
 apply Yn
 refine W.cond rfl (fun c29=>?_) fun c29=>?_
 ·skip
  apply Y1
  refine Yp rfl ?_
  apply Yn
  apply Yt
  apply Yu
  exact ⟨_, rfl, rfl, LeG.of_eq (congrArg (fun x => V.one (C.d (D.int .i64 x))) ((ft_g hF (by assumption)).symm)), rfl, rfl, rfl⟩
 iterate 8 first|refine Yp rfl ?_|apply Yk|apply Y1|apply Yn|apply Ys
 refine W.cond rfl (fun c30=>?_) fun c30=>?_
 ·skip
  apply Y1
  refine Yp rfl ?_
  apply Yn
  apply Yt
  apply Yu
  exact ⟨_, rfl, rfl, LeG.of_eq (congrArg (fun x => V.one (C.d (D.int .i64 x))) ((ft_m hF (by assumption) (by assumption)).symm)), rfl, rfl, rfl⟩
 apply Yk
 apply Y3
 refine Yp rfl ?_
 apply Yn
 apply Yt
 exact ⟨_, rfl, rfl, LeG.of_eq (congrArg (fun x => V.one (C.d (D.int .i64 x))) ((ft_o hF (by assumption) (by assumption)).symm)), rfl, rfl, rfl⟩
theorem pc_bdo (b : Bn) (hb : BnA b) (c : Chm) (hc : ChmA c) :
  HCall Tryz.prog J 108 ([.one (.ptr 0 0), .agg [.d (.int .i64 c.k), .d (.str c.f.p), .d (.str c.f.d), .d (.bool c.f.r), .d (.str c.s.k), .d (.str c.s.v), .d (.str c.v.n), .d (.str c.v.p), .d (.bool c.v.au), .d (.bool c.v.on)]]) ([[.d (.vec 2 (b.fa.map stgD)), .map 0, .map 1, .map 2, .map 3]]) ([]) ([FT (b.T), UT (b.U), ST (b.S), VT (b.V)]) (isH (.one (.d (.int .i64 (doB b c).2))) ([[.d (.vec 2 ((doB b c).1.fa.map stgD)), .map 0, .map 1, .map 2, .map 3]]) ([]) ([FT ((doB b c).1.T), UT ((doB b c).1.U), ST ((doB b c).1.S), VT ((doB b c).1.V)])) := by
 have h1 := hc.f.p
 refine HCall.ofD tOk ⟨1, 0, 4⟩ (fn := Tryz.f108) Tryz.func108 (by kernel_rfl) rfl (Nat.le_of_ble_eq_true rfl) (fun E => ?_)
 iterate 7 first|refine Yp rfl ?_|refine S.box rfl rfl rfl rfl ?_|apply Y1|apply Ys|apply Yn
 refine S.call rfl rfl rfl rfl rfl (pc_CheckChange c hc) ?_
 iterate 5 first|refine Yp rfl ?_|apply Y3|apply Yn
 refine W.cond rfl (fun c1=>?_) fun c1=>?_
 ·skip
  iterate 6 first|refine Yp rfl ?_|apply Yu|apply Yt|apply Y1|apply Yn
  exact ⟨_, rfl, rfl, (by rw [do_a (by assumption)]; exact LeG.refl _), (by rw [do_a (by assumption)]; rfl), rfl, (by rw [do_a (by assumption)]; rfl)⟩
 apply Yk
 apply Yn
 apply Ys
 apply Y1
 iterate 2 refine Yp rfl ?_
 refine S.hcallD rfl rfl rfl rfl ((pc_flt b hb c hc).fd [0] [] [0, 1, 2, 3] rfl) ?_
 iterate 5 first|refine Yp rfl ?_|apply Y3|apply Yn
 refine W.cond rfl (fun c2=>?_) fun c2=>?_
 ·skip
  iterate 6 first|refine Yp rfl ?_|apply Yu|apply Yt|apply Y1|apply Yn
  exact ⟨_, rfl, rfl, (by rw [do_b (by assumption) (by assumption)]; exact LeG.refl _), (by rw [do_b (by assumption) (by assumption)]; rfl), rfl, (by rw [do_b (by assumption) (by assumption)]; rfl)⟩
 iterate 12 first|refine Yp rfl ?_|apply Yb|apply Yk|apply Y1|apply Yn|apply Ys
 refine W.cond rfl (fun c3=>?_) fun c3=>?_
 ·skip
  apply Yr
  iterate 3 refine Yp rfl ?_
  refine S.hcallD rfl rfl rfl rfl ((pc_put b c.f _ rfl hc.f).fd [0] [] [0, 1, 2, 3] rfl) ?_
  apply Yw
  apply Y3
  refine Yp rfl ?_
  apply Yn
  apply Yt
  exact ⟨_, rfl, rfl, (by rw [do_k1 (by assumption) (by assumption) (by assumption)]; exact LeG.refl _), (by rw [do_k1 (by assumption) (by assumption) (by assumption)]; rfl), rfl, (by rw [do_k1 (by assumption) (by assumption) (by assumption)]; rfl)⟩
 apply Y1
 iterate 2 refine Yp rfl ?_
 apply Yn
 refine W.cond rfl (fun c4=>?_) fun c4=>?_
 ·skip
  apply Yr
  iterate 4 refine Yp rfl ?_
  refine S.hcallD rfl rfl rfl rfl ((pc_rem b c.f.p h1).fd [0] [] [0, 1, 2, 3] rfl) ?_
  apply Yw
  apply Y3
  refine Yp rfl ?_
  apply Yn
  apply Yt
  exact ⟨_, rfl, rfl, (by rw [do_k2 (by assumption) (by assumption) (by assumption)]; exact LeG.refl _), (by rw [do_k2 (by assumption) (by assumption) (by assumption)]; rfl), rfl, (by rw [do_k2 (by assumption) (by assumption) (by assumption)]; rfl)⟩
 apply Y1
 iterate 2 refine Yp rfl ?_
 apply Yn
 refine W.cond rfl (fun c5=>?_) fun c5=>?_
 ·skip
  refine W.regionC 9 mixed rfl (by kernel_rfl) ?_
  iterate 9 refine Ym rfl rfl ?_
  refine WD.nil ?_
  refine S.mapUpdate tOk keyS (fD := (fun s : Stg => DV.agg (stgD s))) (c.s) (b.S) rfl rfl rfl rfl rfl rfl rfl rfl (show _ = [FT (b.T), UT (b.U), ST (setL beqS b.S c.s.k c.s), VT (b.V)] from rfl) ?_
  apply Yw
  apply Y3
  refine Yp rfl ?_
  apply Yn
  apply Yt
  exact ⟨_, rfl, rfl, (by rw [do_k3 (by assumption) (by assumption) (by assumption)]; exact LeG.refl _), (by rw [do_k3 (by assumption) (by assumption) (by assumption)]; rfl), rfl, (by rw [do_k3 (by assumption) (by assumption) (by assumption)]; rfl)⟩
 apply Y1
 iterate 2 refine Yp rfl ?_
 apply Yn
 refine W.cond rfl (fun c6=>?_) fun c6=>?_
 ·skip
  refine W.regionC 7 mixed rfl (by kernel_rfl) ?_
  iterate 7 refine Ym rfl rfl ?_
  refine WD.nil ?_
  refine S.mapDelete tOk keyS (fD := (fun s : Stg => DV.agg (stgD s))) (b.S) rfl rfl rfl rfl rfl rfl rfl (show _ = [FT (b.T), UT (b.U), ST (delL beqS b.S c.s.k), VT (b.V)] from rfl) ?_
  apply Yw
  apply Y3
  refine Yp rfl ?_
  apply Yn
  apply Yt
  exact ⟨_, rfl, rfl, (by rw [do_k4 (by assumption) (by assumption) (by assumption)]; exact LeG.refl _), (by rw [do_k4 (by assumption) (by assumption) (by assumption)]; rfl), rfl, (by rw [do_k4 (by assumption) (by assumption) (by assumption)]; rfl)⟩
 apply Y1
 iterate 2 refine Yp rfl ?_
 apply Yn
 refine W.cond rfl (fun c7=>?_) fun c7=>?_
 ·skip
  refine W.regionC 9 mixed rfl (by kernel_rfl) ?_
  iterate 9 refine Ym rfl rfl ?_
  refine WD.nil ?_
  refine S.mapUpdate tOk keyS (fD := (fun s : Svc => DV.agg (svD s))) (c.v) (b.V) rfl rfl rfl rfl rfl rfl rfl rfl (show _ = [FT (b.T), UT (b.U), ST (b.S), VT (setL beqS b.V c.v.n c.v)] from rfl) ?_
  apply Yw
  apply Y3
  refine Yp rfl ?_
  apply Yn
  apply Yt
  exact ⟨_, rfl, rfl, (by rw [do_k5 (by assumption) (by assumption) (by assumption)]; exact LeG.refl _), (by rw [do_k5 (by assumption) (by assumption) (by assumption)]; rfl), rfl, (by rw [do_k5 (by assumption) (by assumption) (by assumption)]; rfl)⟩
 apply Y1
 iterate 2 refine Yp rfl ?_
 apply Yn
 refine W.cond rfl (fun c8=>?_) fun c8=>?_
 ·skip
  refine W.regionC 7 mixed rfl (by kernel_rfl) ?_
  iterate 7 refine Ym rfl rfl ?_
  refine WD.nil ?_
  refine S.mapDelete tOk keyS (fD := (fun s : Svc => DV.agg (svD s))) (b.V) rfl rfl rfl rfl rfl rfl rfl (show _ = [FT (b.T), UT (b.U), ST (b.S), VT (delL beqS b.V c.v.n)] from rfl) ?_
  apply Yw
  apply Y3
  refine Yp rfl ?_
  apply Yn
  apply Yt
  exact ⟨_, rfl, rfl, (by rw [do_k6 (by assumption) (by assumption) (by assumption)]; exact LeG.refl _), (by rw [do_k6 (by assumption) (by assumption) (by assumption)]; rfl), rfl, (by rw [do_k6 (by assumption) (by assumption) (by assumption)]; rfl)⟩
 apply Yk
 apply Yw
 apply Y3
 refine Yp rfl ?_
 apply Yn
 apply Yt
 exact ⟨_, rfl, rfl, (by rw [do_k0 (by assumption) (by assumption) (by assumption) (by assumption) (by assumption) (by assumption) (by assumption) (by assumption)]; exact LeG.refl _), (by rw [do_k0 (by assumption) (by assumption) (by assumption) (by assumption) (by assumption) (by assumption) (by assumption) (by assumption)]; rfl), rfl, (by rw [do_k0 (by assumption) (by assumption) (by assumption) (by assumption) (by assumption) (by assumption) (by assumption) (by assumption)]; rfl)⟩
theorem pc_benchOf (m : Mac) (hm : MacA m) :
  HCall Tryz.prog J 107 ([.agg [.d (.vec 2 (m.fa.map stgD)), .d (.vec 3 (m.fl.map flD)), .d (.vec 2 (m.se.map stgD)), .d (.vec 4 (m.sv.map svD))]]) ([]) ([]) ([]) (isH (.one (.ptr 1 0)) ([[.d (.vec 2 (m.fa.map stgD)), .d (.vec 3 (m.fl.map flD)), .d (.vec 2 (m.se.map stgD)), .d (.vec 4 (m.sv.map svD))], [.d (.vec 2 ((bnOf m).fa.map stgD)), .map 0, .map 1, .map 2, .map 3]]) ([]) ([FT ((bnOf m).T), UT ((bnOf m).U), ST ((bnOf m).S), VT ((bnOf m).V)])) := by
 have h1 := hm.fa.n
 have h2 := hm.fl.n
 have h3 := hm.se.n
 have h4 := hm.sv.n
 refine HCall.ofD tOk ⟨2, 0, 4⟩ (fn := Tryz.f107) Tryz.func107 (by kernel_rfl) rfl (Nat.le_of_ble_eq_true rfl) (fun E => ?_)
 iterate 6 first|refine Yp rfl ?_|refine S.box rfl rfl rfl rfl ?_|apply Y3|apply Y1
 refine S.call rfl rfl rfl rfl rfl (pc_CloneS (m.fa.map stgD) (by rw [List.length_map]; omega)) ?_
 refine S.makeMap rfl ?_
 refine S.makeMap rfl ?_
 refine S.makeMap rfl ?_
 refine S.makeMap rfl ?_
 iterate 12 first|refine Yp rfl ?_|apply Yb|refine S.box rfl rfl rfl rfl ?_|apply Y1|apply Yn|apply Ys
 refine W.loop (fun k st => ∃ i : Nat, i ≤ m.fl.length ∧ k = m.fl.length - i ∧ ∃ t b2 r2 m2, st = ⟨t, [[.d (.vec 2 (m.fa.map stgD)), .d (.vec 3 (m.fl.map flD)), .d (.vec 2 (m.se.map stgD)), .d (.vec 4 (m.sv.map svD))], [.d (.vec 2 (m.fa.map stgD)), .map 0, .map 1, .map 2, .map 3]] ++ b2, [] ++ r2, [FT ((filTo m.fl i).1), UT ((filTo m.fl i).2), ST ([]), VT ([])] ++ m2⟩ ∧ holdsL t [(1, .one (.ptr 0 0)), (3, .one (.ptr 1 0)), (20, .one (.d (.vec 3 (m.fl.map flD)))), (21, .one (.d (.int .i64 ((m.fl.map flD).length : Int)))), (22, .one (.d (.int .i64 (i : Int))))]) (m.fl.length) ⟨0, Nat.zero_le _, rfl, _, _, _, _, rfl, rfl, rfl, rfl, rfl, rfl, trivial⟩ ?_
 rintro k0 _ ⟨i, f0_0, rfl, t0, bb0, rr0, mm0, rfl, hh0⟩
 refine W.keepR _ _ _ _ _ _ _ hh0 rfl ?_
 apply Y1
 refine Yp rfl ?_
 apply Yn
 apply Ys
 refine W.cond rfl (fun c1=>?_) fun c1=>?_
 ·skip
  have hi := row_lt (by assumption)
  apply Yk
  apply Yn
  apply Ys
  apply Yb
  apply Y1
  refine YE rfl (row_ok hi) (row_at Fl.z hi) rfl ?_
  iterate 6 first|refine Yp rfl ?_|refine S.store tOk rfl rfl rfl rfl rfl rfl rfl rfl ?_|refine S.alloc tOk rfl rfl rfl rfl ?_|apply Y4
  refine S.hcallD rfl rfl rfl rfl ((pc_put ⟨m.fa, (filTo m.fl i).1, (filTo m.fl i).2, [], []⟩ (m.fl.getD i Fl.z) _ (fil_s hi) (hm.fl.at (mem_getD (d := Fl.z) hi))).fd [1] [] [0, 1, 2, 3] rfl) ?_
  apply Yw
  apply Y4
  iterate 2 refine Yp rfl ?_
  refine loop_n (m.fl.length - (i + 1)) (by omega) ⟨i + 1, hi, rfl, _, _, _, _, rfl, rfl, rfl, rfl, rfl, inc_i64 (by omega), trivial⟩
 have hi := row_ge (by assumption)
 obtain rfl : i = m.fl.length := by omega
 iterate 13 first|refine Yp rfl ?_|apply Ye|apply Yb|apply Yx|apply Yq|apply Y1|apply Yn|apply Ys
 refine W.loop (fun k st => ∃ i : Nat, i ≤ m.se.length ∧ k = m.se.length - i ∧ ∃ t b2 r2 m2, st = ⟨t, [[.d (.vec 2 (m.fa.map stgD)), .d (.vec 3 (m.fl.map flD)), .d (.vec 2 (m.se.map stgD)), .d (.vec 4 (m.sv.map svD))], [.d (.vec 2 (m.fa.map stgD)), .map 0, .map 1, .map 2, .map 3]] ++ b2, [] ++ r2, [FT ((filTo m.fl m.fl.length).1), UT ((filTo m.fl m.fl.length).2), ST (tabToG (fun s : Stg => s.k) m.se i), VT ([])] ++ m2⟩ ∧ holdsL t [(1, .one (.ptr 0 0)), (3, .one (.ptr 1 0)), (31, .one (.d (.vec 2 (m.se.map stgD)))), (32, .one (.d (.int .i64 ((m.se.map stgD).length : Int)))), (33, .one (.d (.int .i64 (i : Int))))]) (m.se.length) ⟨0, Nat.zero_le _, rfl, _, _, _, _, rfl, rfl, rfl, rfl, rfl, rfl, trivial⟩ ?_
 rintro k2 _ ⟨i, f2_0, rfl, t2, bb2, rr2, mm2, rfl, hh2⟩
 refine W.keepR _ _ _ _ _ _ _ hh2 rfl ?_
 apply Y1
 refine Yp rfl ?_
 apply Yn
 apply Ys
 refine W.cond rfl (fun c2=>?_) fun c2=>?_
 ·skip
  have hi := row_lt (by assumption)
  apply Yk
  apply Yn
  apply Ys
  apply Yb
  apply Y1
  refine YE rfl (row_ok hi) (row_at Stg.z hi) rfl ?_
  refine Yp rfl ?_
  refine S.alloc tOk rfl rfl rfl rfl ?_
  refine S.store tOk rfl rfl rfl rfl rfl rfl rfl rfl ?_
  apply Yn
  refine W.regionC 7 mixed rfl (by kernel_rfl) ?_
  iterate 7 refine Ym rfl rfl ?_
  refine WD.nil ?_
  refine S.mapUpdate tOk keyS (fD := (fun s : Stg => DV.agg (stgD s))) ((m.se.getD i Stg.z)) (tabToG (fun s : Stg => s.k) m.se i) rfl rfl rfl rfl rfl rfl rfl rfl (show _ = [FT ((filTo m.fl m.fl.length).1), UT ((filTo m.fl m.fl.length).2), ST (tabToG (fun s : Stg => s.k) m.se (i + 1)), VT ([])] from congrArg (fun x => [FT ((filTo m.fl m.fl.length).1), UT ((filTo m.fl m.fl.length).2), ST (x), VT ([])]) (tabG_s (key := (fun s : Stg => s.k)) (z := Stg.z) hi)) ?_
  apply Yw
  apply Y4
  iterate 2 refine Yp rfl ?_
  refine loop_n (m.se.length - (i + 1)) (by omega) ⟨i + 1, hi, rfl, _, _, _, _, rfl, rfl, rfl, rfl, rfl, inc_i64 (by omega), trivial⟩
 have hi := row_ge (by assumption)
 obtain rfl : i = m.se.length := by omega
 iterate 13 first|refine Yp rfl ?_|apply Ye|apply Yb|apply Yx|apply Yq|apply Y1|apply Yn|apply Ys
 refine W.loop (fun k st => ∃ i : Nat, i ≤ m.sv.length ∧ k = m.sv.length - i ∧ ∃ t b2 r2 m2, st = ⟨t, [[.d (.vec 2 (m.fa.map stgD)), .d (.vec 3 (m.fl.map flD)), .d (.vec 2 (m.se.map stgD)), .d (.vec 4 (m.sv.map svD))], [.d (.vec 2 (m.fa.map stgD)), .map 0, .map 1, .map 2, .map 3]] ++ b2, [] ++ r2, [FT ((filTo m.fl m.fl.length).1), UT ((filTo m.fl m.fl.length).2), ST (tabToG (fun s : Stg => s.k) m.se m.se.length), VT (tabToG (fun s : Svc => s.n) m.sv i)] ++ m2⟩ ∧ holdsL t [(1, .one (.ptr 0 0)), (3, .one (.ptr 1 0)), (46, .one (.d (.vec 4 (m.sv.map svD)))), (47, .one (.d (.int .i64 ((m.sv.map svD).length : Int)))), (48, .one (.d (.int .i64 (i : Int))))]) (m.sv.length) ⟨0, Nat.zero_le _, rfl, _, _, _, _, rfl, rfl, rfl, rfl, rfl, rfl, trivial⟩ ?_
 rintro k4 _ ⟨i, f4_0, rfl, t4, bb4, rr4, mm4, rfl, hh4⟩
 refine W.keepR _ _ _ _ _ _ _ hh4 rfl ?_
 apply Y1
 refine Yp rfl ?_
 apply Yn
 apply Ys
 refine W.cond rfl (fun c3=>?_) fun c3=>?_
 ·skip
  have hi := row_lt (by assumption)
  apply Yk
  apply Yn
  apply Ys
  apply Yb
  apply Y1
  refine YE rfl (row_ok hi) (row_at Svc.z hi) rfl ?_
  refine Yp rfl ?_
  refine S.alloc tOk rfl rfl rfl rfl ?_
  refine S.store tOk rfl rfl rfl rfl rfl rfl rfl rfl ?_
  apply Yn
  refine W.regionC 7 mixed rfl (by kernel_rfl) ?_
  iterate 7 refine Ym rfl rfl ?_
  refine WD.nil ?_
  refine S.mapUpdate tOk keyS (fD := (fun s : Svc => DV.agg (svD s))) ((m.sv.getD i Svc.z)) (tabToG (fun s : Svc => s.n) m.sv i) rfl rfl rfl rfl rfl rfl rfl rfl (show _ = [FT ((filTo m.fl m.fl.length).1), UT ((filTo m.fl m.fl.length).2), ST (tabToG (fun s : Stg => s.k) m.se m.se.length), VT (tabToG (fun s : Svc => s.n) m.sv (i + 1))] from congrArg (fun x => [FT ((filTo m.fl m.fl.length).1), UT ((filTo m.fl m.fl.length).2), ST (tabToG (fun s : Stg => s.k) m.se m.se.length), VT (x)]) (tabG_s (key := (fun s : Svc => s.n)) (z := Svc.z) hi)) ?_
  apply Yw
  apply Y4
  iterate 2 refine Yp rfl ?_
  refine loop_n (m.sv.length - (i + 1)) (by omega) ⟨i + 1, hi, rfl, _, _, _, _, rfl, rfl, rfl, rfl, rfl, inc_i64 (by omega), trivial⟩
 have hi := row_ge (by assumption)
 obtain rfl : i = m.sv.length := by omega
 iterate 9 first|refine Yp rfl ?_|apply Ye|apply Yt|apply Yx|apply Yq|apply Y3|apply Yn
 exact ⟨_, rfl, rfl, LeG.refl _, rfl, rfl, (by rw [fil_end, tab_end, tab_end]; rfl)⟩
theorem pc_keys219 (es : List (DV × DV)) :
  HCall Tryz.prog J 219 ([.one (.map 0)]) ([]) ([]) ([es]) (isH (.one (.clo 254 [.ptr 0 0])) ([[.map 0]]) ([]) ([es])) := by
 refine HCall.ofD tOk ⟨1, 0, 1⟩ (fn := Tryz.f219) Tryz.func219 (by kernel_rfl) rfl (Nat.le_of_ble_eq_true rfl) (fun E => ?_)
 apply Y1
 refine S.box rfl rfl rfl rfl ?_
 refine Yp rfl ?_
 apply Y3
 refine S.makeFunc rfl rfl rfl ?_
 refine Yp rfl ?_
 apply Yn
 apply Yt
 exact ⟨_, rfl, rfl, LeG.refl _, rfl, rfl, rfl⟩
theorem pc_inOrderFile (u : TabG Fl) (hd : ndG u) (hl : ∀ x ∈ u, x.1.length ≤ 2000000) (hn : u.length ≤ 8000000) :
  HCall Tryz.prog J 163 ([.one (.map 0)]) ([]) ([]) ([FT u]) (isH (.one (.d (.vec 3 ((ordG Fl.z u).map flD)))) ([]) ([]) ([FT u])) := by
 have hkl := kyG_len u
 refine HCall.ofD tOk ⟨0, 0, 1⟩ (fn := Tryz.f163) Tryz.func163 (by kernel_rfl) rfl (Nat.le_of_ble_eq_true rfl) (fun E => ?_)
 iterate 8 first|refine Yp rfl ?_|apply Y1|apply Y3|apply Ys|apply Yn
 refine S.hcallD rfl rfl rfl rfl ((pc_keys219 (FT u))) ?_
 refine S.hcallD rfl rfl rfl rfl (pc_Sorted_219 u (by omega) (fun x hx => Nat.le_trans (hl x hx) (by decide)) hd) ?_
 iterate 2 refine Yp rfl ?_
 apply Yn
 refine W.newRow 3 3 38 rfl ?_
 apply Yb
 refine W.loop (fun k st => ∃ i : Nat, ∃ v : Nat, ∃ al : Bool, i ≤ (kyG u).length ∧ k = (kyG u).length - i ∧ ∃ t b2 r2 m2, st = ⟨t, [] ++ b2, [some ⟨al, v, 3, 38, (ordToG Fl.z u i).map flD⟩] ++ r2, [FT u] ++ m2⟩ ∧ holdsL t [(0, .one (.map 0)), (3, .one (.row 0 v 0 ((ordToG Fl.z u i).map flD).length)), (8, .one (.d (.vec 1 ((kyG u).map fun x => [.str x])))), (9, .one (.d (.int .i64 (((kyG u).map fun x => ([.str x] : List D)).length : Int)))), (10, .one (.d (.int .i64 (i : Int))))]) ((kyG u).length) ⟨0, _, _, Nat.zero_le _, rfl, _, _, _, _, rfl, rfl, rfl, rfl, rfl, rfl, trivial⟩ ?_
 rintro k0 _ ⟨i, v, al, f0_0, rfl, t0, bb0, rr0, mm0, rfl, hh0⟩
 refine W.keepR _ _ _ _ _ _ _ hh0 rfl ?_
 apply Y1
 refine Yp rfl ?_
 apply Yn
 apply Ys
 refine W.cond rfl (fun c1=>?_) fun c1=>?_
 ·skip
  have hi := row_lt c1
  have hll := ordToG_len Fl.z u (Nat.le_of_lt hi)
  apply Yk
  apply Yn
  apply Ys
  apply Yb
  apply Y1
  refine YE rfl (row_ok hi) (row_at [] hi) rfl ?_
  iterate 6 first|refine Yp rfl ?_|apply Y4
  refine S.lookup tOk keyS (fD := (fun f : Fl => DV.agg (flD f))) Fl.z (u) rfl rfl rfl rfl rfl rfl rfl rfl rfl rfl (show mapV false _ _ = V.agg [_, _, _] from rfl) ?_
  refine S.slice tOk rfl rfl ?_
  refine S.append tOk rfl rfl rfl rfl rfl rfl rfl rfl rfl rfl rfl rfl (by show _ + 1 ≤ _; rw [List.length_map, hll]; omega) rfl (ordToG_succ (f := flD) hi) rfl ?_
  iterate 5 first|refine Yp rfl ?_|apply Yw|apply Y4
  refine loop_n ((kyG u).length - (i + 1)) (by omega) ⟨i + 1, _, _, hi, rfl, _, _, _, _, rfl, rfl, rfl, rfl, rfl, inc_i64 (by omega), trivial⟩
 have hi := row_ge c1
 obtain rfl : i = (kyG u).length := by omega
 rw [ordToG_end]
 apply Yq
 apply Ye
 apply Ye
 apply Yx
 apply Yn
 apply Ys
 refine W.freeze (ri := 0) (q := ⟨_, _, _, _, _⟩) [3] rfl (by intro k hk; simp at hk; subst hk; rfl) ?_
 apply Yr
 iterate 2 refine Yp rfl ?_
 apply Yn
 apply Yt
 exact ⟨_, rfl, rfl, LeG.refl _, rfl, rfl, rfl⟩
theorem pc_keys220 (es : List (DV × DV)) :
  HCall Tryz.prog J 220 ([.one (.map 0)]) ([]) ([]) ([es]) (isH (.one (.clo 255 [.ptr 0 0])) ([[.map 0]]) ([]) ([es])) := by
 refine HCall.ofD tOk ⟨1, 0, 1⟩ (fn := Tryz.f220) Tryz.func220 (by kernel_rfl) rfl (Nat.le_of_ble_eq_true rfl) (fun E => ?_)
 apply Y1
 refine S.box rfl rfl rfl rfl ?_
 refine Yp rfl ?_
 apply Y3
 refine S.makeFunc rfl rfl rfl ?_
 refine Yp rfl ?_
 apply Yn
 apply Yt
 exact ⟨_, rfl, rfl, LeG.refl _, rfl, rfl, rfl⟩
theorem pc_inOrderSetting (u : TabG Stg) (hd : ndG u) (hl : ∀ x ∈ u, x.1.length ≤ 2000000) (hn : u.length ≤ 8000000) :
  HCall Tryz.prog J 164 ([.one (.map 0)]) ([]) ([]) ([ST u]) (isH (.one (.d (.vec 2 ((ordG Stg.z u).map stgD)))) ([]) ([]) ([ST u])) := by
 have hkl := kyG_len u
 refine HCall.ofD tOk ⟨0, 0, 1⟩ (fn := Tryz.f164) Tryz.func164 (by kernel_rfl) rfl (Nat.le_of_ble_eq_true rfl) (fun E => ?_)
 iterate 8 first|refine Yp rfl ?_|apply Y1|apply Y3|apply Ys|apply Yn
 refine S.hcallD rfl rfl rfl rfl ((pc_keys220 (ST u))) ?_
 refine S.hcallD rfl rfl rfl rfl (pc_Sorted_220 u (by omega) (fun x hx => Nat.le_trans (hl x hx) (by decide)) hd) ?_
 iterate 2 refine Yp rfl ?_
 apply Yn
 refine W.newRow 3 2 40 rfl ?_
 apply Yb
 refine W.loop (fun k st => ∃ i : Nat, ∃ v : Nat, ∃ al : Bool, i ≤ (kyG u).length ∧ k = (kyG u).length - i ∧ ∃ t b2 r2 m2, st = ⟨t, [] ++ b2, [some ⟨al, v, 2, 40, (ordToG Stg.z u i).map stgD⟩] ++ r2, [ST u] ++ m2⟩ ∧ holdsL t [(0, .one (.map 0)), (3, .one (.row 0 v 0 ((ordToG Stg.z u i).map stgD).length)), (8, .one (.d (.vec 1 ((kyG u).map fun x => [.str x])))), (9, .one (.d (.int .i64 (((kyG u).map fun x => ([.str x] : List D)).length : Int)))), (10, .one (.d (.int .i64 (i : Int))))]) ((kyG u).length) ⟨0, _, _, Nat.zero_le _, rfl, _, _, _, _, rfl, rfl, rfl, rfl, rfl, rfl, trivial⟩ ?_
 rintro k0 _ ⟨i, v, al, f0_0, rfl, t0, bb0, rr0, mm0, rfl, hh0⟩
 refine W.keepR _ _ _ _ _ _ _ hh0 rfl ?_
 apply Y1
 refine Yp rfl ?_
 apply Yn
 apply Ys
 refine W.cond rfl (fun c1=>?_) fun c1=>?_
 ·skip
  have hi := row_lt c1
  have hll := ordToG_len Stg.z u (Nat.le_of_lt hi)
  apply Yk
  apply Yn
  apply Ys
  apply Yb
  apply Y1
  refine YE rfl (row_ok hi) (row_at [] hi) rfl ?_
  iterate 6 first|refine Yp rfl ?_|apply Y4
  refine S.lookup tOk keyS (fD := (fun s : Stg => DV.agg (stgD s))) Stg.z (u) rfl rfl rfl rfl rfl rfl rfl rfl rfl rfl (show mapV false _ _ = V.agg [_, _] from rfl) ?_
  refine S.slice tOk rfl rfl ?_
  refine S.append tOk rfl rfl rfl rfl rfl rfl rfl rfl rfl rfl rfl rfl (by show _ + 1 ≤ _; rw [List.length_map, hll]; omega) rfl (ordToG_succ (f := stgD) hi) rfl ?_
  iterate 5 first|refine Yp rfl ?_|apply Yw|apply Y4
  refine loop_n ((kyG u).length - (i + 1)) (by omega) ⟨i + 1, _, _, hi, rfl, _, _, _, _, rfl, rfl, rfl, rfl, rfl, inc_i64 (by omega), trivial⟩
 have hi := row_ge c1
 obtain rfl : i = (kyG u).length := by omega
 rw [ordToG_end]
 apply Yq
 apply Ye
 apply Ye
 apply Yx
 apply Yn
 apply Ys
 refine W.freeze (ri := 0) (q := ⟨_, _, _, _, _⟩) [3] rfl (by intro k hk; simp at hk; subst hk; rfl) ?_
 apply Yr
 iterate 2 refine Yp rfl ?_
 apply Yn
 apply Yt
 exact ⟨_, rfl, rfl, LeG.refl _, rfl, rfl, rfl⟩
theorem pc_keys221 (es : List (DV × DV)) :
  HCall Tryz.prog J 221 ([.one (.map 0)]) ([]) ([]) ([es]) (isH (.one (.clo 256 [.ptr 0 0])) ([[.map 0]]) ([]) ([es])) := by
 refine HCall.ofD tOk ⟨1, 0, 1⟩ (fn := Tryz.f221) Tryz.func221 (by kernel_rfl) rfl (Nat.le_of_ble_eq_true rfl) (fun E => ?_)
 apply Y1
 refine S.box rfl rfl rfl rfl ?_
 refine Yp rfl ?_
 apply Y3
 refine S.makeFunc rfl rfl rfl ?_
 refine Yp rfl ?_
 apply Yn
 apply Yt
 exact ⟨_, rfl, rfl, LeG.refl _, rfl, rfl, rfl⟩
theorem pc_inOrderService (u : TabG Svc) (hd : ndG u) (hl : ∀ x ∈ u, x.1.length ≤ 2000000) (hn : u.length ≤ 8000000) :
  HCall Tryz.prog J 165 ([.one (.map 0)]) ([]) ([]) ([VT u]) (isH (.one (.d (.vec 4 ((ordG Svc.z u).map svD)))) ([]) ([]) ([VT u])) := by
 have hkl := kyG_len u
 refine HCall.ofD tOk ⟨0, 0, 1⟩ (fn := Tryz.f165) Tryz.func165 (by kernel_rfl) rfl (Nat.le_of_ble_eq_true rfl) (fun E => ?_)
 iterate 8 first|refine Yp rfl ?_|apply Y1|apply Y3|apply Ys|apply Yn
 refine S.hcallD rfl rfl rfl rfl ((pc_keys221 (VT u))) ?_
 refine S.hcallD rfl rfl rfl rfl (pc_Sorted_221 u (by omega) (fun x hx => Nat.le_trans (hl x hx) (by decide)) hd) ?_
 iterate 2 refine Yp rfl ?_
 apply Yn
 refine W.newRow 3 4 42 rfl ?_
 apply Yb
 refine W.loop (fun k st => ∃ i : Nat, ∃ v : Nat, ∃ al : Bool, i ≤ (kyG u).length ∧ k = (kyG u).length - i ∧ ∃ t b2 r2 m2, st = ⟨t, [] ++ b2, [some ⟨al, v, 4, 42, (ordToG Svc.z u i).map svD⟩] ++ r2, [VT u] ++ m2⟩ ∧ holdsL t [(0, .one (.map 0)), (3, .one (.row 0 v 0 ((ordToG Svc.z u i).map svD).length)), (8, .one (.d (.vec 1 ((kyG u).map fun x => [.str x])))), (9, .one (.d (.int .i64 (((kyG u).map fun x => ([.str x] : List D)).length : Int)))), (10, .one (.d (.int .i64 (i : Int))))]) ((kyG u).length) ⟨0, _, _, Nat.zero_le _, rfl, _, _, _, _, rfl, rfl, rfl, rfl, rfl, rfl, trivial⟩ ?_
 rintro k0 _ ⟨i, v, al, f0_0, rfl, t0, bb0, rr0, mm0, rfl, hh0⟩
 refine W.keepR _ _ _ _ _ _ _ hh0 rfl ?_
 apply Y1
 refine Yp rfl ?_
 apply Yn
 apply Ys
 refine W.cond rfl (fun c1=>?_) fun c1=>?_
 ·skip
  have hi := row_lt c1
  have hll := ordToG_len Svc.z u (Nat.le_of_lt hi)
  apply Yk
  apply Yn
  apply Ys
  apply Yb
  apply Y1
  refine YE rfl (row_ok hi) (row_at [] hi) rfl ?_
  iterate 6 first|refine Yp rfl ?_|apply Y4
  refine S.lookup tOk keyS (fD := (fun s : Svc => DV.agg (svD s))) Svc.z (u) rfl rfl rfl rfl rfl rfl rfl rfl rfl rfl (show mapV false _ _ = V.agg [_, _, _, _] from rfl) ?_
  refine S.slice tOk rfl rfl ?_
  refine S.append tOk rfl rfl rfl rfl rfl rfl rfl rfl rfl rfl rfl rfl (by show _ + 1 ≤ _; rw [List.length_map, hll]; omega) rfl (ordToG_succ (f := svD) hi) rfl ?_
  iterate 5 first|refine Yp rfl ?_|apply Yw|apply Y4
  refine loop_n ((kyG u).length - (i + 1)) (by omega) ⟨i + 1, _, _, hi, rfl, _, _, _, _, rfl, rfl, rfl, rfl, rfl, inc_i64 (by omega), trivial⟩
 have hi := row_ge c1
 obtain rfl : i = (kyG u).length := by omega
 rw [ordToG_end]
 apply Yq
 apply Ye
 apply Ye
 apply Yx
 apply Yn
 apply Ys
 refine W.freeze (ri := 0) (q := ⟨_, _, _, _, _⟩) [3] rfl (by intro k hk; simp at hk; subst hk; rfl) ?_
 apply Yr
 iterate 2 refine Yp rfl ?_
 apply Yn
 apply Yt
 exact ⟨_, rfl, rfl, LeG.refl _, rfl, rfl, rfl⟩
end
section
open Go Go.RowKit
inductive LeC : C → C → Prop where
 | refl (c : C) : LeC c c
 | nil (sz : Nat) : LeC (.d .nilsl) (.d (.vec sz []))
inductive LeCs : List C → List C → Prop where
 | nil : LeCs [] []
 | cons {a b : C} {l m : List C} (h : LeC a b) (t : LeCs l m) : LeCs (a :: l) (b :: m)
theorem LeC.rc {a b : C} (h : LeC a b) {g : Gh} {s : Sh} {w : World} {v : Value} (hx : RC g s w a v) : RC g s w b v := by
 cases h with
 | refl => exact hx
 | nil sz =>
  cases hx with | d _ _ h1 =>
  cases h1
  exact .d _ _ (.empty _ _ _)
theorem LeCs.at {l m : List C} (h : LeCs l m) : l.length = m.length ∧ ∀ (i : Nat) (c : C), m[i]? = some c → ∃ a, l[i]? = some a ∧ LeC a c := by
 induction h with
 | nil => exact ⟨rfl, fun i c h => by simp at h⟩
 | cons h _ ih =>
  refine ⟨by simp [ih.1], fun i c hc => ?_⟩
  cases i with
  | zero => simp at hc; subst hc; exact ⟨_, rfl, h⟩
  | succ i => exact ih.2 i c (by simpa using hc)
theorem LeV.agg {l m : List C} (h : LeCs l m) : LeV (.agg l) (.agg m) := fun im w v hv => by
 cases hv with | agg _ vs hl hx =>
 obtain ⟨h1, h2⟩ := h.at
 refine .agg _ _ (hl.trans h1) (fun i c v hc hv => ?_)
 obtain ⟨a, ha, hac⟩ := h2 i c hc
 exact hac.rc (hx i a v ha hv)
section
variable {J : Inv} {k0 : Lens} {E : Env J k0} {P : Program} {n : Nat} {t : Nat → V} {b : List (List C)} {r : List (Option RowO)} {m : List (List (DV × DV))}
theorem W.asVec {c : Code} {KK : Ex → St → Prop} (k sz : Nat) (hk : t k = .one (.d .nilsl)) (h : W E P n c KK ⟨upd t k (.one (.d (.vec sz []))), b, r, m⟩) : W E P n c KK ⟨t, b, r, m⟩ := by
 refine h.weaken fun g a w rel => ⟨g, rel.below, rel.ext, rel.imlt, rel.imold, rel.own, ⟨rel.heap.lt, rel.heap.new, rel.heap.inj, rel.heap.box, rel.heap.row, rel.heap.map⟩, rel.size, rel.defers, fun j hj => ?_⟩
 have h0 := rel.tmps j hj
 have e1 : (⟨t, b, r, m⟩ : St).t j = t j := rfl
 have e2 : (⟨upd t k (.one (.d (.vec sz []))), b, r, m⟩ : St).t j = upd t k (.one (.d (.vec sz []))) j := rfl
 rw [e1] at h0
 rw [e2]
 by_cases hij : k = j
 ·skip
  subst hij
  rw [upd_same]
  rw [hk] at h0
  exact LeG.nil sz _ _ _ _ h0
 ·skip
  rw [upd_ne _ _ hij]
  exact h0
end
end
section
open Go
open Go.RowKit
attribute [local irreducible] thenK blockK W
attribute [local irreducible] pathB nameB valueB listE svAt svE flE flO flAt stgO svO dirs dirTo stgAt clear paT prevP chkM bigM atK askP errC chgE cntU fltB confB gnB manyB putQ doB actB sortS bnOf macB runB appM appP ordG getL hasL setL delL
theorem le_mz {e : Int} {x : Mac × Int} (h : x = (Mac.z, e)) : LeV (.tup [.agg [.d .nilsl, .d .nilsl, .d .nilsl, .d .nilsl], .one (.d (.int .i64 e))]) (.tup [.agg [.d (.vec 2 (x.1.fa.map stgD)), .d (.vec 3 (x.1.fl.map flD)), .d (.vec 2 (x.1.se.map stgD)), .d (.vec 4 (x.1.sv.map svD))], .one (.d (.int .i64 x.2))]) := by
 subst h
 exact LeV.tup2 (LeV.agg (.cons (.nil 2) (.cons (.nil 3) (.cons (.nil 2) (.cons (.nil 4) .nil))))) (LeV.refl _)
theorem le_mo {b : Bn} {x : Mac × Int} (h : x = (macB b, 0)) : LeV (.tup [.agg [.d (.vec 2 (b.fa.map stgD)), .d (.vec 3 ((ordG Fl.z b.T).map flD)), .d (.vec 2 ((ordG Stg.z b.S).map stgD)), .d (.vec 4 ((ordG Svc.z b.V).map svD))], .one (.d (.int .i64 0))]) (.tup [.agg [.d (.vec 2 (x.1.fa.map stgD)), .d (.vec 3 (x.1.fl.map flD)), .d (.vec 2 (x.1.se.map stgD)), .d (.vec 4 (x.1.sv.map svD))], .one (.d (.int .i64 x.2))]) := by
 subst h; unfold macB; exact LeV.refl _
theorem pc_mach (b : Bn) (hb : BnA b) (hk : BnK b) :
  HCall Tryz.prog J 109 ([.one (.ptr 0 0)]) ([[.d (.vec 2 (b.fa.map stgD)), .map 0, .map 1, .map 2, .map 3]]) ([]) ([FT b.T, UT b.U, ST b.S, VT b.V]) (isH (.agg [.d (.vec 2 (b.fa.map stgD)), .d (.vec 3 ((ordG Fl.z b.T).map flD)), .d (.vec 2 ((ordG Stg.z b.S).map stgD)), .d (.vec 4 ((ordG Svc.z b.V).map svD))]) ([[.d (.vec 2 (b.fa.map stgD)), .map 0, .map 1, .map 2, .map 3]]) ([]) ([FT b.T, UT b.U, ST b.S, VT b.V])) := by
 have b0 := hk.fa
 have b1 := hb.t
 have b2 := hb.s
 have b3 := hb.v
 refine HCall.ofD tOk ⟨1, 0, 4⟩ (fn := Tryz.f109) Tryz.func109 (by kernel_rfl) rfl (Nat.le_of_ble_eq_true rfl) (fun E => ?_)
 apply Y1
 refine S.alloc tOk rfl rfl rfl rfl ?_
 apply Yn
 apply Ys
 refine W.regionC 21 mixed rfl (by kernel_rfl) ?_
 iterate 4 refine Ym rfl rfl ?_
 refine D.call rfl rfl rfl rfl rfl (pc_CloneS (b.fa.map stgD) (by rw [List.length_map]; omega)) ?_
 iterate 4 refine Ym rfl rfl ?_
 refine D.hcallD rfl rfl rfl rfl ((pc_inOrderFile b.T hk.t hk.tl (by omega)).fd [] [] [0] rfl) ?_
 iterate 4 refine Ym rfl rfl ?_
 refine D.hcallD rfl rfl rfl rfl ((pc_inOrderSetting b.S hk.s hk.sl (by omega)).fd [] [] [2] rfl) ?_
 iterate 4 refine Ym rfl rfl ?_
 refine D.hcallD rfl rfl rfl rfl ((pc_inOrderService b.V hk.v hk.vl (by omega)).fd [] [] [3] rfl) ?_
 refine Ym rfl rfl ?_
 refine WD.nil ?_
 refine S.store tOk rfl rfl rfl rfl rfl rfl rfl rfl ?_
 apply Yn
 apply Yt
 exact ⟨_, rfl, rfl, LeG.refl _, rfl, rfl, rfl⟩
theorem pc_apply (m : Mac) (hm : MacA m) (l : List Chm) (hn : l.length ≤ 2000000) (hl : ∀ c ∈ l, ChmA c) :
  PureCall Tryz.prog J 60 [.agg [.d (.vec 2 (m.fa.map stgD)), .d (.vec 3 (m.fl.map flD)), .d (.vec 2 (m.se.map stgD)), .d (.vec 4 (m.sv.map svD))], .one (.d (.vec 10 (l.map chmD)))] (.tup [.agg [.d (.vec 2 ((appM m l).1.fa.map stgD)), .d (.vec 3 ((appM m l).1.fl.map flD)), .d (.vec 2 ((appM m l).1.se.map stgD)), .d (.vec 4 ((appM m l).1.sv.map svD))], .one (.d (.int .i64 (appM m l).2))]) := by
 refine PureCall.of_body tOk (fn := Tryz.f60) Tryz.func60 (by kernel_rfl) rfl (Nat.le_of_ble_eq_true rfl) (fun E => ?_)
 iterate 6 first|refine Yp rfl ?_|refine S.alloc tOk rfl rfl rfl rfl ?_|refine S.box rfl rfl rfl rfl ?_|apply Y3|apply Y1
 refine S.hcallD rfl rfl rfl rfl ((pc_benchOf m hm).fd [] [] [] rfl) ?_
 iterate 9 first|refine Yp rfl ?_|apply Yb|apply Y1|apply Yn|apply Ys
 refine W.loop (fun k st => ∃ i : Nat, ∃ b : Bn, i ≤ l.length ∧ runB b (l.drop i) = runB (bnOf m) l ∧ BnK b ∧ BnS b i ∧ k = l.length - i ∧ ∃ t b2 r2 m2, st = ⟨t, [[.d (.vec 2 (m.fa.map stgD)), .d (.vec 3 (m.fl.map flD)), .d (.vec 2 (m.se.map stgD)), .d (.vec 4 (m.sv.map svD))], [.d .nilsl, .d .nilsl, .d .nilsl, .d .nilsl], [.d (.vec 2 (m.fa.map stgD)), .d (.vec 3 (m.fl.map flD)), .d (.vec 2 (m.se.map stgD)), .d (.vec 4 (m.sv.map svD))], [.d (.vec 2 (b.fa.map stgD)), .map 0, .map 1, .map 2, .map 3]] ++ b2, [] ++ r2, [FT b.T, UT b.U, ST b.S, VT b.V] ++ m2⟩ ∧ holdsL t [(4, .one (.ptr 1 0)), (6, .one (.ptr 3 0)), (12, .one (.d (.vec 10 (l.map chmD)))), (13, .one (.d (.int .i64 ((l.map chmD).length : Int)))), (14, .one (.d (.int .i64 (i : Int))))]) (l.length) ⟨0, bnOf m, Nat.zero_le _, rfl, bn_K hm, bn_S hm, rfl, _, _, _, _, rfl, rfl, rfl, rfl, rfl, rfl, trivial⟩ ?_
 rintro k0 _ ⟨i, b, f0_0, f0_1, f0_2, f0_3, rfl, t0, bb0, rr0, mm0, rfl, hh0⟩
 refine W.keepR _ _ _ _ _ _ _ hh0 rfl ?_
 apply Y1
 refine Yp rfl ?_
 apply Yn
 apply Ys
 refine W.cond rfl (fun c1=>?_) fun c1=>?_
 ·skip
  have hi := row_lt (by assumption)
  have hci := hl _ (mem_getD (d := Chm.z) hi)
  apply Yk
  apply Yn
  apply Ys
  apply Yb
  apply Y1
  refine YE rfl (row_ok hi) (row_at Chm.z hi) rfl ?_
  iterate 6 first|refine Yp rfl ?_|refine S.store tOk rfl rfl rfl rfl rfl rfl rfl rfl ?_|refine S.alloc tOk rfl rfl rfl rfl ?_|apply Y3
  refine S.hcallD rfl rfl rfl rfl ((pc_bdo b (f0_3.a (by omega)) (l.getD i Chm.z) hci).frameD (B' := [[.d (.vec 2 (m.fa.map stgD)), .d (.vec 3 (m.fl.map flD)), .d (.vec 2 (m.se.map stgD)), .d (.vec 4 (m.sv.map svD))], [.d .nilsl, .d .nilsl, .d .nilsl, .d .nilsl], [.d (.vec 2 (m.fa.map stgD)), .d (.vec 3 (m.fl.map flD)), .d (.vec 2 (m.se.map stgD)), .d (.vec 4 (m.sv.map svD))], [.d (.vec 2 ((doB b (l.getD i Chm.z)).1.fa.map stgD)), .map 0, .map 1, .map 2, .map 3], [.d (.int .i64 (l.getD i Chm.z).k), .d (.str (l.getD i Chm.z).f.p), .d (.str (l.getD i Chm.z).f.d), .d (.bool (l.getD i Chm.z).f.r), .d (.str (l.getD i Chm.z).s.k), .d (.str (l.getD i Chm.z).s.v), .d (.str (l.getD i Chm.z).v.n), .d (.str (l.getD i Chm.z).v.p), .d (.bool (l.getD i Chm.z).v.au), .d (.bool (l.getD i Chm.z).v.on)]]) (R' := []) (M' := [FT (doB b (l.getD i Chm.z)).1.T, UT (doB b (l.getD i Chm.z)).1.U, ST (doB b (l.getD i Chm.z)).1.S, VT (doB b (l.getD i Chm.z)).1.V]) [3] [] [0, 1, 2, 3] rfl rfl rfl rfl rfl rfl rfl rfl rfl) ?_
  iterate 5 first|refine Yp rfl ?_|apply Y3|apply Yn
  refine W.cond rfl (fun c2=>?_) fun c2=>?_
  ·skip
   have hz : ((doB b (l.getD i Chm.z)).2 != 0) = true := (by assumption)
   have hres := app_e (run_e hi f0_1 hz) hz
   iterate 12 first|apply Yu|refine Yp rfl ?_|apply Yv|apply Yt|refine S.store tOk rfl rfl rfl rfl rfl rfl rfl rfl ?_|apply Y1|apply Yn
   exact ⟨_, rfl, rfl, le_mz hres⟩
  have hz : ((doB b (l.getD i Chm.z)).2 != 0) = false := (by assumption)
  apply Yk
  apply Yw
  apply Y4
  iterate 2 refine Yp rfl ?_
  refine loop_n (l.length - (i + 1)) (by omega) ⟨i + 1, (doB b (l.getD i Chm.z)).1, hi, run_s hi f0_1 hz, do_K f0_2 hci, do_S f0_3, rfl, _, _, _, _, rfl, rfl, rfl, rfl, rfl, inc_i64 (by omega), trivial⟩
 have hi := row_ge (by assumption)
 have hres := app_o (run_o hi f0_1)
 apply Yq
 apply Ye
 apply Ye
 apply Yx
 apply Y3
 refine Yp rfl ?_
 refine S.hcallD rfl rfl rfl rfl ((pc_mach b (f0_3.a (by omega)) f0_2).fd (B' := [[.d (.vec 2 (m.fa.map stgD)), .d (.vec 3 (m.fl.map flD)), .d (.vec 2 (m.se.map stgD)), .d (.vec 4 (m.sv.map svD))], [.d .nilsl, .d .nilsl, .d .nilsl, .d .nilsl], [.d (.vec 2 (m.fa.map stgD)), .d (.vec 3 (m.fl.map flD)), .d (.vec 2 (m.se.map stgD)), .d (.vec 4 (m.sv.map svD))], [.d (.vec 2 (b.fa.map stgD)), .map 0, .map 1, .map 2, .map 3]]) (R' := []) (M' := [FT b.T, UT b.U, ST b.S, VT b.V]) [3] [] [0, 1, 2, 3] rfl) ?_
 refine S.store tOk rfl rfl rfl rfl rfl rfl rfl rfl ?_
 refine Yp rfl ?_
 apply Yn
 apply Yt
 exact ⟨_, rfl, rfl, le_mo hres⟩
theorem pc_Apply (m : Mac) (hm : MacA m) (l : List Chm) (hn : l.length ≤ 2000000) (hl : ∀ c ∈ l, ChmA c) :
  PureCall Tryz.prog J 12 [.agg [.d (.vec 2 (m.fa.map stgD)), .d (.vec 3 (m.fl.map flD)), .d (.vec 2 (m.se.map stgD)), .d (.vec 4 (m.sv.map svD))], .one (.d (.vec 10 (l.map chmD)))] (.tup [.agg [.d (.vec 2 ((appP m l).1.fa.map stgD)), .d (.vec 3 ((appP m l).1.fl.map flD)), .d (.vec 2 ((appP m l).1.se.map stgD)), .d (.vec 4 ((appP m l).1.sv.map svD))], .one (.d (.int .i64 (appP m l).2))]) := by
 refine PureCall.of_body tOk (fn := Tryz.f12) Tryz.func12 (by kernel_rfl) rfl (Nat.le_of_ble_eq_true rfl) (fun E => ?_)
 iterate 8 first|refine Yp rfl ?_|refine S.alloc tOk rfl rfl rfl rfl ?_|refine S.box rfl rfl rfl rfl ?_|apply Y1|apply Ys|apply Yn
 refine S.call rfl rfl rfl rfl rfl (pc_Check m hm) ?_
 iterate 5 first|refine Yp rfl ?_|apply Y3|apply Yn
 refine W.cond rfl (fun c1=>?_) fun c1=>?_
 ·skip
  iterate 8 first|refine Yp rfl ?_|apply Yu|apply Yt|refine S.store tOk rfl rfl rfl rfl rfl rfl rfl rfl ?_|apply Y1|apply Yn
  exact ⟨_, rfl, rfl, le_mz (app_1 c1)⟩
 apply Yk
 apply Y3
 iterate 2 refine Yp rfl ?_
 refine S.call rfl rfl rfl rfl rfl (pc_apply m hm l hn hl) ?_
 iterate 6 first|refine Yp rfl ?_|apply Yt|refine S.store tOk rfl rfl rfl rfl rfl rfl rfl rfl ?_|apply Yn
 exact ⟨_, rfl, rfl, by rw [app_2 c1]; exact LeV.refl _⟩
end
section
open Go
open Go.RowKit
attribute [local irreducible] thenK blockK W
attribute [local irreducible] nameB valueB listE firstNe
def ruleWs : List (List UInt8) := [[], [114, 101, 110, 97, 109, 101], [112, 114, 101, 102, 105, 120], [99, 111, 112, 121], [115, 101, 116], [100, 101, 102, 97, 117, 108, 116], [100, 114, 111, 112], [109, 97, 112], [115, 119, 97, 112]]
theorem pc_pathAB : PureCall Tryz.prog J 44 [.one (.d (.str [97, 47, 98]))] (.one (.d (.bool true))) := by
 have h := pc_ver_IsPath [97, 47, 98] (by decide)
 rw [path_ab] at h; exact h
theorem pc_valE : PureCall Tryz.prog J 92 [.one (.d (.str []))] (.one (.d (.bool true))) := by
 have h := pc_ver_IsValue [] (by decide)
 rw [val_e] at h; exact h
theorem pc_migrate_ruleWords  :
  PureCall Tryz.prog J 99 [] (.one (.d (.vec 1 (ruleWs.map fun x => [.str x])))) := by
 refine PureCall.of_body tOk (fn := Tryz.f99) Tryz.func99 (by kernel_rfl) rfl (Nat.le_of_ble_eq_true rfl) (fun E => ?_)
 apply Y1
 refine Yp rfl ?_
 apply Y3
 refine S.slice tOk rfl rfl ?_
 refine Yp rfl ?_
 apply Yn
 apply Yt
 exact ⟨_, rfl, rfl, LeV.refl _⟩
theorem pc_IndexS (l : List (List UInt8)) (x : List UInt8) (hl : l.length ≤ 1000000000) :
  PureCall Tryz.prog J 98 [.one (.d (.vec 1 (l.map fun x => [.str x]))), .one (.d (.str x))] (.one (.d (.int .i64 (idxOf (fun y => x == y) l)))) := by
 refine PureCall.of_body tOk (fn := Tryz.f98) Tryz.func98 (by kernel_rfl) rfl (Nat.le_of_ble_eq_true rfl) (fun E => ?_)
 iterate 9 first|refine Yp rfl ?_|apply Y1|apply Yn|apply Ys
 apply Yb
 refine W.loop (fun k st => ∃ i : Nat, i ≤ l.length ∧ (l.take i).any (fun y => x == y) = false ∧ k = l.length - i ∧ ∃ t b2 r2 m2, st = ⟨t, [] ++ b2, [] ++ r2, [] ++ m2⟩ ∧ holdsL t [(0, .one (.d (.vec 1 (l.map fun x => [.str x])))), (1, .one (.d (.str x))), (7, .one (.d (.int .i64 ((l.map fun x => ([.str x] : List D)).length : Int)))), (8, .one (.d (.int .i64 (i : Int))))]) (l.length) ⟨0, Nat.zero_le _, by simp, rfl, _, _, _, _, rfl, rfl, rfl, rfl, rfl, trivial⟩ ?_
 rintro k0 _ ⟨i, f0_0, f0_1, rfl, t0, bb0, rr0, mm0, rfl, hh0⟩
 refine W.keepR _ _ _ _ _ _ _ hh0 rfl ?_
 apply Y1
 refine Yp rfl ?_
 apply Yn
 apply Ys
 refine W.cond rfl (fun c1=>?_) fun c1=>?_
 ·skip
  have hi := row_lt c1
  iterate 11 first|refine Yp rfl ?_|apply Yb|apply Yk|apply Y3|apply Y1|apply Ys|apply Yn
  refine YE rfl (row_ok hi) (row_at [] hi) rfl ?_
  iterate 2 refine Yp rfl ?_
  apply Yn
  refine W.cond rfl (fun c2=>?_) fun c2=>?_
  ·skip
   iterate 10 first|apply Yu|apply Yv|refine Yp rfl ?_|apply Yt|apply Y1|apply Yn
   exact ⟨_, rfl, rfl, LeV.of_eq (congrArg (fun x => V.one (C.d (D.int .i64 x))) (idxOf_at (d := []) hi f0_1 c2).symm)⟩
  apply Yk
  apply Yw
  apply Y4
  iterate 2 refine Yp rfl ?_
  refine loop_n (l.length - (i + 1)) (by omega) ⟨i + 1, hi, any_take (d := []) hi f0_1 c2, rfl, _, _, _, _, rfl, rfl, rfl, rfl, inc_i64 (by omega), trivial⟩
 have hi := row_ge c1
 apply Yq
 apply Ye
 apply Ye
 apply Yx
 apply Y3
 refine Yp rfl ?_
 apply Yn
 apply Yt
 exact ⟨_, rfl, rfl, LeV.of_eq (congrArg (fun x => V.one (C.d (D.int .i64 x))) (idxOf_none (any_end hi f0_1)).symm)⟩
theorem pc_idx6 : PureCall Tryz.prog J 98 [.one (.d (.vec 1 (ruleWs.map fun x => [.str x]))), .one (.d (.str [100, 114, 111, 112]))] (.one (.d (.int .i64 6))) := by
 have h := pc_IndexS ruleWs [100, 114, 111, 112] (by decide)
 rw [show idxOf (fun y => [100, 114, 111, 112] == y) ruleWs = 6 from by decide] at h
 exact h
theorem pc_cutA : PureCall Tryz.prog J 53 [.one (.d (.str [100, 114, 111, 112, 32, 97, 47, 98])), .one (.d (.str [32]))] (.tup [.one (.d (.str [100, 114, 111, 112])), .one (.d (.str [97, 47, 98])), .one (.d (.bool true))]) := by
 have h := pc_Cut [100, 114, 111, 112, 32, 97, 47, 98] [32] (by decide)
 rw [show Lib.cut [100, 114, 111, 112, 32, 97, 47, 98] [32] = ([100, 114, 111, 112], [97, 47, 98], true) from by decide] at h
 exact h
theorem pc_cutB : PureCall Tryz.prog J 53 [.one (.d (.str [97, 47, 98])), .one (.d (.str [32]))] (.tup [.one (.d (.str [97, 47, 98])), .one (.d (.str [])), .one (.d (.bool false))]) := by
 have h := pc_Cut [97, 47, 98] [32] (by decide)
 rw [show Lib.cut [97, 47, 98] [32] = ([97, 47, 98], [], false) from by decide] at h
 exact h
theorem pc_uses6  :
  PureCall Tryz.prog J 100 [.one (.d (.int .i64 6))] (.tup [.one (.d (.bool false)), .one (.d (.bool false)), .one (.d (.bool false))]) := by
 refine PureCall.of_body tOk (fn := Tryz.f100) Tryz.func100 (by kernel_rfl) rfl (Nat.le_of_ble_eq_true rfl) (fun E => ?_)
 iterate 15 first|refine Yp rfl ?_|apply Yb|apply Y1|apply Yn|apply Ys
 refine W.condF rfl rfl ?_
 apply Y1
 iterate 2 refine Yp rfl ?_
 apply Yn
 refine W.condF rfl rfl ?_
 apply Yr
 iterate 2 refine Yp rfl ?_
 apply Yn
 refine W.condF rfl rfl ?_
 apply Ys
 apply Y1
 iterate 2 refine Yp rfl ?_
 apply Yn
 refine W.condF rfl rfl ?_
 apply Yr
 iterate 2 refine Yp rfl ?_
 apply Yn
 refine W.condF rfl rfl ?_
 apply Ys
 apply Y1
 iterate 2 refine Yp rfl ?_
 apply Yn
 refine W.condF rfl rfl ?_
 apply Yr
 iterate 2 refine Yp rfl ?_
 apply Yn
 refine W.condF rfl rfl ?_
 apply Yk
 apply Yw
 apply Y3
 iterate 3 refine Yp rfl ?_
 apply Yn
 apply Yt
 exact ⟨_, rfl, rfl, LeV.refl _⟩
theorem pc_migrate_below (a b : List UInt8) (hb : b.length ≤ 1000000000) :
  PureCall Tryz.prog J 155 [.one (.d (.str a)), .one (.d (.str b))] (.one (.d (.bool (Lib.hasPrefix a (b ++ [47]))))) := by
 refine PureCall.of_body tOk (fn := Tryz.f155) Tryz.func155 (by kernel_rfl) rfl (Nat.le_of_ble_eq_true rfl) (fun E => ?_)
 iterate 5 first|refine Yp rfl ?_|apply Y3|apply Y1
 refine YP rfl (cat_ok (by simp [-List.getD_eq_getElem?_getD]; omega)) rfl ?_
 refine S.call rfl rfl rfl rfl rfl (pc_HasPrefix a (b ++ [47])) ?_
 refine Yp rfl ?_
 apply Yn
 apply Yt
 exact ⟨_, rfl, rfl, LeV.refl _⟩
theorem pc_CheckRule6  :
  PureCall Tryz.prog J 104 [.agg [.d (.int .i64 6), .d (.str [97, 47, 98]), .d (.str []), .d (.str []), .d (.str [])]] (.one (.d (.int .i64 0))) := by
 refine PureCall.of_body tOk (fn := Tryz.f104) Tryz.func104 (by kernel_rfl) rfl (Nat.le_of_ble_eq_true rfl) (fun E => ?_)
 iterate 15 first|refine S.pickOr tOk zOk rfl rfl tg ?_|refine Yp rfl ?_|refine Yg rfl rfl tg ?_|refine S.box rfl rfl rfl rfl ?_|apply Y1|apply Yn|apply Ys
 refine W.condF rfl rfl ?_
 apply Yk
 apply Y3
 iterate 2 refine Yp rfl ?_
 refine S.call rfl rfl rfl rfl rfl (pc_uses6) ?_
 iterate 13 first|refine Yp rfl ?_|apply Yb|apply Y1|apply Ys|apply Yn
 refine S.call rfl rfl rfl rfl rfl (pc_pathAB) ?_
 iterate 6 first|refine Yg rfl rfl tg ?_|refine Yp rfl ?_
 refine S.callG rfl rfl rfl rfl tg rfl rfl (fun _ => pc_ver_IsPath [] (by decide)) ?_
 refine Yg rfl rfl tg ?_
 refine S.pickAndG tOk zOk rfl rfl rfl tg tg ?_
 refine S.pickOr tOk zOk rfl rfl tg ?_
 refine Yp rfl ?_
 apply Yn
 refine W.condF rfl rfl ?_
 iterate 29 first|refine S.pickOr tOk zOk rfl rfl tg ?_|refine S.pickAndG tOk zOk rfl rfl rfl tg tg ?_|refine S.pickAnd tOk zOk rfl rfl tg ?_|refine Yg rfl rfl tg ?_|refine Yp rfl ?_|apply Y1
 refine S.callG rfl rfl rfl rfl tg rfl rfl (fun _ => pc_valE) ?_
 iterate 5 first|refine S.pickOr tOk zOk rfl rfl tg ?_|refine Yg rfl rfl tg ?_|refine Yp rfl ?_
 refine S.callG rfl rfl rfl rfl tg rfl rfl (fun _ => pc_valE) ?_
 refine Yg rfl rfl tg ?_
 refine S.pickOr tOk zOk rfl rfl tg ?_
 refine Yp rfl ?_
 apply Yn
 refine W.condF rfl rfl ?_
 iterate 11 first|refine S.pickAnd tOk zOk rfl rfl tg ?_|refine Yg rfl rfl tg ?_|refine Yp rfl ?_|apply Y1|apply Yn
 refine W.condF rfl rfl ?_
 iterate 9 first|refine Yg rfl rfl tg ?_|refine Yp rfl ?_|apply Y1
 refine S.callG rfl rfl rfl rfl tg rfl rfl (fun _ => pc_migrate_below [97, 47, 98] [] (by decide)) ?_
 iterate 5 refine Yg rfl rfl tg ?_
 refine S.callG rfl rfl rfl rfl tg rfl rfl (fun _ => pc_migrate_below [] [97, 47, 98] (by decide)) ?_
 refine S.pickOrG tOk zOk rfl rfl rfl tg tg ?_
 refine S.pickAnd tOk zOk rfl rfl tg ?_
 refine Yp rfl ?_
 apply Yn
 refine W.condF rfl rfl ?_
 iterate 11 first|refine S.pickAnd tOk zOk rfl rfl tg ?_|refine Yg rfl rfl tg ?_|refine Yp rfl ?_|apply Y1|apply Yn
 refine W.condF rfl rfl ?_
 apply Yk
 apply Yw
 apply Y3
 refine Yp rfl ?_
 apply Yn
 apply Yt
 exact ⟨_, rfl, rfl, LeV.refl _⟩
theorem pc_ParseRule6  :
  PureCall Tryz.prog J 48 [.one (.d (.str [100, 114, 111, 112, 32, 97, 47, 98]))] (.tup [.agg [.d (.int .i64 6), .d (.str [97, 47, 98]), .d (.str []), .d (.str []), .d (.str [])], .one (.d (.int .i64 0))]) := by
 refine PureCall.of_body tOk (fn := Tryz.f48) Tryz.func48 (by kernel_rfl) rfl (Nat.le_of_ble_eq_true rfl) (fun E => ?_)
 iterate 10 first|refine Yp rfl ?_|refine S.alloc tOk rfl rfl rfl rfl ?_|apply Y1|apply Yn|apply Ys
 refine W.condF rfl rfl ?_
 apply Yk
 apply Y3
 refine Yp rfl ?_
 refine S.call rfl rfl rfl rfl rfl (pc_cutA) ?_
 iterate 7 refine Yp rfl ?_
 apply Y3
 refine S.call rfl rfl rfl rfl rfl (pc_migrate_ruleWords) ?_
 refine Yp rfl ?_
 refine S.call rfl rfl rfl rfl rfl (pc_idx6) ?_
 iterate 14 first|refine S.pickOr tOk zOk rfl rfl tg ?_|refine Yp rfl ?_|refine Yg rfl rfl tg ?_|refine S.store tOk rfl rfl rfl rfl rfl rfl rfl rfl ?_|refine S.alloc tOk rfl rfl rfl rfl ?_|apply Y1|apply Yn|apply Ys
 refine W.condF rfl rfl ?_
 apply Yk
 apply Y3
 iterate 2 refine Yp rfl ?_
 refine S.call rfl rfl rfl rfl rfl (pc_uses6) ?_
 iterate 11 first|refine Yp rfl ?_|apply Y3
 refine S.call rfl rfl rfl rfl rfl (pc_cutB) ?_
 iterate 19 first|refine Yp rfl ?_|refine Yg rfl rfl tg ?_|refine S.store tOk rfl rfl rfl rfl rfl rfl rfl rfl ?_|apply Y1|apply Ys|apply Yn
 refine S.pickOrG tOk zOk rfl rfl rfl tg tg ?_
 iterate 2 refine Yg rfl rfl tg ?_
 refine S.pickOrG tOk zOk rfl rfl rfl tg tg ?_
 refine Yg rfl rfl tg ?_
 refine S.pickOr tOk zOk rfl rfl tg ?_
 apply Yn
 refine W.condF rfl rfl ?_
 apply Yk
 apply Yn
 apply Ys
 apply Y1
 refine Yp rfl ?_
 apply Yn
 refine W.condF rfl rfl ?_
 apply Yk
 apply Yn
 apply Ys
 apply Y1
 refine Yp rfl ?_
 apply Yn
 refine W.condF rfl rfl ?_
 apply Yk
 apply Yn
 apply Ys
 apply Y1
 refine Yp rfl ?_
 apply Yn
 refine W.condF rfl rfl ?_
 iterate 7 first|refine Yp rfl ?_|apply Yk|apply Y1|apply Yn|apply Ys
 refine W.condF rfl rfl ?_
 apply Yk
 apply Yn
 apply Ys
 apply Y1
 refine Yp rfl ?_
 refine S.call rfl rfl rfl rfl rfl (pc_CheckRule6) ?_
 iterate 5 first|refine Yp rfl ?_|apply Y3|apply Yn
 refine W.condF rfl rfl ?_
 iterate 7 first|refine Yp rfl ?_|apply Yt|refine S.store tOk rfl rfl rfl rfl rfl rfl rfl rfl ?_|apply Yk|apply Y3|apply Yn
 exact ⟨_, rfl, rfl, LeV.refl _⟩
theorem pc_outlaw2_migrates  :
  PureCall Tryz.prog J 8 [] (.one (.d (.bool true))) := by
 refine PureCall.of_body tOk (fn := Tryz.f8) Tryz.func8 (by kernel_rfl) rfl (Nat.le_of_ble_eq_true rfl) (fun E => ?_)
 apply Y1
 refine Yp rfl ?_
 apply Y3
 refine S.call rfl rfl rfl rfl rfl (pc_ParseRule6) ?_
 iterate 17 first|refine S.pickAnd tOk zOk rfl rfl tg ?_|refine Yp rfl ?_|refine Yg rfl rfl tg ?_|apply Yt|refine S.store tOk rfl rfl rfl rfl rfl rfl rfl rfl ?_|refine S.alloc tOk rfl rfl rfl rfl ?_|apply Y3|apply Yn
 exact ⟨_, rfl, rfl, LeV.refl _⟩
end
section
open Go
open Go.RowKit
attribute [local irreducible] thenK blockK W
attribute [local irreducible] pathB nameB valueB listE flE flO stgO svO dirs clear chkM bigM atK askP chgE fltB doB bnOf macB runB appM appP ordG stpE chgQ refQ doP doA doAllP idxOf
theorem pc_IndexF (l : List Fl) (x : Fl) (hl : l.length ≤ 1000000000) :
  PureCall Tryz.prog J 167 [.one (.d (.vec 3 (l.map flD))), .agg [.d (.str x.p), .d (.str x.d), .d (.bool x.r)]] (.one (.d (.int .i64 (idxOf (fun y => flB x y) l)))) := by
 refine PureCall.of_body tOk (fn := Tryz.f167) Tryz.func167 (by kernel_rfl) rfl (Nat.le_of_ble_eq_true rfl) (fun E => ?_)
 iterate 11 first|refine Yp rfl ?_|apply Yb|refine S.box rfl rfl rfl rfl ?_|apply Y1|apply Yn|apply Ys
 refine W.loop (fun k st => ∃ i : Nat, i ≤ l.length ∧ (l.take i).any (fun y => flB x y) = false ∧ k = l.length - i ∧ ∃ t b2 r2 m2, st = ⟨t, [[.d (.str x.p), .d (.str x.d), .d (.bool x.r)]] ++ b2, [] ++ r2, [] ++ m2⟩ ∧ holdsL t [(0, .one (.d (.vec 3 (l.map flD)))), (3, .one (.ptr 0 0)), (7, .one (.d (.int .i64 ((l.map flD).length : Int)))), (8, .one (.d (.int .i64 (i : Int))))]) (l.length) ⟨0, Nat.zero_le _, by simp, rfl, _, _, _, _, rfl, rfl, rfl, rfl, rfl, trivial⟩ ?_
 rintro k0 _ ⟨i, f0_0, f0_1, rfl, t0, bb0, rr0, mm0, rfl, hh0⟩
 refine W.keepR _ _ _ _ _ _ _ hh0 rfl ?_
 apply Y1
 refine Yp rfl ?_
 apply Yn
 apply Ys
 refine W.cond rfl (fun c1=>?_) fun c1=>?_
 ·skip
  have hi := row_lt c1
  iterate 9 first|refine Yp rfl ?_|apply Yb|apply Yk|apply Y1|apply Ys|apply Yn
  refine W.regionD mixed (by kernel_rfl) ?_
  iterate 3 refine Ym rfl rfl ?_
  refine D.pureE tOk zOk rfl rfl (row_ok hi) (row_at Fl.z hi) rfl ?_
  iterate 2 refine Ym rfl rfl ?_
  apply Yn
  refine W.cond rfl (fun c2=>?_) fun c2=>?_
  ·skip
   have c2 : flB x (l.getD i Fl.z) = true := c2
   iterate 10 first|apply Yu|apply Yv|refine Yp rfl ?_|apply Yt|apply Y1|apply Yn
   exact ⟨_, rfl, rfl, LeV.of_eq (congrArg (fun x => V.one (C.d (D.int .i64 x))) ((idxOf_at (φ := fun y => flB x y) (d := Fl.z) hi f0_1 c2).symm))⟩
  have c2 : flB x (l.getD i Fl.z) = false := c2
  apply Yk
  apply Yw
  apply Y4
  iterate 2 refine Yp rfl ?_
  refine loop_n (l.length - (i + 1)) (by omega) ⟨i + 1, hi, any_take (d := Fl.z) hi f0_1 c2, rfl, _, _, _, _, rfl, rfl, rfl, rfl, inc_i64 (by omega), trivial⟩
 have hi := row_ge c1
 apply Yq
 apply Ye
 apply Ye
 apply Yx
 apply Y3
 refine Yp rfl ?_
 apply Yn
 apply Yt
 exact ⟨_, rfl, rfl, LeV.of_eq (congrArg (fun x => V.one (C.d (D.int .i64 x))) ((idxOf_none (any_end hi f0_1)).symm))⟩
theorem pc_ContainsF (l : List Fl) (x : Fl) (hl : l.length ≤ 1000000000) :
  PureCall Tryz.prog J 111 [.one (.d (.vec 3 (l.map flD))), .agg [.d (.str x.p), .d (.str x.d), .d (.bool x.r)]] (.one (.d (.bool (l.any (fun y => flB x y))))) := by
 refine PureCall.of_body tOk (fn := Tryz.f111) Tryz.func111 (by kernel_rfl) rfl (Nat.le_of_ble_eq_true rfl) (fun E => ?_)
 iterate 6 first|refine Yp rfl ?_|refine S.box rfl rfl rfl rfl ?_|apply Y3|apply Y1
 refine S.call rfl rfl rfl rfl rfl (pc_IndexF l x hl) ?_
 iterate 2 refine Yp rfl ?_
 apply Yn
 apply Yt
 exact ⟨_, rfl, rfl, LeV.of_eq (congrArg (fun x => V.one (C.d (D.bool x))) idxOf_ge)⟩
theorem pc_IndexFuncFile (f : Nat) (caps : List C) (b : List (List C)) (r : List (Option RowO)) (m : List (List (DV × DV))) (φ : Fl → Bool) (l : List Fl) (hl : l.length ≤ 1000000000) (hc : ∀ d ∈ l, HCall Tryz.prog J f (.agg [.d (.str d.p), .d (.str d.d), .d (.bool d.r)] :: caps.map V.one) b r m (isH (.one (.d (.bool (φ d)))) b r m)) :
  HCall Tryz.prog J 56 ([.one (.d (.vec 3 (l.map flD))), .one (.clo f caps)]) (b) (r) (m) (isH (.one (.d (.int .i64 (idxOf φ l)))) (b) (r) (m)) := by
 have hmap : (l.map flD).length = l.length := List.length_map _
 refine HCall.ofN tOk (fn := Tryz.f56) Tryz.func56 (by kernel_rfl) rfl (Nat.le_of_ble_eq_true rfl) (fun E => ?_)
 iterate 9 first|refine Yp rfl ?_|apply Y1|apply Yn|apply Ys
 apply Yb
 refine W.loop (fun k st => ∃ i : Nat, i ≤ l.length ∧ (l.take i).any φ = false ∧ k = l.length - i ∧ ∃ t, st = ⟨t, b, r, m⟩ ∧ holdsL t [(0, .one (.d (.vec 3 (l.map flD)))), (1, .one (.clo f caps)), (6, .one (.d (.vec 3 (l.map flD)))), (7, .one (.d (.int .i64 ((l.map flD).length : Int)))), (8, .one (.d (.int .i64 (i : Int))))]) (l.length) ⟨0, Nat.zero_le _, by simp, rfl, _, rfl, rfl, rfl, rfl, rfl, rfl, trivial⟩ ?_
 rintro k0 _ ⟨i, f0_0, f0_1, rfl, t0, rfl, hh0⟩
 refine W.keep _ hh0 ?_
 apply Y1
 refine Yp rfl ?_
 apply Yn
 apply Ys
 refine W.cond rfl (fun c1=>?_) fun c1=>?_
 ·skip
  have hi := row_lt c1
  iterate 11 first|refine Yp rfl ?_|apply Yb|apply Yk|apply Y3|apply Y1|apply Ys|apply Yn
  refine YE rfl (row_ok hi) (row_at Fl.z hi) rfl ?_
  refine Yp rfl ?_
  refine S.hcallU rfl rfl rfl (hc (l.getD i Fl.z) (mem_getD (d := Fl.z) hi)) ?_
  apply Yn
  refine W.cond rfl (fun c2=>?_) fun c2=>?_
  ·skip
   iterate 10 first|apply Yu|apply Yv|refine Yp rfl ?_|apply Yt|apply Y1|apply Yn
   exact ⟨_, rfl, LeG.of_eq (congrArg (fun x => V.one (C.d (D.int .i64 x))) ((idxOf_at (d := Fl.z) hi f0_1 c2).symm)), rfl, rfl, rfl⟩
  apply Yk
  apply Yw
  apply Y4
  iterate 2 refine Yp rfl ?_
  refine loop_n (l.length - (i + 1)) (by omega) ⟨i + 1, hi, any_take (d := Fl.z) hi f0_1 c2, rfl, _, rfl, rfl, rfl, rfl, rfl, inc_i64 (by omega), trivial⟩
 have hi := row_ge c1
 apply Yq
 apply Ye
 apply Ye
 apply Yx
 apply Y3
 refine Yp rfl ?_
 apply Yn
 apply Yt
 exact ⟨_, rfl, LeG.of_eq (congrArg (fun x => V.one (C.d (D.int .i64 x))) ((idxOf_none (any_end hi f0_1)).symm)), rfl, rfl, rfl⟩
theorem pc_IndexFuncService (f : Nat) (caps : List C) (b : List (List C)) (r : List (Option RowO)) (m : List (List (DV × DV))) (φ : Svc → Bool) (l : List Svc) (hl : l.length ≤ 1000000000) (hc : ∀ d ∈ l, HCall Tryz.prog J f (.agg [.d (.str d.n), .d (.str d.p), .d (.bool d.au), .d (.bool d.on)] :: caps.map V.one) b r m (isH (.one (.d (.bool (φ d)))) b r m)) :
  HCall Tryz.prog J 58 ([.one (.d (.vec 4 (l.map svD))), .one (.clo f caps)]) (b) (r) (m) (isH (.one (.d (.int .i64 (idxOf φ l)))) (b) (r) (m)) := by
 have hmap : (l.map svD).length = l.length := List.length_map _
 refine HCall.ofN tOk (fn := Tryz.f58) Tryz.func58 (by kernel_rfl) rfl (Nat.le_of_ble_eq_true rfl) (fun E => ?_)
 iterate 9 first|refine Yp rfl ?_|apply Y1|apply Yn|apply Ys
 apply Yb
 refine W.loop (fun k st => ∃ i : Nat, i ≤ l.length ∧ (l.take i).any φ = false ∧ k = l.length - i ∧ ∃ t, st = ⟨t, b, r, m⟩ ∧ holdsL t [(0, .one (.d (.vec 4 (l.map svD)))), (1, .one (.clo f caps)), (6, .one (.d (.vec 4 (l.map svD)))), (7, .one (.d (.int .i64 ((l.map svD).length : Int)))), (8, .one (.d (.int .i64 (i : Int))))]) (l.length) ⟨0, Nat.zero_le _, by simp, rfl, _, rfl, rfl, rfl, rfl, rfl, rfl, trivial⟩ ?_
 rintro k0 _ ⟨i, f0_0, f0_1, rfl, t0, rfl, hh0⟩
 refine W.keep _ hh0 ?_
 apply Y1
 refine Yp rfl ?_
 apply Yn
 apply Ys
 refine W.cond rfl (fun c1=>?_) fun c1=>?_
 ·skip
  have hi := row_lt c1
  iterate 11 first|refine Yp rfl ?_|apply Yb|apply Yk|apply Y3|apply Y1|apply Ys|apply Yn
  refine YE rfl (row_ok hi) (row_at Svc.z hi) rfl ?_
  refine Yp rfl ?_
  refine S.hcallU rfl rfl rfl (hc (l.getD i Svc.z) (mem_getD (d := Svc.z) hi)) ?_
  apply Yn
  refine W.cond rfl (fun c2=>?_) fun c2=>?_
  ·skip
   iterate 10 first|apply Yu|apply Yv|refine Yp rfl ?_|apply Yt|apply Y1|apply Yn
   exact ⟨_, rfl, LeG.of_eq (congrArg (fun x => V.one (C.d (D.int .i64 x))) ((idxOf_at (d := Svc.z) hi f0_1 c2).symm)), rfl, rfl, rfl⟩
  apply Yk
  apply Yw
  apply Y4
  iterate 2 refine Yp rfl ?_
  refine loop_n (l.length - (i + 1)) (by omega) ⟨i + 1, hi, any_take (d := Svc.z) hi f0_1 c2, rfl, _, rfl, rfl, rfl, rfl, rfl, inc_i64 (by omega), trivial⟩
 have hi := row_ge c1
 apply Yq
 apply Ye
 apply Ye
 apply Yx
 apply Y3
 refine Yp rfl ?_
 apply Yn
 apply Yt
 exact ⟨_, rfl, LeG.of_eq (congrArg (fun x => V.one (C.d (D.int .i64 x))) ((idxOf_none (any_end hi f0_1)).symm)), rfl, rfl, rfl⟩
theorem pc_EqualM (l : List Chm) (hl : l.length ≤ 1000000000) :
  PureCall Tryz.prog J 14 [.one (.d (.vec 10 (l.map chmD))), .one (.d (.vec 10 (l.map chmD)))] (.one (.d (.bool true))) := by
 refine PureCall.of_body tOk (fn := Tryz.f14) Tryz.func14 (by kernel_rfl) rfl (Nat.le_of_ble_eq_true rfl) (fun E => ?_)
 iterate 11 first|refine Yp rfl ?_|apply Y1|apply Yn|apply Ys
 refine W.cond rfl (fun c1=>?_) fun c1=>?_
 ·skip
  exact absurd c1 (by simp)
 iterate 9 first|refine Yp rfl ?_|apply Yb|apply Yk|apply Y1|apply Yn|apply Ys
 refine W.loop (fun k st => ∃ i : Nat, i ≤ l.length ∧ k = l.length - i ∧ ∃ t b2 r2 m2, st = ⟨t, [] ++ b2, [] ++ r2, [] ++ m2⟩ ∧ holdsL t [(0, .one (.d (.vec 10 (l.map chmD)))), (1, .one (.d (.vec 10 (l.map chmD)))), (12, .one (.d (.int .i64 ((l.map chmD).length : Int)))), (13, .one (.d (.int .i64 (i : Int))))]) (l.length) ⟨0, Nat.zero_le _, rfl, _, _, _, _, rfl, rfl, rfl, rfl, rfl, trivial⟩ ?_
 rintro k0 _ ⟨i, f0_0, rfl, t0, bb0, rr0, mm0, rfl, hh0⟩
 refine W.keepR _ _ _ _ _ _ _ hh0 rfl ?_
 apply Y1
 refine Yp rfl ?_
 apply Yn
 apply Ys
 refine W.cond rfl (fun c2=>?_) fun c2=>?_
 ·skip
  have hi := row_lt c2
  iterate 9 first|refine Yp rfl ?_|apply Yb|apply Yk|apply Y1|apply Ys|apply Yn
  refine W.regionD mixed (by kernel_rfl) ?_
  iterate 2 refine Ym rfl rfl ?_
  refine D.pureE tOk zOk rfl rfl (row_ok hi) (row_at Chm.z hi) rfl ?_
  iterate 3 refine Ym rfl rfl ?_
  refine D.pureE tOk zOk rfl rfl (row_ok hi) (row_at Chm.z hi) rfl ?_
  iterate 2 refine Ym rfl rfl ?_
  apply Yn
  refine W.cond rfl (fun c3=>?_) fun c3=>?_
  ·skip
   exact absurd c3 (by simp)
  apply Yk
  apply Yw
  apply Y4
  iterate 2 refine Yp rfl ?_
  refine loop_n (l.length - (i + 1)) (by omega) ⟨i + 1, hi, rfl, _, _, _, _, rfl, rfl, rfl, rfl, inc_i64 (by omega), trivial⟩
 apply Yq
 apply Ye
 apply Ye
 apply Yx
 apply Y3
 refine Yp rfl ?_
 apply Yn
 apply Yt
 exact ⟨_, rfl, rfl, LeV.refl _⟩
section
variable {m : Mac} {s : Stq}
theorem cq_1 (h : (s.k == 1) = true) : chgQ m s = (⟨3, Fl.z, ⟨s.n, s.v⟩, Svc.z⟩, !((askP Stg.z m (pathB s.n) (atK kyS m.se s.n)).2 == 0) || !((askP Stg.z m (pathB s.n) (atK kyS m.se s.n)).1.v == s.v), 0) := by unfold chgQ; exact if_pos h
theorem cq_2 (h : (s.k == 2) = true) : chgQ m s = (⟨4, Fl.z, ⟨s.n, []⟩, Svc.z⟩, (askP Stg.z m (pathB s.n) (atK kyS m.se s.n)).2 == 0, 0) := by have h := beq_iff_eq.1 h; unfold chgQ; rw [h]; rfl
theorem cq_3 (h : (s.k == 3) = true) : chgQ m s = (⟨1, ⟨s.n, s.v ++ [10], false⟩, Stg.z, Svc.z⟩, !m.fl.any (fun f => flB ⟨s.n, s.v ++ [10], false⟩ f), 0) := by have h := beq_iff_eq.1 h; unfold chgQ; rw [h]; rfl
theorem cq_4 (h : (s.k == 4) = true) : chgQ m s = (⟨2, ⟨s.n, [], false⟩, Stg.z, Svc.z⟩, (askP Fl.z m (pathB s.n) (atK kyF m.fl s.n)).2 == 0, 0) := by have h := beq_iff_eq.1 h; unfold chgQ; rw [h]; rfl
variable (h1 : (s.k == 1) = false) (h2 : (s.k == 2) = false) (h3 : (s.k == 3) = false) (h4 : (s.k == 4) = false)
include h1 h2 h3 h4
theorem cq_5 (h5 : ((askP Svc.z m (nameB s.n) (atK kyV m.sv s.n)).2 != 0) = true) : chgQ m s = (Chm.z, false, (askP Svc.z m (nameB s.n) (atK kyV m.sv s.n)).2) := by
 unfold chgQ; rw [h1, h2, h3, h4]; exact if_pos h5
theorem cq_6 (h5 : ((askP Svc.z m (nameB s.n) (atK kyV m.sv s.n)).2 != 0) = false) : chgQ m s = (⟨5, Fl.z, Stg.z, svcOn (askP Svc.z m (nameB s.n) (atK kyV m.sv s.n)).1 (s.k == 5)⟩, !((askP Svc.z m (nameB s.n) (atK kyV m.sv s.n)).1.on == (s.k == 5)), 0) := by
 unfold chgQ; rw [h1, h2, h3, h4]; exact if_neg (Bool.eq_false_iff.1 h5)
end
section
variable {m : Mac} {s : Stq}
theorem rq_1 (h : (s.k == 1) = true) : refQ m s = (⟨3, Fl.z, ⟨s.n, s.v⟩, Svc.z⟩, !hasL beqS (tabOf m.se) s.n || !(getL beqS [] (tabOf m.se) s.n == s.v), 0) := by unfold refQ; exact if_pos h
theorem rq_2 (h : (s.k == 2) = true) : refQ m s = (⟨4, Fl.z, ⟨s.n, []⟩, Svc.z⟩, hasL beqS (tabOf m.se) s.n, 0) := by have h := beq_iff_eq.1 h; unfold refQ; rw [h]; rfl
theorem rq_3 (h : (s.k == 3) = true) : refQ m s = (⟨1, ⟨s.n, s.v ++ [10], false⟩, Stg.z, Svc.z⟩, decide (idxOf (fun f : Fl => f.p == s.n) m.fl < 0) || !flB (m.fl.getD (idxOf (fun f : Fl => f.p == s.n) m.fl).toNat Fl.z) ⟨s.n, s.v ++ [10], false⟩, 0) := by have h := beq_iff_eq.1 h; unfold refQ; rw [h]; rfl
theorem rq_4 (h : (s.k == 4) = true) : refQ m s = (⟨2, ⟨s.n, [], false⟩, Stg.z, Svc.z⟩, decide (idxOf (fun f : Fl => f.p == s.n) m.fl ≥ 0), 0) := by have h := beq_iff_eq.1 h; unfold refQ; rw [h]; rfl
variable (h1 : (s.k == 1) = false) (h2 : (s.k == 2) = false) (h3 : (s.k == 3) = false) (h4 : (s.k == 4) = false)
include h1 h2 h3 h4
theorem rq_5 (h5 : decide (idxOf (fun x : Svc => x.n == s.n) m.sv < 0) = true) : refQ m s = (Chm.z, false, 10) := by unfold refQ; rw [h1, h2, h3, h4]; exact if_pos h5
theorem rq_6 (h5 : decide (idxOf (fun x : Svc => x.n == s.n) m.sv < 0) = false) : refQ m s = (⟨5, Fl.z, Stg.z, svcOn (m.sv.getD (idxOf (fun x : Svc => x.n == s.n) m.sv).toNat Svc.z) (s.k == 5)⟩, !((m.sv.getD (idxOf (fun x : Svc => x.n == s.n) m.sv).toNat Svc.z).on == (s.k == 5)), 0) := by
 unfold refQ; rw [h1, h2, h3, h4]; exact if_neg (Bool.eq_false_iff.1 h5)
end
theorem ngt_t {b : Bool} (h : (!b) = true) : b = false := by simpa using h
theorem idx_lt {β : Type} {φ : β → Bool} (z : β) {l : List β} (h : decide (idxOf φ l < 0) = false) : 0 ≤ idxOf φ l ∧ (idxOf φ l).toNat < l.length := by
 have h := of_decide_eq_false h
 rcases idx_find (φ := φ) z l with ⟨h1, _⟩ | ⟨i, h1, h2, _⟩
 ·skip
  rw [h1] at h; exact absurd (by decide) h
 ·skip
  rw [h1]; exact ⟨by omega, by simpa using h2⟩
theorem at_idx {β : Type} {φ : β → Bool} {f : β → List D} (z : β) {l : List β} (h : decide (idxOf φ l < 0) = false) : V.one (.eptr ((l.map f).getD (idxOf φ l).toNat [])) = V.one (.eptr (f (l.getD (idxOf φ l).toNat z))) := by
 have := row_at (f := f) z (idx_lt z h).2
 rwa [Int.toNat_natCast] at this
theorem ok_idx {β : Type} {φ : β → Bool} {f : β → List D} (z : β) {l : List β} (h : decide (idxOf φ l < 0) = false) : (decide (0 ≤ idxOf φ l) && decide (idxOf φ l < ((l.map f).length : Int))) = true := by
 obtain ⟨h1, h2⟩ := idx_lt z h
 rw [List.length_map, Bool.and_eq_true, decide_eq_true_eq, decide_eq_true_eq]
 exact ⟨h1, by omega⟩
theorem pc_change (m : Mac) (hm : MacA m) (s : Stq) (hs : StqA s) :
  PureCall Tryz.prog J 61 [.agg [.d (.vec 2 (m.fa.map stgD)), .d (.vec 3 (m.fl.map flD)), .d (.vec 2 (m.se.map stgD)), .d (.vec 4 (m.sv.map svD))], .agg [.d (.int .i64 s.k), .d (.str s.n), .d (.str s.v)]] (.tup [.agg [.d (.int .i64 (chgQ m s).1.k), .d (.str (chgQ m s).1.f.p), .d (.str (chgQ m s).1.f.d), .d (.bool (chgQ m s).1.f.r), .d (.str (chgQ m s).1.s.k), .d (.str (chgQ m s).1.s.v), .d (.str (chgQ m s).1.v.n), .d (.str (chgQ m s).1.v.p), .d (.bool (chgQ m s).1.v.au), .d (.bool (chgQ m s).1.v.on)], .one (.d (.bool (chgQ m s).2.1)), .one (.d (.int .i64 (chgQ m s).2.2))]) := by
 have h1 := hs.n
 have h2 := hs.v
 have h3 := hm.fl.n
 refine PureCall.of_body tOk (fn := Tryz.f61) Tryz.func61 (by kernel_rfl) rfl (Nat.le_of_ble_eq_true rfl) (fun E => ?_)
 apply Y1
 iterate 9 first|refine Yp rfl ?_|refine S.box rfl rfl rfl rfl ?_|refine S.alloc tOk rfl rfl rfl rfl ?_|apply Y3
 refine S.call rfl rfl rfl rfl rfl (pc_Setting m hm s.n h1) ?_
 iterate 20 first|refine Yp rfl ?_|apply Yb|apply Y1|apply Y3|apply Yn|apply Ys
 refine W.cond rfl (fun c1=>?_) fun c1=>?_
 ·skip
  apply Ys
  refine W.regionS 17 mixed rfl (by kernel_rfl) ?_
  refine AnyZ.eager 0 rfl (by kernel_rfl) (Eag.pure tOk zOk rfl (fun _ _ _ => rfl) rfl rfl) ?_
  refine AnyZ.eager 2 rfl (by kernel_rfl) (Eag.pure tOk zOk rfl (fun _ _ _ => rfl) rfl rfl) ?_
  refine AnyZ.eager 6 rfl (by kernel_rfl) (Eag.pure tOk zOk rfl (fun _ _ _ => rfl) rfl rfl) ?_
  refine AnyZ.eager 7 rfl (by kernel_rfl) (Eag.pure tOk zOk rfl (fun _ _ _ => rfl) rfl rfl) ?_
  refine AnyZ.eager 8 rfl (by kernel_rfl) (Eag.pure tOk zOk rfl (fun _ _ _ => rfl) rfl rfl) ?_
  refine AnyZ.eager 9 rfl (by kernel_rfl) (Eag.pureG tOk zOk rfl rfl (fun _ _ _ => rfl) tg (fun _ => rfl) rfl) ?_
  refine AnyZ.eager 10 rfl (by kernel_rfl) (Eag.pureG tOk zOk rfl rfl (fun _ _ _ => rfl) tg (fun _ => rfl) rfl) ?_
  refine AnyZ.three 1 3 11 (by kernel_rfl) rfl rfl rfl ?_ ?_ ?_
  ·skip
   refine OpZ.d ?_
   refine Ym rfl rfl ?_
   refine WD.nil ?_
   refine AnyZ.two 3 11 (by kernel_rfl) rfl rfl ?_ ?_
   ·skip
    refine OpZ.d ?_
    refine Ym rfl rfl ?_
    refine WD.nil ?_
    refine AnyZ.eager 4 rfl (by kernel_rfl) (Eag.pure tOk zOk rfl (fun _ _ _ => rfl) rfl rfl) ?_
    refine AnyZ.eager 5 rfl (by kernel_rfl) (Eag.pure tOk zOk rfl (fun _ _ _ => rfl) rfl rfl) ?_
    refine AnyZ.two 11 14 (by kernel_rfl) rfl rfl ?_ ?_
    ·skip
     refine OpZ.d ?_
     refine Yy rfl rfl rfl tg ?_
     refine WD.nil ?_
     refine AnyZ.eager 12 rfl (by kernel_rfl) (Eag.pureG tOk zOk rfl rfl (fun _ _ _ => rfl) tg (fun _ => rfl) rfl) ?_
     refine AnyZ.two 13 14 (by kernel_rfl) rfl rfl ?_ ?_
     ·skip
      refine OpZ.d ?_
      refine D.pickOr tOk zOk rfl rfl tg ?_
      refine WD.nil ?_
      refine AnyZ.one 14 (by kernel_rfl) rfl ?_
      refine OpZ.d ?_
      refine D.store tOk rfl rfl rfl rfl rfl rfl rfl rfl ?_
      refine WD.nil ?_
      refine AnyZ.eager 15 rfl (by kernel_rfl) (Eag.pure tOk zOk rfl (fun _ _ _ => rfl) rfl rfl) ?_
      refine AnyZ.eager 16 rfl (by kernel_rfl) (Eag.pure tOk zOk rfl (fun _ _ _ => rfl) rfl rfl) ?_
      refine AnyZ.nil (by kernel_rfl) ?_
      iterate 4 first|apply Yu|apply Yv|apply Yt|apply Yn
      exact Yz rfl rfl rfl (by first | (rw [cq_1 (by assumption)]; rfl) | (rw [cq_2 (by assumption)]; rfl) | (rw [cq_3 (by assumption)]; rfl) | (rw [cq_4 (by assumption)]; rfl) | (rw [cq_5 (by assumption) (by assumption) (by assumption) (by assumption) (by assumption)]; rfl) | (rw [cq_6 (by assumption) (by assumption) (by assumption) (by assumption) (by assumption)]; rfl))
     refine OpZ.d ?_
     refine D.store tOk rfl rfl rfl rfl rfl rfl rfl rfl ?_
     refine WD.nil ?_
     refine AnyZ.one 13 (by kernel_rfl) rfl ?_
     refine OpZ.d ?_
     refine D.pickOr tOk zOk rfl rfl tg ?_
     refine WD.nil ?_
     refine AnyZ.eager 15 rfl (by kernel_rfl) (Eag.pure tOk zOk rfl (fun _ _ _ => rfl) rfl rfl) ?_
     refine AnyZ.eager 16 rfl (by kernel_rfl) (Eag.pure tOk zOk rfl (fun _ _ _ => rfl) rfl rfl) ?_
     refine AnyZ.nil (by kernel_rfl) ?_
     apply Yn
     apply Yt
     apply Yv
     apply Yu
     exact Yz rfl rfl rfl (by first | (rw [cq_1 (by assumption)]; rfl) | (rw [cq_2 (by assumption)]; rfl) | (rw [cq_3 (by assumption)]; rfl) | (rw [cq_4 (by assumption)]; rfl) | (rw [cq_5 (by assumption) (by assumption) (by assumption) (by assumption) (by assumption)]; rfl) | (rw [cq_6 (by assumption) (by assumption) (by assumption) (by assumption) (by assumption)]; rfl))
    refine OpZ.d ?_
    refine D.store tOk rfl rfl rfl rfl rfl rfl rfl rfl ?_
    refine WD.nil ?_
    refine AnyZ.one 11 (by kernel_rfl) rfl ?_
    refine OpZ.d ?_
    refine Yy rfl rfl rfl tg ?_
    refine WD.nil ?_
    refine AnyZ.eager 12 rfl (by kernel_rfl) (Eag.pureG tOk zOk rfl rfl (fun _ _ _ => rfl) tg (fun _ => rfl) rfl) ?_
    refine AnyZ.one 13 (by kernel_rfl) rfl ?_
    refine OpZ.d ?_
    refine D.pickOr tOk zOk rfl rfl tg ?_
    refine WD.nil ?_
    refine AnyZ.eager 15 rfl (by kernel_rfl) (Eag.pure tOk zOk rfl (fun _ _ _ => rfl) rfl rfl) ?_
    refine AnyZ.eager 16 rfl (by kernel_rfl) (Eag.pure tOk zOk rfl (fun _ _ _ => rfl) rfl rfl) ?_
    refine AnyZ.nil (by kernel_rfl) ?_
    apply Yn
    apply Yt
    apply Yv
    apply Yu
    exact Yz rfl rfl rfl (by first | (rw [cq_1 (by assumption)]; rfl) | (rw [cq_2 (by assumption)]; rfl) | (rw [cq_3 (by assumption)]; rfl) | (rw [cq_4 (by assumption)]; rfl) | (rw [cq_5 (by assumption) (by assumption) (by assumption) (by assumption) (by assumption)]; rfl) | (rw [cq_6 (by assumption) (by assumption) (by assumption) (by assumption) (by assumption)]; rfl))
   refine OpZ.d ?_
   refine Yy rfl rfl rfl tg ?_
   refine WD.nil ?_
   refine AnyZ.eager 12 rfl (by kernel_rfl) (Eag.pureG tOk zOk rfl rfl (fun _ _ _ => rfl) tg (fun _ => rfl) rfl) ?_
   refine AnyZ.two 3 13 (by kernel_rfl) rfl rfl ?_ ?_
   ·skip
    refine OpZ.d ?_
    refine Ym rfl rfl ?_
    refine WD.nil ?_
    refine AnyZ.eager 4 rfl (by kernel_rfl) (Eag.pure tOk zOk rfl (fun _ _ _ => rfl) rfl rfl) ?_
    refine AnyZ.eager 5 rfl (by kernel_rfl) (Eag.pure tOk zOk rfl (fun _ _ _ => rfl) rfl rfl) ?_
    refine AnyZ.two 13 14 (by kernel_rfl) rfl rfl ?_ ?_
    ·skip
     refine OpZ.d ?_
     refine D.pickOr tOk zOk rfl rfl tg ?_
     refine WD.nil ?_
     refine AnyZ.one 14 (by kernel_rfl) rfl ?_
     refine OpZ.d ?_
     refine D.store tOk rfl rfl rfl rfl rfl rfl rfl rfl ?_
     refine WD.nil ?_
     refine AnyZ.eager 15 rfl (by kernel_rfl) (Eag.pure tOk zOk rfl (fun _ _ _ => rfl) rfl rfl) ?_
     refine AnyZ.eager 16 rfl (by kernel_rfl) (Eag.pure tOk zOk rfl (fun _ _ _ => rfl) rfl rfl) ?_
     refine AnyZ.nil (by kernel_rfl) ?_
     apply Yn
     apply Yt
     apply Yv
     apply Yu
     exact Yz rfl rfl rfl (by first | (rw [cq_1 (by assumption)]; rfl) | (rw [cq_2 (by assumption)]; rfl) | (rw [cq_3 (by assumption)]; rfl) | (rw [cq_4 (by assumption)]; rfl) | (rw [cq_5 (by assumption) (by assumption) (by assumption) (by assumption) (by assumption)]; rfl) | (rw [cq_6 (by assumption) (by assumption) (by assumption) (by assumption) (by assumption)]; rfl))
    refine OpZ.d ?_
    refine D.store tOk rfl rfl rfl rfl rfl rfl rfl rfl ?_
    refine WD.nil ?_
    refine AnyZ.one 13 (by kernel_rfl) rfl ?_
    refine OpZ.d ?_
    refine D.pickOr tOk zOk rfl rfl tg ?_
    refine WD.nil ?_
    refine AnyZ.eager 15 rfl (by kernel_rfl) (Eag.pure tOk zOk rfl (fun _ _ _ => rfl) rfl rfl) ?_
    refine AnyZ.eager 16 rfl (by kernel_rfl) (Eag.pure tOk zOk rfl (fun _ _ _ => rfl) rfl rfl) ?_
    refine AnyZ.nil (by kernel_rfl) ?_
    apply Yn
    apply Yt
    apply Yv
    apply Yu
    exact Yz rfl rfl rfl (by first | (rw [cq_1 (by assumption)]; rfl) | (rw [cq_2 (by assumption)]; rfl) | (rw [cq_3 (by assumption)]; rfl) | (rw [cq_4 (by assumption)]; rfl) | (rw [cq_5 (by assumption) (by assumption) (by assumption) (by assumption) (by assumption)]; rfl) | (rw [cq_6 (by assumption) (by assumption) (by assumption) (by assumption) (by assumption)]; rfl))
   refine OpZ.d ?_
   refine D.pickOr tOk zOk rfl rfl tg ?_
   refine WD.nil ?_
   refine AnyZ.one 3 (by kernel_rfl) rfl ?_
   refine OpZ.d ?_
   refine Ym rfl rfl ?_
   refine WD.nil ?_
   refine AnyZ.eager 4 rfl (by kernel_rfl) (Eag.pure tOk zOk rfl (fun _ _ _ => rfl) rfl rfl) ?_
   refine AnyZ.eager 5 rfl (by kernel_rfl) (Eag.pure tOk zOk rfl (fun _ _ _ => rfl) rfl rfl) ?_
   refine AnyZ.one 14 (by kernel_rfl) rfl ?_
   refine OpZ.d ?_
   refine D.store tOk rfl rfl rfl rfl rfl rfl rfl rfl ?_
   refine WD.nil ?_
   refine AnyZ.eager 15 rfl (by kernel_rfl) (Eag.pure tOk zOk rfl (fun _ _ _ => rfl) rfl rfl) ?_
   refine AnyZ.eager 16 rfl (by kernel_rfl) (Eag.pure tOk zOk rfl (fun _ _ _ => rfl) rfl rfl) ?_
   refine AnyZ.nil (by kernel_rfl) ?_
   apply Yn
   apply Yt
   apply Yv
   apply Yu
   exact Yz rfl rfl rfl (by first | (rw [cq_1 (by assumption)]; rfl) | (rw [cq_2 (by assumption)]; rfl) | (rw [cq_3 (by assumption)]; rfl) | (rw [cq_4 (by assumption)]; rfl) | (rw [cq_5 (by assumption) (by assumption) (by assumption) (by assumption) (by assumption)]; rfl) | (rw [cq_6 (by assumption) (by assumption) (by assumption) (by assumption) (by assumption)]; rfl))
  ·skip
   refine OpZ.d ?_
   refine Ym rfl rfl ?_
   refine WD.nil ?_
   refine AnyZ.two 1 11 (by kernel_rfl) rfl rfl ?_ ?_
   ·skip
    refine OpZ.d ?_
    refine Ym rfl rfl ?_
    refine WD.nil ?_
    refine AnyZ.eager 4 rfl (by kernel_rfl) (Eag.pure tOk zOk rfl (fun _ _ _ => rfl) rfl rfl) ?_
    refine AnyZ.eager 5 rfl (by kernel_rfl) (Eag.pure tOk zOk rfl (fun _ _ _ => rfl) rfl rfl) ?_
    refine AnyZ.two 11 14 (by kernel_rfl) rfl rfl ?_ ?_
    ·skip
     refine OpZ.d ?_
     refine Yy rfl rfl rfl tg ?_
     refine WD.nil ?_
     refine AnyZ.eager 12 rfl (by kernel_rfl) (Eag.pureG tOk zOk rfl rfl (fun _ _ _ => rfl) tg (fun _ => rfl) rfl) ?_
     refine AnyZ.two 13 14 (by kernel_rfl) rfl rfl ?_ ?_
     ·skip
      refine OpZ.d ?_
      refine D.pickOr tOk zOk rfl rfl tg ?_
      refine WD.nil ?_
      refine AnyZ.one 14 (by kernel_rfl) rfl ?_
      refine OpZ.d ?_
      refine D.store tOk rfl rfl rfl rfl rfl rfl rfl rfl ?_
      refine WD.nil ?_
      refine AnyZ.eager 15 rfl (by kernel_rfl) (Eag.pure tOk zOk rfl (fun _ _ _ => rfl) rfl rfl) ?_
      refine AnyZ.eager 16 rfl (by kernel_rfl) (Eag.pure tOk zOk rfl (fun _ _ _ => rfl) rfl rfl) ?_
      refine AnyZ.nil (by kernel_rfl) ?_
      iterate 4 first|apply Yu|apply Yv|apply Yt|apply Yn
      exact Yz rfl rfl rfl (by first | (rw [cq_1 (by assumption)]; rfl) | (rw [cq_2 (by assumption)]; rfl) | (rw [cq_3 (by assumption)]; rfl) | (rw [cq_4 (by assumption)]; rfl) | (rw [cq_5 (by assumption) (by assumption) (by assumption) (by assumption) (by assumption)]; rfl) | (rw [cq_6 (by assumption) (by assumption) (by assumption) (by assumption) (by assumption)]; rfl))
     refine OpZ.d ?_
     refine D.store tOk rfl rfl rfl rfl rfl rfl rfl rfl ?_
     refine WD.nil ?_
     refine AnyZ.one 13 (by kernel_rfl) rfl ?_
     refine OpZ.d ?_
     refine D.pickOr tOk zOk rfl rfl tg ?_
     refine WD.nil ?_
     refine AnyZ.eager 15 rfl (by kernel_rfl) (Eag.pure tOk zOk rfl (fun _ _ _ => rfl) rfl rfl) ?_
     refine AnyZ.eager 16 rfl (by kernel_rfl) (Eag.pure tOk zOk rfl (fun _ _ _ => rfl) rfl rfl) ?_
     refine AnyZ.nil (by kernel_rfl) ?_
     apply Yn
     apply Yt
     apply Yv
     apply Yu
     exact Yz rfl rfl rfl (by first | (rw [cq_1 (by assumption)]; rfl) | (rw [cq_2 (by assumption)]; rfl) | (rw [cq_3 (by assumption)]; rfl) | (rw [cq_4 (by assumption)]; rfl) | (rw [cq_5 (by assumption) (by assumption) (by assumption) (by assumption) (by assumption)]; rfl) | (rw [cq_6 (by assumption) (by assumption) (by assumption) (by assumption) (by assumption)]; rfl))
    refine OpZ.d ?_
    refine D.store tOk rfl rfl rfl rfl rfl rfl rfl rfl ?_
    refine WD.nil ?_
    refine AnyZ.one 11 (by kernel_rfl) rfl ?_
    refine OpZ.d ?_
    refine Yy rfl rfl rfl tg ?_
    refine WD.nil ?_
    refine AnyZ.eager 12 rfl (by kernel_rfl) (Eag.pureG tOk zOk rfl rfl (fun _ _ _ => rfl) tg (fun _ => rfl) rfl) ?_
    refine AnyZ.one 13 (by kernel_rfl) rfl ?_
    refine OpZ.d ?_
    refine D.pickOr tOk zOk rfl rfl tg ?_
    refine WD.nil ?_
    refine AnyZ.eager 15 rfl (by kernel_rfl) (Eag.pure tOk zOk rfl (fun _ _ _ => rfl) rfl rfl) ?_
    refine AnyZ.eager 16 rfl (by kernel_rfl) (Eag.pure tOk zOk rfl (fun _ _ _ => rfl) rfl rfl) ?_
    refine AnyZ.nil (by kernel_rfl) ?_
    apply Yn
    apply Yt
    apply Yv
    apply Yu
    exact Yz rfl rfl rfl (by first | (rw [cq_1 (by assumption)]; rfl) | (rw [cq_2 (by assumption)]; rfl) | (rw [cq_3 (by assumption)]; rfl) | (rw [cq_4 (by assumption)]; rfl) | (rw [cq_5 (by assumption) (by assumption) (by assumption) (by assumption) (by assumption)]; rfl) | (rw [cq_6 (by assumption) (by assumption) (by assumption) (by assumption) (by assumption)]; rfl))
   refine OpZ.d ?_
   refine Yy rfl rfl rfl tg ?_
   refine WD.nil ?_
   refine AnyZ.eager 12 rfl (by kernel_rfl) (Eag.pureG tOk zOk rfl rfl (fun _ _ _ => rfl) tg (fun _ => rfl) rfl) ?_
   refine AnyZ.two 1 13 (by kernel_rfl) rfl rfl ?_ ?_
   ·skip
    refine OpZ.d ?_
    refine Ym rfl rfl ?_
    refine WD.nil ?_
    refine AnyZ.eager 4 rfl (by kernel_rfl) (Eag.pure tOk zOk rfl (fun _ _ _ => rfl) rfl rfl) ?_
    refine AnyZ.eager 5 rfl (by kernel_rfl) (Eag.pure tOk zOk rfl (fun _ _ _ => rfl) rfl rfl) ?_
    refine AnyZ.two 13 14 (by kernel_rfl) rfl rfl ?_ ?_
    ·skip
     refine OpZ.d ?_
     refine D.pickOr tOk zOk rfl rfl tg ?_
     refine WD.nil ?_
     refine AnyZ.one 14 (by kernel_rfl) rfl ?_
     refine OpZ.d ?_
     refine D.store tOk rfl rfl rfl rfl rfl rfl rfl rfl ?_
     refine WD.nil ?_
     refine AnyZ.eager 15 rfl (by kernel_rfl) (Eag.pure tOk zOk rfl (fun _ _ _ => rfl) rfl rfl) ?_
     refine AnyZ.eager 16 rfl (by kernel_rfl) (Eag.pure tOk zOk rfl (fun _ _ _ => rfl) rfl rfl) ?_
     refine AnyZ.nil (by kernel_rfl) ?_
     apply Yn
     apply Yt
     apply Yv
     apply Yu
     exact Yz rfl rfl rfl (by first | (rw [cq_1 (by assumption)]; rfl) | (rw [cq_2 (by assumption)]; rfl) | (rw [cq_3 (by assumption)]; rfl) | (rw [cq_4 (by assumption)]; rfl) | (rw [cq_5 (by assumption) (by assumption) (by assumption) (by assumption) (by assumption)]; rfl) | (rw [cq_6 (by assumption) (by assumption) (by assumption) (by assumption) (by assumption)]; rfl))
    refine OpZ.d ?_
    refine D.store tOk rfl rfl rfl rfl rfl rfl rfl rfl ?_
    refine WD.nil ?_
    refine AnyZ.one 13 (by kernel_rfl) rfl ?_
    refine OpZ.d ?_
    refine D.pickOr tOk zOk rfl rfl tg ?_
    refine WD.nil ?_
    refine AnyZ.eager 15 rfl (by kernel_rfl) (Eag.pure tOk zOk rfl (fun _ _ _ => rfl) rfl rfl) ?_
    refine AnyZ.eager 16 rfl (by kernel_rfl) (Eag.pure tOk zOk rfl (fun _ _ _ => rfl) rfl rfl) ?_
    refine AnyZ.nil (by kernel_rfl) ?_
    apply Yn
    apply Yt
    apply Yv
    apply Yu
    exact Yz rfl rfl rfl (by first | (rw [cq_1 (by assumption)]; rfl) | (rw [cq_2 (by assumption)]; rfl) | (rw [cq_3 (by assumption)]; rfl) | (rw [cq_4 (by assumption)]; rfl) | (rw [cq_5 (by assumption) (by assumption) (by assumption) (by assumption) (by assumption)]; rfl) | (rw [cq_6 (by assumption) (by assumption) (by assumption) (by assumption) (by assumption)]; rfl))
   refine OpZ.d ?_
   refine D.pickOr tOk zOk rfl rfl tg ?_
   refine WD.nil ?_
   refine AnyZ.one 1 (by kernel_rfl) rfl ?_
   refine OpZ.d ?_
   refine Ym rfl rfl ?_
   refine WD.nil ?_
   refine AnyZ.eager 4 rfl (by kernel_rfl) (Eag.pure tOk zOk rfl (fun _ _ _ => rfl) rfl rfl) ?_
   refine AnyZ.eager 5 rfl (by kernel_rfl) (Eag.pure tOk zOk rfl (fun _ _ _ => rfl) rfl rfl) ?_
   refine AnyZ.one 14 (by kernel_rfl) rfl ?_
   refine OpZ.d ?_
   refine D.store tOk rfl rfl rfl rfl rfl rfl rfl rfl ?_
   refine WD.nil ?_
   refine AnyZ.eager 15 rfl (by kernel_rfl) (Eag.pure tOk zOk rfl (fun _ _ _ => rfl) rfl rfl) ?_
   refine AnyZ.eager 16 rfl (by kernel_rfl) (Eag.pure tOk zOk rfl (fun _ _ _ => rfl) rfl rfl) ?_
   refine AnyZ.nil (by kernel_rfl) ?_
   apply Yn
   apply Yt
   apply Yv
   apply Yu
   exact Yz rfl rfl rfl (by first | (rw [cq_1 (by assumption)]; rfl) | (rw [cq_2 (by assumption)]; rfl) | (rw [cq_3 (by assumption)]; rfl) | (rw [cq_4 (by assumption)]; rfl) | (rw [cq_5 (by assumption) (by assumption) (by assumption) (by assumption) (by assumption)]; rfl) | (rw [cq_6 (by assumption) (by assumption) (by assumption) (by assumption) (by assumption)]; rfl))
  refine OpZ.d ?_
  refine Yy rfl rfl rfl tg ?_
  refine WD.nil ?_
  refine AnyZ.eager 12 rfl (by kernel_rfl) (Eag.pureG tOk zOk rfl rfl (fun _ _ _ => rfl) tg (fun _ => rfl) rfl) ?_
  refine AnyZ.three 1 3 13 (by kernel_rfl) rfl rfl rfl ?_ ?_ ?_
  ·skip
   refine OpZ.d ?_
   refine Ym rfl rfl ?_
   refine WD.nil ?_
   refine AnyZ.two 3 13 (by kernel_rfl) rfl rfl ?_ ?_
   ·skip
    refine OpZ.d ?_
    refine Ym rfl rfl ?_
    refine WD.nil ?_
    refine AnyZ.eager 4 rfl (by kernel_rfl) (Eag.pure tOk zOk rfl (fun _ _ _ => rfl) rfl rfl) ?_
    refine AnyZ.eager 5 rfl (by kernel_rfl) (Eag.pure tOk zOk rfl (fun _ _ _ => rfl) rfl rfl) ?_
    refine AnyZ.two 13 14 (by kernel_rfl) rfl rfl ?_ ?_
    ·skip
     refine OpZ.d ?_
     refine D.pickOr tOk zOk rfl rfl tg ?_
     refine WD.nil ?_
     refine AnyZ.one 14 (by kernel_rfl) rfl ?_
     refine OpZ.d ?_
     refine D.store tOk rfl rfl rfl rfl rfl rfl rfl rfl ?_
     refine WD.nil ?_
     refine AnyZ.eager 15 rfl (by kernel_rfl) (Eag.pure tOk zOk rfl (fun _ _ _ => rfl) rfl rfl) ?_
     refine AnyZ.eager 16 rfl (by kernel_rfl) (Eag.pure tOk zOk rfl (fun _ _ _ => rfl) rfl rfl) ?_
     refine AnyZ.nil (by kernel_rfl) ?_
     apply Yn
     apply Yt
     apply Yv
     apply Yu
     exact Yz rfl rfl rfl (by first | (rw [cq_1 (by assumption)]; rfl) | (rw [cq_2 (by assumption)]; rfl) | (rw [cq_3 (by assumption)]; rfl) | (rw [cq_4 (by assumption)]; rfl) | (rw [cq_5 (by assumption) (by assumption) (by assumption) (by assumption) (by assumption)]; rfl) | (rw [cq_6 (by assumption) (by assumption) (by assumption) (by assumption) (by assumption)]; rfl))
    refine OpZ.d ?_
    refine D.store tOk rfl rfl rfl rfl rfl rfl rfl rfl ?_
    refine WD.nil ?_
    refine AnyZ.one 13 (by kernel_rfl) rfl ?_
    refine OpZ.d ?_
    refine D.pickOr tOk zOk rfl rfl tg ?_
    refine WD.nil ?_
    refine AnyZ.eager 15 rfl (by kernel_rfl) (Eag.pure tOk zOk rfl (fun _ _ _ => rfl) rfl rfl) ?_
    refine AnyZ.eager 16 rfl (by kernel_rfl) (Eag.pure tOk zOk rfl (fun _ _ _ => rfl) rfl rfl) ?_
    refine AnyZ.nil (by kernel_rfl) ?_
    apply Yn
    apply Yt
    apply Yv
    apply Yu
    exact Yz rfl rfl rfl (by first | (rw [cq_1 (by assumption)]; rfl) | (rw [cq_2 (by assumption)]; rfl) | (rw [cq_3 (by assumption)]; rfl) | (rw [cq_4 (by assumption)]; rfl) | (rw [cq_5 (by assumption) (by assumption) (by assumption) (by assumption) (by assumption)]; rfl) | (rw [cq_6 (by assumption) (by assumption) (by assumption) (by assumption) (by assumption)]; rfl))
   refine OpZ.d ?_
   refine D.pickOr tOk zOk rfl rfl tg ?_
   refine WD.nil ?_
   refine AnyZ.one 3 (by kernel_rfl) rfl ?_
   refine OpZ.d ?_
   refine Ym rfl rfl ?_
   refine WD.nil ?_
   refine AnyZ.eager 4 rfl (by kernel_rfl) (Eag.pure tOk zOk rfl (fun _ _ _ => rfl) rfl rfl) ?_
   refine AnyZ.eager 5 rfl (by kernel_rfl) (Eag.pure tOk zOk rfl (fun _ _ _ => rfl) rfl rfl) ?_
   refine AnyZ.one 14 (by kernel_rfl) rfl ?_
   refine OpZ.d ?_
   refine D.store tOk rfl rfl rfl rfl rfl rfl rfl rfl ?_
   refine WD.nil ?_
   refine AnyZ.eager 15 rfl (by kernel_rfl) (Eag.pure tOk zOk rfl (fun _ _ _ => rfl) rfl rfl) ?_
   refine AnyZ.eager 16 rfl (by kernel_rfl) (Eag.pure tOk zOk rfl (fun _ _ _ => rfl) rfl rfl) ?_
   refine AnyZ.nil (by kernel_rfl) ?_
   apply Yn
   apply Yt
   apply Yv
   apply Yu
   exact Yz rfl rfl rfl (by first | (rw [cq_1 (by assumption)]; rfl) | (rw [cq_2 (by assumption)]; rfl) | (rw [cq_3 (by assumption)]; rfl) | (rw [cq_4 (by assumption)]; rfl) | (rw [cq_5 (by assumption) (by assumption) (by assumption) (by assumption) (by assumption)]; rfl) | (rw [cq_6 (by assumption) (by assumption) (by assumption) (by assumption) (by assumption)]; rfl))
  ·skip
   refine OpZ.d ?_
   refine Ym rfl rfl ?_
   refine WD.nil ?_
   refine AnyZ.two 1 13 (by kernel_rfl) rfl rfl ?_ ?_
   ·skip
    refine OpZ.d ?_
    refine Ym rfl rfl ?_
    refine WD.nil ?_
    refine AnyZ.eager 4 rfl (by kernel_rfl) (Eag.pure tOk zOk rfl (fun _ _ _ => rfl) rfl rfl) ?_
    refine AnyZ.eager 5 rfl (by kernel_rfl) (Eag.pure tOk zOk rfl (fun _ _ _ => rfl) rfl rfl) ?_
    refine AnyZ.two 13 14 (by kernel_rfl) rfl rfl ?_ ?_
    ·skip
     refine OpZ.d ?_
     refine D.pickOr tOk zOk rfl rfl tg ?_
     refine WD.nil ?_
     refine AnyZ.one 14 (by kernel_rfl) rfl ?_
     refine OpZ.d ?_
     refine D.store tOk rfl rfl rfl rfl rfl rfl rfl rfl ?_
     refine WD.nil ?_
     refine AnyZ.eager 15 rfl (by kernel_rfl) (Eag.pure tOk zOk rfl (fun _ _ _ => rfl) rfl rfl) ?_
     refine AnyZ.eager 16 rfl (by kernel_rfl) (Eag.pure tOk zOk rfl (fun _ _ _ => rfl) rfl rfl) ?_
     refine AnyZ.nil (by kernel_rfl) ?_
     apply Yn
     apply Yt
     apply Yv
     apply Yu
     exact Yz rfl rfl rfl (by first | (rw [cq_1 (by assumption)]; rfl) | (rw [cq_2 (by assumption)]; rfl) | (rw [cq_3 (by assumption)]; rfl) | (rw [cq_4 (by assumption)]; rfl) | (rw [cq_5 (by assumption) (by assumption) (by assumption) (by assumption) (by assumption)]; rfl) | (rw [cq_6 (by assumption) (by assumption) (by assumption) (by assumption) (by assumption)]; rfl))
    refine OpZ.d ?_
    refine D.store tOk rfl rfl rfl rfl rfl rfl rfl rfl ?_
    refine WD.nil ?_
    refine AnyZ.one 13 (by kernel_rfl) rfl ?_
    refine OpZ.d ?_
    refine D.pickOr tOk zOk rfl rfl tg ?_
    refine WD.nil ?_
    refine AnyZ.eager 15 rfl (by kernel_rfl) (Eag.pure tOk zOk rfl (fun _ _ _ => rfl) rfl rfl) ?_
    refine AnyZ.eager 16 rfl (by kernel_rfl) (Eag.pure tOk zOk rfl (fun _ _ _ => rfl) rfl rfl) ?_
    refine AnyZ.nil (by kernel_rfl) ?_
    apply Yn
    apply Yt
    apply Yv
    apply Yu
    exact Yz rfl rfl rfl (by first | (rw [cq_1 (by assumption)]; rfl) | (rw [cq_2 (by assumption)]; rfl) | (rw [cq_3 (by assumption)]; rfl) | (rw [cq_4 (by assumption)]; rfl) | (rw [cq_5 (by assumption) (by assumption) (by assumption) (by assumption) (by assumption)]; rfl) | (rw [cq_6 (by assumption) (by assumption) (by assumption) (by assumption) (by assumption)]; rfl))
   refine OpZ.d ?_
   refine D.pickOr tOk zOk rfl rfl tg ?_
   refine WD.nil ?_
   refine AnyZ.one 1 (by kernel_rfl) rfl ?_
   refine OpZ.d ?_
   refine Ym rfl rfl ?_
   refine WD.nil ?_
   refine AnyZ.eager 4 rfl (by kernel_rfl) (Eag.pure tOk zOk rfl (fun _ _ _ => rfl) rfl rfl) ?_
   refine AnyZ.eager 5 rfl (by kernel_rfl) (Eag.pure tOk zOk rfl (fun _ _ _ => rfl) rfl rfl) ?_
   refine AnyZ.one 14 (by kernel_rfl) rfl ?_
   refine OpZ.d ?_
   refine D.store tOk rfl rfl rfl rfl rfl rfl rfl rfl ?_
   refine WD.nil ?_
   refine AnyZ.eager 15 rfl (by kernel_rfl) (Eag.pure tOk zOk rfl (fun _ _ _ => rfl) rfl rfl) ?_
   refine AnyZ.eager 16 rfl (by kernel_rfl) (Eag.pure tOk zOk rfl (fun _ _ _ => rfl) rfl rfl) ?_
   refine AnyZ.nil (by kernel_rfl) ?_
   apply Yn
   apply Yt
   apply Yv
   apply Yu
   exact Yz rfl rfl rfl (by first | (rw [cq_1 (by assumption)]; rfl) | (rw [cq_2 (by assumption)]; rfl) | (rw [cq_3 (by assumption)]; rfl) | (rw [cq_4 (by assumption)]; rfl) | (rw [cq_5 (by assumption) (by assumption) (by assumption) (by assumption) (by assumption)]; rfl) | (rw [cq_6 (by assumption) (by assumption) (by assumption) (by assumption) (by assumption)]; rfl))
  refine OpZ.d ?_
  refine D.pickOr tOk zOk rfl rfl tg ?_
  refine WD.nil ?_
  refine AnyZ.two 1 3 (by kernel_rfl) rfl rfl ?_ ?_
  ·skip
   refine OpZ.d ?_
   refine Ym rfl rfl ?_
   refine WD.nil ?_
   refine AnyZ.one 3 (by kernel_rfl) rfl ?_
   refine OpZ.d ?_
   refine Ym rfl rfl ?_
   refine WD.nil ?_
   refine AnyZ.eager 4 rfl (by kernel_rfl) (Eag.pure tOk zOk rfl (fun _ _ _ => rfl) rfl rfl) ?_
   refine AnyZ.eager 5 rfl (by kernel_rfl) (Eag.pure tOk zOk rfl (fun _ _ _ => rfl) rfl rfl) ?_
   refine AnyZ.one 14 (by kernel_rfl) rfl ?_
   refine OpZ.d ?_
   refine D.store tOk rfl rfl rfl rfl rfl rfl rfl rfl ?_
   refine WD.nil ?_
   refine AnyZ.eager 15 rfl (by kernel_rfl) (Eag.pure tOk zOk rfl (fun _ _ _ => rfl) rfl rfl) ?_
   refine AnyZ.eager 16 rfl (by kernel_rfl) (Eag.pure tOk zOk rfl (fun _ _ _ => rfl) rfl rfl) ?_
   refine AnyZ.nil (by kernel_rfl) ?_
   apply Yn
   apply Yt
   apply Yv
   apply Yu
   exact Yz rfl rfl rfl (by first | (rw [cq_1 (by assumption)]; rfl) | (rw [cq_2 (by assumption)]; rfl) | (rw [cq_3 (by assumption)]; rfl) | (rw [cq_4 (by assumption)]; rfl) | (rw [cq_5 (by assumption) (by assumption) (by assumption) (by assumption) (by assumption)]; rfl) | (rw [cq_6 (by assumption) (by assumption) (by assumption) (by assumption) (by assumption)]; rfl))
  refine OpZ.d ?_
  refine Ym rfl rfl ?_
  refine WD.nil ?_
  refine AnyZ.one 1 (by kernel_rfl) rfl ?_
  refine OpZ.d ?_
  refine Ym rfl rfl ?_
  refine WD.nil ?_
  refine AnyZ.eager 4 rfl (by kernel_rfl) (Eag.pure tOk zOk rfl (fun _ _ _ => rfl) rfl rfl) ?_
  refine AnyZ.eager 5 rfl (by kernel_rfl) (Eag.pure tOk zOk rfl (fun _ _ _ => rfl) rfl rfl) ?_
  refine AnyZ.one 14 (by kernel_rfl) rfl ?_
  refine OpZ.d ?_
  refine D.store tOk rfl rfl rfl rfl rfl rfl rfl rfl ?_
  refine WD.nil ?_
  refine AnyZ.eager 15 rfl (by kernel_rfl) (Eag.pure tOk zOk rfl (fun _ _ _ => rfl) rfl rfl) ?_
  refine AnyZ.eager 16 rfl (by kernel_rfl) (Eag.pure tOk zOk rfl (fun _ _ _ => rfl) rfl rfl) ?_
  refine AnyZ.nil (by kernel_rfl) ?_
  apply Yn
  apply Yt
  apply Yv
  apply Yu
  exact Yz rfl rfl rfl (by first | (rw [cq_1 (by assumption)]; rfl) | (rw [cq_2 (by assumption)]; rfl) | (rw [cq_3 (by assumption)]; rfl) | (rw [cq_4 (by assumption)]; rfl) | (rw [cq_5 (by assumption) (by assumption) (by assumption) (by assumption) (by assumption)]; rfl) | (rw [cq_6 (by assumption) (by assumption) (by assumption) (by assumption) (by assumption)]; rfl))
 apply Y1
 iterate 2 refine Yp rfl ?_
 apply Yn
 refine W.cond rfl (fun c2=>?_) fun c2=>?_
 ·skip
  iterate 13 first|refine Yp rfl ?_|apply Yu|apply Yv|apply Yt|refine S.store tOk rfl rfl rfl rfl rfl rfl rfl rfl ?_|apply Y1|apply Yn
  exact Yz rfl rfl rfl (by first | (rw [cq_1 (by assumption)]; rfl) | (rw [cq_2 (by assumption)]; rfl) | (rw [cq_3 (by assumption)]; rfl) | (rw [cq_4 (by assumption)]; rfl) | (rw [cq_5 (by assumption) (by assumption) (by assumption) (by assumption) (by assumption)]; rfl) | (rw [cq_6 (by assumption) (by assumption) (by assumption) (by assumption) (by assumption)]; rfl))
 apply Y1
 iterate 2 refine Yp rfl ?_
 apply Yn
 refine W.cond rfl (fun c3=>?_) fun c3=>?_
 ·skip
  apply Y1
  iterate 4 refine Yp rfl ?_
  refine YP rfl (cat_ok (by simp; omega)) rfl ?_
  refine Yp rfl ?_
  refine S.alloc tOk rfl rfl rfl rfl ?_
  refine S.store tOk rfl rfl rfl rfl rfl rfl rfl rfl ?_
  apply Yn
  apply Ys
  refine W.regionD mixed (by kernel_rfl) ?_
  iterate 5 refine Ym rfl rfl ?_
  refine D.call rfl rfl rfl rfl rfl (pc_ContainsF m.fl ⟨s.n, s.v ++ [10], false⟩ (by omega)) ?_
  refine Ym rfl rfl ?_
  refine D.store tOk rfl rfl rfl rfl rfl rfl rfl rfl ?_
  iterate 2 refine Ym rfl rfl ?_
  apply Yn
  apply Yt
  apply Yv
  apply Yu
  exact Yz rfl rfl rfl (by first | (rw [cq_1 (by assumption)]; rfl) | (rw [cq_2 (by assumption)]; rfl) | (rw [cq_3 (by assumption)]; rfl) | (rw [cq_4 (by assumption)]; rfl) | (rw [cq_5 (by assumption) (by assumption) (by assumption) (by assumption) (by assumption)]; rfl) | (rw [cq_6 (by assumption) (by assumption) (by assumption) (by assumption) (by assumption)]; rfl))
 apply Y1
 iterate 2 refine Yp rfl ?_
 apply Yn
 refine W.cond rfl (fun c4=>?_) fun c4=>?_
 ·skip
  apply Y1
  iterate 3 refine Yp rfl ?_
  refine S.call rfl rfl rfl rfl rfl (pc_File m hm s.n h1) ?_
  iterate 20 first|refine Yp rfl ?_|refine S.store tOk rfl rfl rfl rfl rfl rfl rfl rfl ?_|apply Yu|apply Yv|apply Yt|refine S.alloc tOk rfl rfl rfl rfl ?_|apply Y3|apply Yn
  exact Yz rfl rfl rfl (by first | (rw [cq_1 (by assumption)]; rfl) | (rw [cq_2 (by assumption)]; rfl) | (rw [cq_3 (by assumption)]; rfl) | (rw [cq_4 (by assumption)]; rfl) | (rw [cq_5 (by assumption) (by assumption) (by assumption) (by assumption) (by assumption)]; rfl) | (rw [cq_6 (by assumption) (by assumption) (by assumption) (by assumption) (by assumption)]; rfl))
 apply Yk
 apply Yw
 apply Y3
 iterate 3 refine Yp rfl ?_
 refine S.call rfl rfl rfl rfl rfl (pc_Service m hm s.n h1) ?_
 iterate 12 first|refine Yp rfl ?_|refine S.store tOk rfl rfl rfl rfl rfl rfl rfl rfl ?_|refine S.alloc tOk rfl rfl rfl rfl ?_|apply Y1|apply Yn|apply Ys
 refine W.cond rfl (fun c5=>?_) fun c5=>?_
 ·skip
  iterate 9 first|refine Yp rfl ?_|apply Yu|apply Yt|refine S.store tOk rfl rfl rfl rfl rfl rfl rfl rfl ?_|apply Y1|apply Yn
  exact Yz rfl rfl rfl (by first | (rw [cq_1 (by assumption)]; rfl) | (rw [cq_2 (by assumption)]; rfl) | (rw [cq_3 (by assumption)]; rfl) | (rw [cq_4 (by assumption)]; rfl) | (rw [cq_5 (by assumption) (by assumption) (by assumption) (by assumption) (by assumption)]; rfl) | (rw [cq_6 (by assumption) (by assumption) (by assumption) (by assumption) (by assumption)]; rfl))
 iterate 25 first|refine Yp rfl ?_|refine S.store tOk rfl rfl rfl rfl rfl rfl rfl rfl ?_|apply Yt|apply Yk|apply Y3|apply Yn
 exact Yz rfl rfl rfl (by first | (rw [cq_1 (by assumption)]; rfl) | (rw [cq_2 (by assumption)]; rfl) | (rw [cq_3 (by assumption)]; rfl) | (rw [cq_4 (by assumption)]; rfl) | (rw [cq_5 (by assumption) (by assumption) (by assumption) (by assumption) (by assumption)]; rfl) | (rw [cq_6 (by assumption) (by assumption) (by assumption) (by assumption) (by assumption)]; rfl))
theorem pc_sc1 (s : Stq) (x : Fl) :
  HCall Tryz.prog J 57 ([.agg [.d (.str x.p), .d (.str x.d), .d (.bool x.r)], .one (.ptr 0 0)]) ([[.d (.int .i64 s.k), .d (.str s.n), .d (.str s.v)]]) ([]) ([]) (isH (.one (.d (.bool (x.p == s.n)))) ([[.d (.int .i64 s.k), .d (.str s.n), .d (.str s.v)]]) ([]) ([])) := by
 refine HCall.ofD tOk ⟨1, 0, 0⟩ (fn := Tryz.f57) Tryz.func57 (by kernel_rfl) rfl (Nat.le_of_ble_eq_true rfl) (fun E => ?_)
 iterate 12 first|refine Yp rfl ?_|apply Yt|refine S.box rfl rfl rfl rfl ?_|apply Y3|apply Y1|apply Yn
 exact ⟨_, rfl, rfl, LeG.refl _, rfl, rfl, rfl⟩
theorem pc_sc2 (s : Stq) (x : Svc) :
  HCall Tryz.prog J 59 ([.agg [.d (.str x.n), .d (.str x.p), .d (.bool x.au), .d (.bool x.on)], .one (.ptr 0 0)]) ([[.d (.int .i64 s.k), .d (.str s.n), .d (.str s.v)]]) ([]) ([]) (isH (.one (.d (.bool (x.n == s.n)))) ([[.d (.int .i64 s.k), .d (.str s.n), .d (.str s.v)]]) ([]) ([])) := by
 refine HCall.ofD tOk ⟨1, 0, 0⟩ (fn := Tryz.f59) Tryz.func59 (by kernel_rfl) rfl (Nat.le_of_ble_eq_true rfl) (fun E => ?_)
 iterate 12 first|refine Yp rfl ?_|apply Yt|refine S.box rfl rfl rfl rfl ?_|apply Y3|apply Y1|apply Yn
 exact ⟨_, rfl, rfl, LeG.refl _, rfl, rfl, rfl⟩
theorem pc_stepChange (m : Mac) (hm : MacA m) (s : Stq) (hs : StqA s) :
  PureCall Tryz.prog J 11 [.agg [.d (.vec 2 (m.fa.map stgD)), .d (.vec 3 (m.fl.map flD)), .d (.vec 2 (m.se.map stgD)), .d (.vec 4 (m.sv.map svD))], .agg [.d (.int .i64 s.k), .d (.str s.n), .d (.str s.v)]] (.tup [.agg [.d (.int .i64 (refQ m s).1.k), .d (.str (refQ m s).1.f.p), .d (.str (refQ m s).1.f.d), .d (.bool (refQ m s).1.f.r), .d (.str (refQ m s).1.s.k), .d (.str (refQ m s).1.s.v), .d (.str (refQ m s).1.v.n), .d (.str (refQ m s).1.v.p), .d (.bool (refQ m s).1.v.au), .d (.bool (refQ m s).1.v.on)], .one (.d (.bool (refQ m s).2.1)), .one (.d (.int .i64 (refQ m s).2.2))]) := by
 have h1 := hs.n
 have h2 := hs.v
 have h3 := hm.fl.n
 have h4 := hm.sv.n
 have h5 := hm.se.n
 refine PureCall.of_body tOk (fn := Tryz.f11) Tryz.func11 (by kernel_rfl) rfl (Nat.le_of_ble_eq_true rfl) (fun E => ?_)
 iterate 9 first|refine Yp rfl ?_|refine S.box rfl rfl rfl rfl ?_|refine S.alloc tOk rfl rfl rfl rfl ?_|apply Y3|apply Y1
 refine S.hcallD rfl rfl rfl rfl ((pc_Facts m.se (by omega)).fd [] [] [] rfl) ?_
 iterate 5 first|refine Yp rfl ?_|apply Y3
 refine S.lookup tOk keyS (fD := fun v : List UInt8 => DV.one (.str v)) [] (tabOf m.se) rfl rfl rfl rfl rfl rfl rfl rfl rfl rfl (show mapV true _ _ = V.tup [_, _] from rfl) ?_
 iterate 8 first|refine Yp rfl ?_|apply Y3
 refine S.makeFunc rfl rfl rfl ?_
 refine S.hcallD rfl rfl rfl rfl ((pc_IndexFuncFile 57 [.ptr 1 0] _ _ _ (fun f => f.p == s.n) m.fl (by omega) (fun x hx => (pc_sc1 s x).fd [1] [] [] rfl))) ?_
 iterate 6 first|refine Yp rfl ?_|apply Y3
 refine YP rfl (cat_ok (by simp; omega)) rfl ?_
 iterate 14 first|refine Yp rfl ?_|apply Yb|refine S.store tOk rfl rfl rfl rfl rfl rfl rfl rfl ?_|refine S.alloc tOk rfl rfl rfl rfl ?_|apply Y1|apply Yn|apply Ys
 refine W.cond rfl (fun c1=>?_) fun c1=>?_
 ·skip
  apply Ys
  refine W.regionS 17 mixed rfl (by kernel_rfl) ?_
  refine AnyZ.eager 0 rfl (by kernel_rfl) (Eag.pure tOk zOk rfl (fun _ _ _ => rfl) rfl rfl) ?_
  refine AnyZ.eager 2 rfl (by kernel_rfl) (Eag.pure tOk zOk rfl (fun _ _ _ => rfl) rfl rfl) ?_
  refine AnyZ.eager 6 rfl (by kernel_rfl) (Eag.pure tOk zOk rfl (fun _ _ _ => rfl) rfl rfl) ?_
  refine AnyZ.eager 7 rfl (by kernel_rfl) (Eag.pure tOk zOk rfl (fun _ _ _ => rfl) rfl rfl) ?_
  refine AnyZ.eager 8 rfl (by kernel_rfl) (Eag.pure tOk zOk rfl (fun _ _ _ => rfl) rfl rfl) ?_
  refine AnyZ.eager 9 rfl (by kernel_rfl) (Eag.pureG tOk zOk rfl rfl (fun _ _ _ => rfl) tg (fun _ => rfl) rfl) ?_
  refine AnyZ.eager 10 rfl (by kernel_rfl) (Eag.pureG tOk zOk rfl rfl (fun _ _ _ => rfl) tg (fun _ => rfl) rfl) ?_
  refine AnyZ.three 1 3 11 (by kernel_rfl) rfl rfl rfl ?_ ?_ ?_
  ·skip
   refine OpZ.d ?_
   refine Ym rfl rfl ?_
   refine WD.nil ?_
   refine AnyZ.two 3 11 (by kernel_rfl) rfl rfl ?_ ?_
   ·skip
    refine OpZ.d ?_
    refine Ym rfl rfl ?_
    refine WD.nil ?_
    refine AnyZ.eager 4 rfl (by kernel_rfl) (Eag.pure tOk zOk rfl (fun _ _ _ => rfl) rfl rfl) ?_
    refine AnyZ.eager 5 rfl (by kernel_rfl) (Eag.pure tOk zOk rfl (fun _ _ _ => rfl) rfl rfl) ?_
    refine AnyZ.two 11 14 (by kernel_rfl) rfl rfl ?_ ?_
    ·skip
     refine OpZ.d ?_
     refine Yy rfl rfl rfl tg ?_
     refine WD.nil ?_
     refine AnyZ.eager 12 rfl (by kernel_rfl) (Eag.pureG tOk zOk rfl rfl (fun _ _ _ => rfl) tg (fun _ => rfl) rfl) ?_
     refine AnyZ.two 13 14 (by kernel_rfl) rfl rfl ?_ ?_
     ·skip
      refine OpZ.d ?_
      refine D.pickOr tOk zOk rfl rfl tg ?_
      refine WD.nil ?_
      refine AnyZ.one 14 (by kernel_rfl) rfl ?_
      refine OpZ.d ?_
      refine D.store tOk rfl rfl rfl rfl rfl rfl rfl rfl ?_
      refine WD.nil ?_
      refine AnyZ.eager 15 rfl (by kernel_rfl) (Eag.pure tOk zOk rfl (fun _ _ _ => rfl) rfl rfl) ?_
      refine AnyZ.eager 16 rfl (by kernel_rfl) (Eag.pure tOk zOk rfl (fun _ _ _ => rfl) rfl rfl) ?_
      refine AnyZ.nil (by kernel_rfl) ?_
      iterate 4 first|apply Yu|apply Yv|apply Yt|apply Yn
      exact Yz rfl rfl rfl (by first | (rw [rq_1 (by assumption)]; rfl) | (rw [rq_2 (by assumption)]; rfl) | (rw [rq_3 (by assumption)]; rfl) | (rw [rq_4 (by assumption)]; rfl) | (rw [rq_5 (by assumption) (by assumption) (by assumption) (by assumption) (by assumption)]; rfl) | (rw [rq_6 (by assumption) (by assumption) (by assumption) (by assumption) (by assumption)]; rfl))
     refine OpZ.d ?_
     refine D.store tOk rfl rfl rfl rfl rfl rfl rfl rfl ?_
     refine WD.nil ?_
     refine AnyZ.one 13 (by kernel_rfl) rfl ?_
     refine OpZ.d ?_
     refine D.pickOr tOk zOk rfl rfl tg ?_
     refine WD.nil ?_
     refine AnyZ.eager 15 rfl (by kernel_rfl) (Eag.pure tOk zOk rfl (fun _ _ _ => rfl) rfl rfl) ?_
     refine AnyZ.eager 16 rfl (by kernel_rfl) (Eag.pure tOk zOk rfl (fun _ _ _ => rfl) rfl rfl) ?_
     refine AnyZ.nil (by kernel_rfl) ?_
     apply Yn
     apply Yt
     apply Yv
     apply Yu
     exact Yz rfl rfl rfl (by first | (rw [rq_1 (by assumption)]; rfl) | (rw [rq_2 (by assumption)]; rfl) | (rw [rq_3 (by assumption)]; rfl) | (rw [rq_4 (by assumption)]; rfl) | (rw [rq_5 (by assumption) (by assumption) (by assumption) (by assumption) (by assumption)]; rfl) | (rw [rq_6 (by assumption) (by assumption) (by assumption) (by assumption) (by assumption)]; rfl))
    refine OpZ.d ?_
    refine D.store tOk rfl rfl rfl rfl rfl rfl rfl rfl ?_
    refine WD.nil ?_
    refine AnyZ.one 11 (by kernel_rfl) rfl ?_
    refine OpZ.d ?_
    refine Yy rfl rfl rfl tg ?_
    refine WD.nil ?_
    refine AnyZ.eager 12 rfl (by kernel_rfl) (Eag.pureG tOk zOk rfl rfl (fun _ _ _ => rfl) tg (fun _ => rfl) rfl) ?_
    refine AnyZ.one 13 (by kernel_rfl) rfl ?_
    refine OpZ.d ?_
    refine D.pickOr tOk zOk rfl rfl tg ?_
    refine WD.nil ?_
    refine AnyZ.eager 15 rfl (by kernel_rfl) (Eag.pure tOk zOk rfl (fun _ _ _ => rfl) rfl rfl) ?_
    refine AnyZ.eager 16 rfl (by kernel_rfl) (Eag.pure tOk zOk rfl (fun _ _ _ => rfl) rfl rfl) ?_
    refine AnyZ.nil (by kernel_rfl) ?_
    apply Yn
    apply Yt
    apply Yv
    apply Yu
    exact Yz rfl rfl rfl (by first | (rw [rq_1 (by assumption)]; rfl) | (rw [rq_2 (by assumption)]; rfl) | (rw [rq_3 (by assumption)]; rfl) | (rw [rq_4 (by assumption)]; rfl) | (rw [rq_5 (by assumption) (by assumption) (by assumption) (by assumption) (by assumption)]; rfl) | (rw [rq_6 (by assumption) (by assumption) (by assumption) (by assumption) (by assumption)]; rfl))
   refine OpZ.d ?_
   refine Yy rfl rfl rfl tg ?_
   refine WD.nil ?_
   refine AnyZ.eager 12 rfl (by kernel_rfl) (Eag.pureG tOk zOk rfl rfl (fun _ _ _ => rfl) tg (fun _ => rfl) rfl) ?_
   refine AnyZ.two 3 13 (by kernel_rfl) rfl rfl ?_ ?_
   ·skip
    refine OpZ.d ?_
    refine Ym rfl rfl ?_
    refine WD.nil ?_
    refine AnyZ.eager 4 rfl (by kernel_rfl) (Eag.pure tOk zOk rfl (fun _ _ _ => rfl) rfl rfl) ?_
    refine AnyZ.eager 5 rfl (by kernel_rfl) (Eag.pure tOk zOk rfl (fun _ _ _ => rfl) rfl rfl) ?_
    refine AnyZ.two 13 14 (by kernel_rfl) rfl rfl ?_ ?_
    ·skip
     refine OpZ.d ?_
     refine D.pickOr tOk zOk rfl rfl tg ?_
     refine WD.nil ?_
     refine AnyZ.one 14 (by kernel_rfl) rfl ?_
     refine OpZ.d ?_
     refine D.store tOk rfl rfl rfl rfl rfl rfl rfl rfl ?_
     refine WD.nil ?_
     refine AnyZ.eager 15 rfl (by kernel_rfl) (Eag.pure tOk zOk rfl (fun _ _ _ => rfl) rfl rfl) ?_
     refine AnyZ.eager 16 rfl (by kernel_rfl) (Eag.pure tOk zOk rfl (fun _ _ _ => rfl) rfl rfl) ?_
     refine AnyZ.nil (by kernel_rfl) ?_
     apply Yn
     apply Yt
     apply Yv
     apply Yu
     exact Yz rfl rfl rfl (by first | (rw [rq_1 (by assumption)]; rfl) | (rw [rq_2 (by assumption)]; rfl) | (rw [rq_3 (by assumption)]; rfl) | (rw [rq_4 (by assumption)]; rfl) | (rw [rq_5 (by assumption) (by assumption) (by assumption) (by assumption) (by assumption)]; rfl) | (rw [rq_6 (by assumption) (by assumption) (by assumption) (by assumption) (by assumption)]; rfl))
    refine OpZ.d ?_
    refine D.store tOk rfl rfl rfl rfl rfl rfl rfl rfl ?_
    refine WD.nil ?_
    refine AnyZ.one 13 (by kernel_rfl) rfl ?_
    refine OpZ.d ?_
    refine D.pickOr tOk zOk rfl rfl tg ?_
    refine WD.nil ?_
    refine AnyZ.eager 15 rfl (by kernel_rfl) (Eag.pure tOk zOk rfl (fun _ _ _ => rfl) rfl rfl) ?_
    refine AnyZ.eager 16 rfl (by kernel_rfl) (Eag.pure tOk zOk rfl (fun _ _ _ => rfl) rfl rfl) ?_
    refine AnyZ.nil (by kernel_rfl) ?_
    apply Yn
    apply Yt
    apply Yv
    apply Yu
    exact Yz rfl rfl rfl (by first | (rw [rq_1 (by assumption)]; rfl) | (rw [rq_2 (by assumption)]; rfl) | (rw [rq_3 (by assumption)]; rfl) | (rw [rq_4 (by assumption)]; rfl) | (rw [rq_5 (by assumption) (by assumption) (by assumption) (by assumption) (by assumption)]; rfl) | (rw [rq_6 (by assumption) (by assumption) (by assumption) (by assumption) (by assumption)]; rfl))
   refine OpZ.d ?_
   refine D.pickOr tOk zOk rfl rfl tg ?_
   refine WD.nil ?_
   refine AnyZ.one 3 (by kernel_rfl) rfl ?_
   refine OpZ.d ?_
   refine Ym rfl rfl ?_
   refine WD.nil ?_
   refine AnyZ.eager 4 rfl (by kernel_rfl) (Eag.pure tOk zOk rfl (fun _ _ _ => rfl) rfl rfl) ?_
   refine AnyZ.eager 5 rfl (by kernel_rfl) (Eag.pure tOk zOk rfl (fun _ _ _ => rfl) rfl rfl) ?_
   refine AnyZ.one 14 (by kernel_rfl) rfl ?_
   refine OpZ.d ?_
   refine D.store tOk rfl rfl rfl rfl rfl rfl rfl rfl ?_
   refine WD.nil ?_
   refine AnyZ.eager 15 rfl (by kernel_rfl) (Eag.pure tOk zOk rfl (fun _ _ _ => rfl) rfl rfl) ?_
   refine AnyZ.eager 16 rfl (by kernel_rfl) (Eag.pure tOk zOk rfl (fun _ _ _ => rfl) rfl rfl) ?_
   refine AnyZ.nil (by kernel_rfl) ?_
   apply Yn
   apply Yt
   apply Yv
   apply Yu
   exact Yz rfl rfl rfl (by first | (rw [rq_1 (by assumption)]; rfl) | (rw [rq_2 (by assumption)]; rfl) | (rw [rq_3 (by assumption)]; rfl) | (rw [rq_4 (by assumption)]; rfl) | (rw [rq_5 (by assumption) (by assumption) (by assumption) (by assumption) (by assumption)]; rfl) | (rw [rq_6 (by assumption) (by assumption) (by assumption) (by assumption) (by assumption)]; rfl))
  ·skip
   refine OpZ.d ?_
   refine Ym rfl rfl ?_
   refine WD.nil ?_
   refine AnyZ.two 1 11 (by kernel_rfl) rfl rfl ?_ ?_
   ·skip
    refine OpZ.d ?_
    refine Ym rfl rfl ?_
    refine WD.nil ?_
    refine AnyZ.eager 4 rfl (by kernel_rfl) (Eag.pure tOk zOk rfl (fun _ _ _ => rfl) rfl rfl) ?_
    refine AnyZ.eager 5 rfl (by kernel_rfl) (Eag.pure tOk zOk rfl (fun _ _ _ => rfl) rfl rfl) ?_
    refine AnyZ.two 11 14 (by kernel_rfl) rfl rfl ?_ ?_
    ·skip
     refine OpZ.d ?_
     refine Yy rfl rfl rfl tg ?_
     refine WD.nil ?_
     refine AnyZ.eager 12 rfl (by kernel_rfl) (Eag.pureG tOk zOk rfl rfl (fun _ _ _ => rfl) tg (fun _ => rfl) rfl) ?_
     refine AnyZ.two 13 14 (by kernel_rfl) rfl rfl ?_ ?_
     ·skip
      refine OpZ.d ?_
      refine D.pickOr tOk zOk rfl rfl tg ?_
      refine WD.nil ?_
      refine AnyZ.one 14 (by kernel_rfl) rfl ?_
      refine OpZ.d ?_
      refine D.store tOk rfl rfl rfl rfl rfl rfl rfl rfl ?_
      refine WD.nil ?_
      refine AnyZ.eager 15 rfl (by kernel_rfl) (Eag.pure tOk zOk rfl (fun _ _ _ => rfl) rfl rfl) ?_
      refine AnyZ.eager 16 rfl (by kernel_rfl) (Eag.pure tOk zOk rfl (fun _ _ _ => rfl) rfl rfl) ?_
      refine AnyZ.nil (by kernel_rfl) ?_
      iterate 4 first|apply Yu|apply Yv|apply Yt|apply Yn
      exact Yz rfl rfl rfl (by first | (rw [rq_1 (by assumption)]; rfl) | (rw [rq_2 (by assumption)]; rfl) | (rw [rq_3 (by assumption)]; rfl) | (rw [rq_4 (by assumption)]; rfl) | (rw [rq_5 (by assumption) (by assumption) (by assumption) (by assumption) (by assumption)]; rfl) | (rw [rq_6 (by assumption) (by assumption) (by assumption) (by assumption) (by assumption)]; rfl))
     refine OpZ.d ?_
     refine D.store tOk rfl rfl rfl rfl rfl rfl rfl rfl ?_
     refine WD.nil ?_
     refine AnyZ.one 13 (by kernel_rfl) rfl ?_
     refine OpZ.d ?_
     refine D.pickOr tOk zOk rfl rfl tg ?_
     refine WD.nil ?_
     refine AnyZ.eager 15 rfl (by kernel_rfl) (Eag.pure tOk zOk rfl (fun _ _ _ => rfl) rfl rfl) ?_
     refine AnyZ.eager 16 rfl (by kernel_rfl) (Eag.pure tOk zOk rfl (fun _ _ _ => rfl) rfl rfl) ?_
     refine AnyZ.nil (by kernel_rfl) ?_
     apply Yn
     apply Yt
     apply Yv
     apply Yu
     exact Yz rfl rfl rfl (by first | (rw [rq_1 (by assumption)]; rfl) | (rw [rq_2 (by assumption)]; rfl) | (rw [rq_3 (by assumption)]; rfl) | (rw [rq_4 (by assumption)]; rfl) | (rw [rq_5 (by assumption) (by assumption) (by assumption) (by assumption) (by assumption)]; rfl) | (rw [rq_6 (by assumption) (by assumption) (by assumption) (by assumption) (by assumption)]; rfl))
    refine OpZ.d ?_
    refine D.store tOk rfl rfl rfl rfl rfl rfl rfl rfl ?_
    refine WD.nil ?_
    refine AnyZ.one 11 (by kernel_rfl) rfl ?_
    refine OpZ.d ?_
    refine Yy rfl rfl rfl tg ?_
    refine WD.nil ?_
    refine AnyZ.eager 12 rfl (by kernel_rfl) (Eag.pureG tOk zOk rfl rfl (fun _ _ _ => rfl) tg (fun _ => rfl) rfl) ?_
    refine AnyZ.one 13 (by kernel_rfl) rfl ?_
    refine OpZ.d ?_
    refine D.pickOr tOk zOk rfl rfl tg ?_
    refine WD.nil ?_
    refine AnyZ.eager 15 rfl (by kernel_rfl) (Eag.pure tOk zOk rfl (fun _ _ _ => rfl) rfl rfl) ?_
    refine AnyZ.eager 16 rfl (by kernel_rfl) (Eag.pure tOk zOk rfl (fun _ _ _ => rfl) rfl rfl) ?_
    refine AnyZ.nil (by kernel_rfl) ?_
    apply Yn
    apply Yt
    apply Yv
    apply Yu
    exact Yz rfl rfl rfl (by first | (rw [rq_1 (by assumption)]; rfl) | (rw [rq_2 (by assumption)]; rfl) | (rw [rq_3 (by assumption)]; rfl) | (rw [rq_4 (by assumption)]; rfl) | (rw [rq_5 (by assumption) (by assumption) (by assumption) (by assumption) (by assumption)]; rfl) | (rw [rq_6 (by assumption) (by assumption) (by assumption) (by assumption) (by assumption)]; rfl))
   refine OpZ.d ?_
   refine Yy rfl rfl rfl tg ?_
   refine WD.nil ?_
   refine AnyZ.eager 12 rfl (by kernel_rfl) (Eag.pureG tOk zOk rfl rfl (fun _ _ _ => rfl) tg (fun _ => rfl) rfl) ?_
   refine AnyZ.two 1 13 (by kernel_rfl) rfl rfl ?_ ?_
   ·skip
    refine OpZ.d ?_
    refine Ym rfl rfl ?_
    refine WD.nil ?_
    refine AnyZ.eager 4 rfl (by kernel_rfl) (Eag.pure tOk zOk rfl (fun _ _ _ => rfl) rfl rfl) ?_
    refine AnyZ.eager 5 rfl (by kernel_rfl) (Eag.pure tOk zOk rfl (fun _ _ _ => rfl) rfl rfl) ?_
    refine AnyZ.two 13 14 (by kernel_rfl) rfl rfl ?_ ?_
    ·skip
     refine OpZ.d ?_
     refine D.pickOr tOk zOk rfl rfl tg ?_
     refine WD.nil ?_
     refine AnyZ.one 14 (by kernel_rfl) rfl ?_
     refine OpZ.d ?_
     refine D.store tOk rfl rfl rfl rfl rfl rfl rfl rfl ?_
     refine WD.nil ?_
     refine AnyZ.eager 15 rfl (by kernel_rfl) (Eag.pure tOk zOk rfl (fun _ _ _ => rfl) rfl rfl) ?_
     refine AnyZ.eager 16 rfl (by kernel_rfl) (Eag.pure tOk zOk rfl (fun _ _ _ => rfl) rfl rfl) ?_
     refine AnyZ.nil (by kernel_rfl) ?_
     apply Yn
     apply Yt
     apply Yv
     apply Yu
     exact Yz rfl rfl rfl (by first | (rw [rq_1 (by assumption)]; rfl) | (rw [rq_2 (by assumption)]; rfl) | (rw [rq_3 (by assumption)]; rfl) | (rw [rq_4 (by assumption)]; rfl) | (rw [rq_5 (by assumption) (by assumption) (by assumption) (by assumption) (by assumption)]; rfl) | (rw [rq_6 (by assumption) (by assumption) (by assumption) (by assumption) (by assumption)]; rfl))
    refine OpZ.d ?_
    refine D.store tOk rfl rfl rfl rfl rfl rfl rfl rfl ?_
    refine WD.nil ?_
    refine AnyZ.one 13 (by kernel_rfl) rfl ?_
    refine OpZ.d ?_
    refine D.pickOr tOk zOk rfl rfl tg ?_
    refine WD.nil ?_
    refine AnyZ.eager 15 rfl (by kernel_rfl) (Eag.pure tOk zOk rfl (fun _ _ _ => rfl) rfl rfl) ?_
    refine AnyZ.eager 16 rfl (by kernel_rfl) (Eag.pure tOk zOk rfl (fun _ _ _ => rfl) rfl rfl) ?_
    refine AnyZ.nil (by kernel_rfl) ?_
    apply Yn
    apply Yt
    apply Yv
    apply Yu
    exact Yz rfl rfl rfl (by first | (rw [rq_1 (by assumption)]; rfl) | (rw [rq_2 (by assumption)]; rfl) | (rw [rq_3 (by assumption)]; rfl) | (rw [rq_4 (by assumption)]; rfl) | (rw [rq_5 (by assumption) (by assumption) (by assumption) (by assumption) (by assumption)]; rfl) | (rw [rq_6 (by assumption) (by assumption) (by assumption) (by assumption) (by assumption)]; rfl))
   refine OpZ.d ?_
   refine D.pickOr tOk zOk rfl rfl tg ?_
   refine WD.nil ?_
   refine AnyZ.one 1 (by kernel_rfl) rfl ?_
   refine OpZ.d ?_
   refine Ym rfl rfl ?_
   refine WD.nil ?_
   refine AnyZ.eager 4 rfl (by kernel_rfl) (Eag.pure tOk zOk rfl (fun _ _ _ => rfl) rfl rfl) ?_
   refine AnyZ.eager 5 rfl (by kernel_rfl) (Eag.pure tOk zOk rfl (fun _ _ _ => rfl) rfl rfl) ?_
   refine AnyZ.one 14 (by kernel_rfl) rfl ?_
   refine OpZ.d ?_
   refine D.store tOk rfl rfl rfl rfl rfl rfl rfl rfl ?_
   refine WD.nil ?_
   refine AnyZ.eager 15 rfl (by kernel_rfl) (Eag.pure tOk zOk rfl (fun _ _ _ => rfl) rfl rfl) ?_
   refine AnyZ.eager 16 rfl (by kernel_rfl) (Eag.pure tOk zOk rfl (fun _ _ _ => rfl) rfl rfl) ?_
   refine AnyZ.nil (by kernel_rfl) ?_
   apply Yn
   apply Yt
   apply Yv
   apply Yu
   exact Yz rfl rfl rfl (by first | (rw [rq_1 (by assumption)]; rfl) | (rw [rq_2 (by assumption)]; rfl) | (rw [rq_3 (by assumption)]; rfl) | (rw [rq_4 (by assumption)]; rfl) | (rw [rq_5 (by assumption) (by assumption) (by assumption) (by assumption) (by assumption)]; rfl) | (rw [rq_6 (by assumption) (by assumption) (by assumption) (by assumption) (by assumption)]; rfl))
  refine OpZ.d ?_
  refine Yy rfl rfl rfl tg ?_
  refine WD.nil ?_
  refine AnyZ.eager 12 rfl (by kernel_rfl) (Eag.pureG tOk zOk rfl rfl (fun _ _ _ => rfl) tg (fun _ => rfl) rfl) ?_
  refine AnyZ.three 1 3 13 (by kernel_rfl) rfl rfl rfl ?_ ?_ ?_
  ·skip
   refine OpZ.d ?_
   refine Ym rfl rfl ?_
   refine WD.nil ?_
   refine AnyZ.two 3 13 (by kernel_rfl) rfl rfl ?_ ?_
   ·skip
    refine OpZ.d ?_
    refine Ym rfl rfl ?_
    refine WD.nil ?_
    refine AnyZ.eager 4 rfl (by kernel_rfl) (Eag.pure tOk zOk rfl (fun _ _ _ => rfl) rfl rfl) ?_
    refine AnyZ.eager 5 rfl (by kernel_rfl) (Eag.pure tOk zOk rfl (fun _ _ _ => rfl) rfl rfl) ?_
    refine AnyZ.two 13 14 (by kernel_rfl) rfl rfl ?_ ?_
    ·skip
     refine OpZ.d ?_
     refine D.pickOr tOk zOk rfl rfl tg ?_
     refine WD.nil ?_
     refine AnyZ.one 14 (by kernel_rfl) rfl ?_
     refine OpZ.d ?_
     refine D.store tOk rfl rfl rfl rfl rfl rfl rfl rfl ?_
     refine WD.nil ?_
     refine AnyZ.eager 15 rfl (by kernel_rfl) (Eag.pure tOk zOk rfl (fun _ _ _ => rfl) rfl rfl) ?_
     refine AnyZ.eager 16 rfl (by kernel_rfl) (Eag.pure tOk zOk rfl (fun _ _ _ => rfl) rfl rfl) ?_
     refine AnyZ.nil (by kernel_rfl) ?_
     apply Yn
     apply Yt
     apply Yv
     apply Yu
     exact Yz rfl rfl rfl (by first | (rw [rq_1 (by assumption)]; rfl) | (rw [rq_2 (by assumption)]; rfl) | (rw [rq_3 (by assumption)]; rfl) | (rw [rq_4 (by assumption)]; rfl) | (rw [rq_5 (by assumption) (by assumption) (by assumption) (by assumption) (by assumption)]; rfl) | (rw [rq_6 (by assumption) (by assumption) (by assumption) (by assumption) (by assumption)]; rfl))
    refine OpZ.d ?_
    refine D.store tOk rfl rfl rfl rfl rfl rfl rfl rfl ?_
    refine WD.nil ?_
    refine AnyZ.one 13 (by kernel_rfl) rfl ?_
    refine OpZ.d ?_
    refine D.pickOr tOk zOk rfl rfl tg ?_
    refine WD.nil ?_
    refine AnyZ.eager 15 rfl (by kernel_rfl) (Eag.pure tOk zOk rfl (fun _ _ _ => rfl) rfl rfl) ?_
    refine AnyZ.eager 16 rfl (by kernel_rfl) (Eag.pure tOk zOk rfl (fun _ _ _ => rfl) rfl rfl) ?_
    refine AnyZ.nil (by kernel_rfl) ?_
    apply Yn
    apply Yt
    apply Yv
    apply Yu
    exact Yz rfl rfl rfl (by first | (rw [rq_1 (by assumption)]; rfl) | (rw [rq_2 (by assumption)]; rfl) | (rw [rq_3 (by assumption)]; rfl) | (rw [rq_4 (by assumption)]; rfl) | (rw [rq_5 (by assumption) (by assumption) (by assumption) (by assumption) (by assumption)]; rfl) | (rw [rq_6 (by assumption) (by assumption) (by assumption) (by assumption) (by assumption)]; rfl))
   refine OpZ.d ?_
   refine D.pickOr tOk zOk rfl rfl tg ?_
   refine WD.nil ?_
   refine AnyZ.one 3 (by kernel_rfl) rfl ?_
   refine OpZ.d ?_
   refine Ym rfl rfl ?_
   refine WD.nil ?_
   refine AnyZ.eager 4 rfl (by kernel_rfl) (Eag.pure tOk zOk rfl (fun _ _ _ => rfl) rfl rfl) ?_
   refine AnyZ.eager 5 rfl (by kernel_rfl) (Eag.pure tOk zOk rfl (fun _ _ _ => rfl) rfl rfl) ?_
   refine AnyZ.one 14 (by kernel_rfl) rfl ?_
   refine OpZ.d ?_
   refine D.store tOk rfl rfl rfl rfl rfl rfl rfl rfl ?_
   refine WD.nil ?_
   refine AnyZ.eager 15 rfl (by kernel_rfl) (Eag.pure tOk zOk rfl (fun _ _ _ => rfl) rfl rfl) ?_
   refine AnyZ.eager 16 rfl (by kernel_rfl) (Eag.pure tOk zOk rfl (fun _ _ _ => rfl) rfl rfl) ?_
   refine AnyZ.nil (by kernel_rfl) ?_
   apply Yn
   apply Yt
   apply Yv
   apply Yu
   exact Yz rfl rfl rfl (by first | (rw [rq_1 (by assumption)]; rfl) | (rw [rq_2 (by assumption)]; rfl) | (rw [rq_3 (by assumption)]; rfl) | (rw [rq_4 (by assumption)]; rfl) | (rw [rq_5 (by assumption) (by assumption) (by assumption) (by assumption) (by assumption)]; rfl) | (rw [rq_6 (by assumption) (by assumption) (by assumption) (by assumption) (by assumption)]; rfl))
  ·skip
   refine OpZ.d ?_
   refine Ym rfl rfl ?_
   refine WD.nil ?_
   refine AnyZ.two 1 13 (by kernel_rfl) rfl rfl ?_ ?_
   ·skip
    refine OpZ.d ?_
    refine Ym rfl rfl ?_
    refine WD.nil ?_
    refine AnyZ.eager 4 rfl (by kernel_rfl) (Eag.pure tOk zOk rfl (fun _ _ _ => rfl) rfl rfl) ?_
    refine AnyZ.eager 5 rfl (by kernel_rfl) (Eag.pure tOk zOk rfl (fun _ _ _ => rfl) rfl rfl) ?_
    refine AnyZ.two 13 14 (by kernel_rfl) rfl rfl ?_ ?_
    ·skip
     refine OpZ.d ?_
     refine D.pickOr tOk zOk rfl rfl tg ?_
     refine WD.nil ?_
     refine AnyZ.one 14 (by kernel_rfl) rfl ?_
     refine OpZ.d ?_
     refine D.store tOk rfl rfl rfl rfl rfl rfl rfl rfl ?_
     refine WD.nil ?_
     refine AnyZ.eager 15 rfl (by kernel_rfl) (Eag.pure tOk zOk rfl (fun _ _ _ => rfl) rfl rfl) ?_
     refine AnyZ.eager 16 rfl (by kernel_rfl) (Eag.pure tOk zOk rfl (fun _ _ _ => rfl) rfl rfl) ?_
     refine AnyZ.nil (by kernel_rfl) ?_
     apply Yn
     apply Yt
     apply Yv
     apply Yu
     exact Yz rfl rfl rfl (by first | (rw [rq_1 (by assumption)]; rfl) | (rw [rq_2 (by assumption)]; rfl) | (rw [rq_3 (by assumption)]; rfl) | (rw [rq_4 (by assumption)]; rfl) | (rw [rq_5 (by assumption) (by assumption) (by assumption) (by assumption) (by assumption)]; rfl) | (rw [rq_6 (by assumption) (by assumption) (by assumption) (by assumption) (by assumption)]; rfl))
    refine OpZ.d ?_
    refine D.store tOk rfl rfl rfl rfl rfl rfl rfl rfl ?_
    refine WD.nil ?_
    refine AnyZ.one 13 (by kernel_rfl) rfl ?_
    refine OpZ.d ?_
    refine D.pickOr tOk zOk rfl rfl tg ?_
    refine WD.nil ?_
    refine AnyZ.eager 15 rfl (by kernel_rfl) (Eag.pure tOk zOk rfl (fun _ _ _ => rfl) rfl rfl) ?_
    refine AnyZ.eager 16 rfl (by kernel_rfl) (Eag.pure tOk zOk rfl (fun _ _ _ => rfl) rfl rfl) ?_
    refine AnyZ.nil (by kernel_rfl) ?_
    apply Yn
    apply Yt
    apply Yv
    apply Yu
    exact Yz rfl rfl rfl (by first | (rw [rq_1 (by assumption)]; rfl) | (rw [rq_2 (by assumption)]; rfl) | (rw [rq_3 (by assumption)]; rfl) | (rw [rq_4 (by assumption)]; rfl) | (rw [rq_5 (by assumption) (by assumption) (by assumption) (by assumption) (by assumption)]; rfl) | (rw [rq_6 (by assumption) (by assumption) (by assumption) (by assumption) (by assumption)]; rfl))
   refine OpZ.d ?_
   refine D.pickOr tOk zOk rfl rfl tg ?_
   refine WD.nil ?_
   refine AnyZ.one 1 (by kernel_rfl) rfl ?_
   refine OpZ.d ?_
   refine Ym rfl rfl ?_
   refine WD.nil ?_
   refine AnyZ.eager 4 rfl (by kernel_rfl) (Eag.pure tOk zOk rfl (fun _ _ _ => rfl) rfl rfl) ?_
   refine AnyZ.eager 5 rfl (by kernel_rfl) (Eag.pure tOk zOk rfl (fun _ _ _ => rfl) rfl rfl) ?_
   refine AnyZ.one 14 (by kernel_rfl) rfl ?_
   refine OpZ.d ?_
   refine D.store tOk rfl rfl rfl rfl rfl rfl rfl rfl ?_
   refine WD.nil ?_
   refine AnyZ.eager 15 rfl (by kernel_rfl) (Eag.pure tOk zOk rfl (fun _ _ _ => rfl) rfl rfl) ?_
   refine AnyZ.eager 16 rfl (by kernel_rfl) (Eag.pure tOk zOk rfl (fun _ _ _ => rfl) rfl rfl) ?_
   refine AnyZ.nil (by kernel_rfl) ?_
   apply Yn
   apply Yt
   apply Yv
   apply Yu
   exact Yz rfl rfl rfl (by first | (rw [rq_1 (by assumption)]; rfl) | (rw [rq_2 (by assumption)]; rfl) | (rw [rq_3 (by assumption)]; rfl) | (rw [rq_4 (by assumption)]; rfl) | (rw [rq_5 (by assumption) (by assumption) (by assumption) (by assumption) (by assumption)]; rfl) | (rw [rq_6 (by assumption) (by assumption) (by assumption) (by assumption) (by assumption)]; rfl))
  refine OpZ.d ?_
  refine D.pickOr tOk zOk rfl rfl tg ?_
  refine WD.nil ?_
  refine AnyZ.two 1 3 (by kernel_rfl) rfl rfl ?_ ?_
  ·skip
   refine OpZ.d ?_
   refine Ym rfl rfl ?_
   refine WD.nil ?_
   refine AnyZ.one 3 (by kernel_rfl) rfl ?_
   refine OpZ.d ?_
   refine Ym rfl rfl ?_
   refine WD.nil ?_
   refine AnyZ.eager 4 rfl (by kernel_rfl) (Eag.pure tOk zOk rfl (fun _ _ _ => rfl) rfl rfl) ?_
   refine AnyZ.eager 5 rfl (by kernel_rfl) (Eag.pure tOk zOk rfl (fun _ _ _ => rfl) rfl rfl) ?_
   refine AnyZ.one 14 (by kernel_rfl) rfl ?_
   refine OpZ.d ?_
   refine D.store tOk rfl rfl rfl rfl rfl rfl rfl rfl ?_
   refine WD.nil ?_
   refine AnyZ.eager 15 rfl (by kernel_rfl) (Eag.pure tOk zOk rfl (fun _ _ _ => rfl) rfl rfl) ?_
   refine AnyZ.eager 16 rfl (by kernel_rfl) (Eag.pure tOk zOk rfl (fun _ _ _ => rfl) rfl rfl) ?_
   refine AnyZ.nil (by kernel_rfl) ?_
   apply Yn
   apply Yt
   apply Yv
   apply Yu
   exact Yz rfl rfl rfl (by first | (rw [rq_1 (by assumption)]; rfl) | (rw [rq_2 (by assumption)]; rfl) | (rw [rq_3 (by assumption)]; rfl) | (rw [rq_4 (by assumption)]; rfl) | (rw [rq_5 (by assumption) (by assumption) (by assumption) (by assumption) (by assumption)]; rfl) | (rw [rq_6 (by assumption) (by assumption) (by assumption) (by assumption) (by assumption)]; rfl))
  refine OpZ.d ?_
  refine Ym rfl rfl ?_
  refine WD.nil ?_
  refine AnyZ.one 1 (by kernel_rfl) rfl ?_
  refine OpZ.d ?_
  refine Ym rfl rfl ?_
  refine WD.nil ?_
  refine AnyZ.eager 4 rfl (by kernel_rfl) (Eag.pure tOk zOk rfl (fun _ _ _ => rfl) rfl rfl) ?_
  refine AnyZ.eager 5 rfl (by kernel_rfl) (Eag.pure tOk zOk rfl (fun _ _ _ => rfl) rfl rfl) ?_
  refine AnyZ.one 14 (by kernel_rfl) rfl ?_
  refine OpZ.d ?_
  refine D.store tOk rfl rfl rfl rfl rfl rfl rfl rfl ?_
  refine WD.nil ?_
  refine AnyZ.eager 15 rfl (by kernel_rfl) (Eag.pure tOk zOk rfl (fun _ _ _ => rfl) rfl rfl) ?_
  refine AnyZ.eager 16 rfl (by kernel_rfl) (Eag.pure tOk zOk rfl (fun _ _ _ => rfl) rfl rfl) ?_
  refine AnyZ.nil (by kernel_rfl) ?_
  apply Yn
  apply Yt
  apply Yv
  apply Yu
  exact Yz rfl rfl rfl (by first | (rw [rq_1 (by assumption)]; rfl) | (rw [rq_2 (by assumption)]; rfl) | (rw [rq_3 (by assumption)]; rfl) | (rw [rq_4 (by assumption)]; rfl) | (rw [rq_5 (by assumption) (by assumption) (by assumption) (by assumption) (by assumption)]; rfl) | (rw [rq_6 (by assumption) (by assumption) (by assumption) (by assumption) (by assumption)]; rfl))
 apply Y1
 iterate 2 refine Yp rfl ?_
 apply Yn
 refine W.cond rfl (fun c2=>?_) fun c2=>?_
 ·skip
  iterate 13 first|refine Yp rfl ?_|apply Yu|apply Yv|apply Yt|refine S.store tOk rfl rfl rfl rfl rfl rfl rfl rfl ?_|apply Y1|apply Yn
  exact Yz rfl rfl rfl (by first | (rw [rq_1 (by assumption)]; rfl) | (rw [rq_2 (by assumption)]; rfl) | (rw [rq_3 (by assumption)]; rfl) | (rw [rq_4 (by assumption)]; rfl) | (rw [rq_5 (by assumption) (by assumption) (by assumption) (by assumption) (by assumption)]; rfl) | (rw [rq_6 (by assumption) (by assumption) (by assumption) (by assumption) (by assumption)]; rfl))
 apply Y1
 iterate 2 refine Yp rfl ?_
 apply Yn
 refine W.cond rfl (fun c3=>?_) fun c3=>?_
 ·skip
  apply Ys
  refine W.regionS 16 mixed rfl (by kernel_rfl) ?_
  refine AnyZ.eager 2 rfl (by kernel_rfl) (Eag.pure tOk zOk rfl (fun _ _ _ => rfl) rfl rfl) ?_
  refine AnyZ.eager 3 rfl (by kernel_rfl) (Eag.pure tOk zOk rfl (fun _ _ _ => rfl) rfl rfl) ?_
  refine AnyZ.eager 4 rfl (by kernel_rfl) (Eag.pure tOk zOk rfl (fun _ _ _ => rfl) rfl rfl) ?_
  refine AnyZ.eager 5 rfl (by kernel_rfl) (Eag.pureG tOk zOk rfl rfl (fun _ _ _ => rfl) tg (fun _ => rfl) rfl) ?_
  refine AnyZ.eager 7 rfl (by kernel_rfl) (Eag.pureG tOk zOk rfl rfl (fun _ _ _ => rfl) tg (fun _ => rfl) rfl) ?_
  refine AnyZ.three 0 6 10 (by kernel_rfl) rfl rfl rfl ?_ ?_ ?_
  ·skip
   refine OpZ.d ?_
   refine Ym rfl rfl ?_
   refine WD.nil ?_
   refine AnyZ.eager 1 rfl (by kernel_rfl) (Eag.pure tOk zOk rfl (fun _ _ _ => rfl) rfl rfl) ?_
   refine AnyZ.three 6 10 13 (by kernel_rfl) rfl rfl rfl ?_ ?_ ?_
   ·skip
    refine OpZ.d ?_
    refine Yy rfl rfl rfl tg ?_
    refine WD.nil ?_
    refine AnyZ.three 8 10 13 (by kernel_rfl) rfl rfl rfl ?_ ?_ ?_
    ·skip
     refine OpZ.d ?_
     refine D.pureEGc tOk zOk rfl rfl rfl tg (fun hg => ok_idx Fl.z (ngt_t hg)) (fun hg => at_idx Fl.z (ngt_t hg)) rfl ?_
     refine WD.nil ?_
     refine AnyZ.three 9 10 13 (by kernel_rfl) rfl rfl rfl ?_ ?_ ?_
     ·skip
      refine OpZ.d ?_
      refine Yy rfl rfl rfl tg ?_
      refine WD.nil ?_
      refine AnyZ.two 10 13 (by kernel_rfl) rfl rfl ?_ ?_
      ·skip
       refine OpZ.d ?_
       refine Yy rfl rfl rfl tg ?_
       refine WD.nil ?_
       refine AnyZ.eager 11 rfl (by kernel_rfl) (Eag.pureG tOk zOk rfl rfl (fun _ _ _ => rfl) tg (fun _ => rfl) rfl) ?_
       refine AnyZ.two 12 13 (by kernel_rfl) rfl rfl ?_ ?_
       ·skip
        refine OpZ.d ?_
        refine D.pickOr tOk zOk rfl rfl tg ?_
        refine WD.nil ?_
        refine AnyZ.one 13 (by kernel_rfl) rfl ?_
        refine OpZ.d ?_
        refine D.store tOk rfl rfl rfl rfl rfl rfl rfl rfl ?_
        refine WD.nil ?_
        refine AnyZ.eager 14 rfl (by kernel_rfl) (Eag.pure tOk zOk rfl (fun _ _ _ => rfl) rfl rfl) ?_
        refine AnyZ.eager 15 rfl (by kernel_rfl) (Eag.pure tOk zOk rfl (fun _ _ _ => rfl) rfl rfl) ?_
        refine AnyZ.nil (by kernel_rfl) ?_
        iterate 4 first|apply Yu|apply Yv|apply Yt|apply Yn
        exact Yz rfl rfl rfl (by first | (rw [rq_1 (by assumption)]; rfl) | (rw [rq_2 (by assumption)]; rfl) | (rw [rq_3 (by assumption)]; rfl) | (rw [rq_4 (by assumption)]; rfl) | (rw [rq_5 (by assumption) (by assumption) (by assumption) (by assumption) (by assumption)]; rfl) | (rw [rq_6 (by assumption) (by assumption) (by assumption) (by assumption) (by assumption)]; rfl))
       refine OpZ.d ?_
       refine D.store tOk rfl rfl rfl rfl rfl rfl rfl rfl ?_
       refine WD.nil ?_
       refine AnyZ.one 12 (by kernel_rfl) rfl ?_
       refine OpZ.d ?_
       refine D.pickOr tOk zOk rfl rfl tg ?_
       refine WD.nil ?_
       refine AnyZ.eager 14 rfl (by kernel_rfl) (Eag.pure tOk zOk rfl (fun _ _ _ => rfl) rfl rfl) ?_
       refine AnyZ.eager 15 rfl (by kernel_rfl) (Eag.pure tOk zOk rfl (fun _ _ _ => rfl) rfl rfl) ?_
       refine AnyZ.nil (by kernel_rfl) ?_
       iterate 4 first|apply Yu|apply Yv|apply Yt|apply Yn
       exact Yz rfl rfl rfl (by first | (rw [rq_1 (by assumption)]; rfl) | (rw [rq_2 (by assumption)]; rfl) | (rw [rq_3 (by assumption)]; rfl) | (rw [rq_4 (by assumption)]; rfl) | (rw [rq_5 (by assumption) (by assumption) (by assumption) (by assumption) (by assumption)]; rfl) | (rw [rq_6 (by assumption) (by assumption) (by assumption) (by assumption) (by assumption)]; rfl))
      refine OpZ.d ?_
      refine D.store tOk rfl rfl rfl rfl rfl rfl rfl rfl ?_
      refine WD.nil ?_
      refine AnyZ.one 10 (by kernel_rfl) rfl ?_
      refine OpZ.d ?_
      refine Yy rfl rfl rfl tg ?_
      refine WD.nil ?_
      refine AnyZ.eager 11 rfl (by kernel_rfl) (Eag.pureG tOk zOk rfl rfl (fun _ _ _ => rfl) tg (fun _ => rfl) rfl) ?_
      refine AnyZ.one 12 (by kernel_rfl) rfl ?_
      refine OpZ.d ?_
      refine D.pickOr tOk zOk rfl rfl tg ?_
      refine WD.nil ?_
      refine AnyZ.eager 14 rfl (by kernel_rfl) (Eag.pure tOk zOk rfl (fun _ _ _ => rfl) rfl rfl) ?_
      refine AnyZ.eager 15 rfl (by kernel_rfl) (Eag.pure tOk zOk rfl (fun _ _ _ => rfl) rfl rfl) ?_
      refine AnyZ.nil (by kernel_rfl) ?_
      iterate 4 first|apply Yu|apply Yv|apply Yt|apply Yn
      exact Yz rfl rfl rfl (by first | (rw [rq_1 (by assumption)]; rfl) | (rw [rq_2 (by assumption)]; rfl) | (rw [rq_3 (by assumption)]; rfl) | (rw [rq_4 (by assumption)]; rfl) | (rw [rq_5 (by assumption) (by assumption) (by assumption) (by assumption) (by assumption)]; rfl) | (rw [rq_6 (by assumption) (by assumption) (by assumption) (by assumption) (by assumption)]; rfl))
     ·skip
      refine OpZ.d ?_
      refine Yy rfl rfl rfl tg ?_
      refine WD.nil ?_
      refine AnyZ.two 9 13 (by kernel_rfl) rfl rfl ?_ ?_
      ·skip
       refine OpZ.d ?_
       refine Yy rfl rfl rfl tg ?_
       refine WD.nil ?_
       refine AnyZ.eager 11 rfl (by kernel_rfl) (Eag.pureG tOk zOk rfl rfl (fun _ _ _ => rfl) tg (fun _ => rfl) rfl) ?_
       refine AnyZ.two 12 13 (by kernel_rfl) rfl rfl ?_ ?_
       ·skip
        refine OpZ.d ?_
        refine D.pickOr tOk zOk rfl rfl tg ?_
        refine WD.nil ?_
        refine AnyZ.one 13 (by kernel_rfl) rfl ?_
        refine OpZ.d ?_
        refine D.store tOk rfl rfl rfl rfl rfl rfl rfl rfl ?_
        refine WD.nil ?_
        refine AnyZ.eager 14 rfl (by kernel_rfl) (Eag.pure tOk zOk rfl (fun _ _ _ => rfl) rfl rfl) ?_
        refine AnyZ.eager 15 rfl (by kernel_rfl) (Eag.pure tOk zOk rfl (fun _ _ _ => rfl) rfl rfl) ?_
        refine AnyZ.nil (by kernel_rfl) ?_
        iterate 4 first|apply Yu|apply Yv|apply Yt|apply Yn
        exact Yz rfl rfl rfl (by first | (rw [rq_1 (by assumption)]; rfl) | (rw [rq_2 (by assumption)]; rfl) | (rw [rq_3 (by assumption)]; rfl) | (rw [rq_4 (by assumption)]; rfl) | (rw [rq_5 (by assumption) (by assumption) (by assumption) (by assumption) (by assumption)]; rfl) | (rw [rq_6 (by assumption) (by assumption) (by assumption) (by assumption) (by assumption)]; rfl))
       refine OpZ.d ?_
       refine D.store tOk rfl rfl rfl rfl rfl rfl rfl rfl ?_
       refine WD.nil ?_
       refine AnyZ.one 12 (by kernel_rfl) rfl ?_
       refine OpZ.d ?_
       refine D.pickOr tOk zOk rfl rfl tg ?_
       refine WD.nil ?_
       refine AnyZ.eager 14 rfl (by kernel_rfl) (Eag.pure tOk zOk rfl (fun _ _ _ => rfl) rfl rfl) ?_
       refine AnyZ.eager 15 rfl (by kernel_rfl) (Eag.pure tOk zOk rfl (fun _ _ _ => rfl) rfl rfl) ?_
       refine AnyZ.nil (by kernel_rfl) ?_
       iterate 4 first|apply Yu|apply Yv|apply Yt|apply Yn
       exact Yz rfl rfl rfl (by first | (rw [rq_1 (by assumption)]; rfl) | (rw [rq_2 (by assumption)]; rfl) | (rw [rq_3 (by assumption)]; rfl) | (rw [rq_4 (by assumption)]; rfl) | (rw [rq_5 (by assumption) (by assumption) (by assumption) (by assumption) (by assumption)]; rfl) | (rw [rq_6 (by assumption) (by assumption) (by assumption) (by assumption) (by assumption)]; rfl))
      refine OpZ.d ?_
      refine D.store tOk rfl rfl rfl rfl rfl rfl rfl rfl ?_
      refine WD.nil ?_
      refine AnyZ.one 9 (by kernel_rfl) rfl ?_
      refine OpZ.d ?_
      refine Yy rfl rfl rfl tg ?_
      refine WD.nil ?_
      refine AnyZ.eager 11 rfl (by kernel_rfl) (Eag.pureG tOk zOk rfl rfl (fun _ _ _ => rfl) tg (fun _ => rfl) rfl) ?_
      refine AnyZ.one 12 (by kernel_rfl) rfl ?_
      refine OpZ.d ?_
      refine D.pickOr tOk zOk rfl rfl tg ?_
      refine WD.nil ?_
      refine AnyZ.eager 14 rfl (by kernel_rfl) (Eag.pure tOk zOk rfl (fun _ _ _ => rfl) rfl rfl) ?_
      refine AnyZ.eager 15 rfl (by kernel_rfl) (Eag.pure tOk zOk rfl (fun _ _ _ => rfl) rfl rfl) ?_
      refine AnyZ.nil (by kernel_rfl) ?_
      iterate 4 first|apply Yu|apply Yv|apply Yt|apply Yn
      exact Yz rfl rfl rfl (by first | (rw [rq_1 (by assumption)]; rfl) | (rw [rq_2 (by assumption)]; rfl) | (rw [rq_3 (by assumption)]; rfl) | (rw [rq_4 (by assumption)]; rfl) | (rw [rq_5 (by assumption) (by assumption) (by assumption) (by assumption) (by assumption)]; rfl) | (rw [rq_6 (by assumption) (by assumption) (by assumption) (by assumption) (by assumption)]; rfl))
     refine OpZ.d ?_
     refine D.store tOk rfl rfl rfl rfl rfl rfl rfl rfl ?_
     refine WD.nil ?_
     refine AnyZ.two 9 10 (by kernel_rfl) rfl rfl ?_ ?_
     ·skip
      refine OpZ.d ?_
      refine Yy rfl rfl rfl tg ?_
      refine WD.nil ?_
      refine AnyZ.one 10 (by kernel_rfl) rfl ?_
      refine OpZ.d ?_
      refine Yy rfl rfl rfl tg ?_
      refine WD.nil ?_
      refine AnyZ.eager 11 rfl (by kernel_rfl) (Eag.pureG tOk zOk rfl rfl (fun _ _ _ => rfl) tg (fun _ => rfl) rfl) ?_
      refine AnyZ.one 12 (by kernel_rfl) rfl ?_
      refine OpZ.d ?_
      refine D.pickOr tOk zOk rfl rfl tg ?_
      refine WD.nil ?_
      refine AnyZ.eager 14 rfl (by kernel_rfl) (Eag.pure tOk zOk rfl (fun _ _ _ => rfl) rfl rfl) ?_
      refine AnyZ.eager 15 rfl (by kernel_rfl) (Eag.pure tOk zOk rfl (fun _ _ _ => rfl) rfl rfl) ?_
      refine AnyZ.nil (by kernel_rfl) ?_
      iterate 4 first|apply Yu|apply Yv|apply Yt|apply Yn
      exact Yz rfl rfl rfl (by first | (rw [rq_1 (by assumption)]; rfl) | (rw [rq_2 (by assumption)]; rfl) | (rw [rq_3 (by assumption)]; rfl) | (rw [rq_4 (by assumption)]; rfl) | (rw [rq_5 (by assumption) (by assumption) (by assumption) (by assumption) (by assumption)]; rfl) | (rw [rq_6 (by assumption) (by assumption) (by assumption) (by assumption) (by assumption)]; rfl))
     refine OpZ.d ?_
     refine Yy rfl rfl rfl tg ?_
     refine WD.nil ?_
     refine AnyZ.one 9 (by kernel_rfl) rfl ?_
     refine OpZ.d ?_
     refine Yy rfl rfl rfl tg ?_
     refine WD.nil ?_
     refine AnyZ.eager 11 rfl (by kernel_rfl) (Eag.pureG tOk zOk rfl rfl (fun _ _ _ => rfl) tg (fun _ => rfl) rfl) ?_
     refine AnyZ.one 12 (by kernel_rfl) rfl ?_
     refine OpZ.d ?_
     refine D.pickOr tOk zOk rfl rfl tg ?_
     refine WD.nil ?_
     refine AnyZ.eager 14 rfl (by kernel_rfl) (Eag.pure tOk zOk rfl (fun _ _ _ => rfl) rfl rfl) ?_
     refine AnyZ.eager 15 rfl (by kernel_rfl) (Eag.pure tOk zOk rfl (fun _ _ _ => rfl) rfl rfl) ?_
     refine AnyZ.nil (by kernel_rfl) ?_
     apply Yn
     apply Yt
     apply Yv
     apply Yu
     exact Yz rfl rfl rfl (by first | (rw [rq_1 (by assumption)]; rfl) | (rw [rq_2 (by assumption)]; rfl) | (rw [rq_3 (by assumption)]; rfl) | (rw [rq_4 (by assumption)]; rfl) | (rw [rq_5 (by assumption) (by assumption) (by assumption) (by assumption) (by assumption)]; rfl) | (rw [rq_6 (by assumption) (by assumption) (by assumption) (by assumption) (by assumption)]; rfl))
    ·skip
     refine OpZ.d ?_
     refine Yy rfl rfl rfl tg ?_
     refine WD.nil ?_
     refine AnyZ.two 8 13 (by kernel_rfl) rfl rfl ?_ ?_
     ·skip
      refine OpZ.d ?_
      refine D.pureEGc tOk zOk rfl rfl rfl tg (fun hg => ok_idx Fl.z (ngt_t hg)) (fun hg => at_idx Fl.z (ngt_t hg)) rfl ?_
      refine WD.nil ?_
      refine AnyZ.two 9 13 (by kernel_rfl) rfl rfl ?_ ?_
      ·skip
       refine OpZ.d ?_
       refine Yy rfl rfl rfl tg ?_
       refine WD.nil ?_
       refine AnyZ.eager 11 rfl (by kernel_rfl) (Eag.pureG tOk zOk rfl rfl (fun _ _ _ => rfl) tg (fun _ => rfl) rfl) ?_
       refine AnyZ.two 12 13 (by kernel_rfl) rfl rfl ?_ ?_
       ·skip
        refine OpZ.d ?_
        refine D.pickOr tOk zOk rfl rfl tg ?_
        refine WD.nil ?_
        refine AnyZ.one 13 (by kernel_rfl) rfl ?_
        refine OpZ.d ?_
        refine D.store tOk rfl rfl rfl rfl rfl rfl rfl rfl ?_
        refine WD.nil ?_
        refine AnyZ.eager 14 rfl (by kernel_rfl) (Eag.pure tOk zOk rfl (fun _ _ _ => rfl) rfl rfl) ?_
        refine AnyZ.eager 15 rfl (by kernel_rfl) (Eag.pure tOk zOk rfl (fun _ _ _ => rfl) rfl rfl) ?_
        refine AnyZ.nil (by kernel_rfl) ?_
        iterate 4 first|apply Yu|apply Yv|apply Yt|apply Yn
        exact Yz rfl rfl rfl (by first | (rw [rq_1 (by assumption)]; rfl) | (rw [rq_2 (by assumption)]; rfl) | (rw [rq_3 (by assumption)]; rfl) | (rw [rq_4 (by assumption)]; rfl) | (rw [rq_5 (by assumption) (by assumption) (by assumption) (by assumption) (by assumption)]; rfl) | (rw [rq_6 (by assumption) (by assumption) (by assumption) (by assumption) (by assumption)]; rfl))
       refine OpZ.d ?_
       refine D.store tOk rfl rfl rfl rfl rfl rfl rfl rfl ?_
       refine WD.nil ?_
       refine AnyZ.one 12 (by kernel_rfl) rfl ?_
       refine OpZ.d ?_
       refine D.pickOr tOk zOk rfl rfl tg ?_
       refine WD.nil ?_
       refine AnyZ.eager 14 rfl (by kernel_rfl) (Eag.pure tOk zOk rfl (fun _ _ _ => rfl) rfl rfl) ?_
       refine AnyZ.eager 15 rfl (by kernel_rfl) (Eag.pure tOk zOk rfl (fun _ _ _ => rfl) rfl rfl) ?_
       refine AnyZ.nil (by kernel_rfl) ?_
       iterate 4 first|apply Yu|apply Yv|apply Yt|apply Yn
       exact Yz rfl rfl rfl (by first | (rw [rq_1 (by assumption)]; rfl) | (rw [rq_2 (by assumption)]; rfl) | (rw [rq_3 (by assumption)]; rfl) | (rw [rq_4 (by assumption)]; rfl) | (rw [rq_5 (by assumption) (by assumption) (by assumption) (by assumption) (by assumption)]; rfl) | (rw [rq_6 (by assumption) (by assumption) (by assumption) (by assumption) (by assumption)]; rfl))
      refine OpZ.d ?_
      refine D.store tOk rfl rfl rfl rfl rfl rfl rfl rfl ?_
      refine WD.nil ?_
      refine AnyZ.one 9 (by kernel_rfl) rfl ?_
      refine OpZ.d ?_
      refine Yy rfl rfl rfl tg ?_
      refine WD.nil ?_
      refine AnyZ.eager 11 rfl (by kernel_rfl) (Eag.pureG tOk zOk rfl rfl (fun _ _ _ => rfl) tg (fun _ => rfl) rfl) ?_
      refine AnyZ.one 12 (by kernel_rfl) rfl ?_
      refine OpZ.d ?_
      refine D.pickOr tOk zOk rfl rfl tg ?_
      refine WD.nil ?_
      refine AnyZ.eager 14 rfl (by kernel_rfl) (Eag.pure tOk zOk rfl (fun _ _ _ => rfl) rfl rfl) ?_
      refine AnyZ.eager 15 rfl (by kernel_rfl) (Eag.pure tOk zOk rfl (fun _ _ _ => rfl) rfl rfl) ?_
      refine AnyZ.nil (by kernel_rfl) ?_
      iterate 4 first|apply Yu|apply Yv|apply Yt|apply Yn
      exact Yz rfl rfl rfl (by first | (rw [rq_1 (by assumption)]; rfl) | (rw [rq_2 (by assumption)]; rfl) | (rw [rq_3 (by assumption)]; rfl) | (rw [rq_4 (by assumption)]; rfl) | (rw [rq_5 (by assumption) (by assumption) (by assumption) (by assumption) (by assumption)]; rfl) | (rw [rq_6 (by assumption) (by assumption) (by assumption) (by assumption) (by assumption)]; rfl))
     refine OpZ.d ?_
     refine D.store tOk rfl rfl rfl rfl rfl rfl rfl rfl ?_
     refine WD.nil ?_
     refine AnyZ.one 8 (by kernel_rfl) rfl ?_
     refine OpZ.d ?_
     refine D.pureEGc tOk zOk rfl rfl rfl tg (fun hg => ok_idx Fl.z (ngt_t hg)) (fun hg => at_idx Fl.z (ngt_t hg)) rfl ?_
     refine WD.nil ?_
     refine AnyZ.one 9 (by kernel_rfl) rfl ?_
     refine OpZ.d ?_
     refine Yy rfl rfl rfl tg ?_
     refine WD.nil ?_
     refine AnyZ.eager 11 rfl (by kernel_rfl) (Eag.pureG tOk zOk rfl rfl (fun _ _ _ => rfl) tg (fun _ => rfl) rfl) ?_
     refine AnyZ.one 12 (by kernel_rfl) rfl ?_
     refine OpZ.d ?_
     refine D.pickOr tOk zOk rfl rfl tg ?_
     refine WD.nil ?_
     refine AnyZ.eager 14 rfl (by kernel_rfl) (Eag.pure tOk zOk rfl (fun _ _ _ => rfl) rfl rfl) ?_
     refine AnyZ.eager 15 rfl (by kernel_rfl) (Eag.pure tOk zOk rfl (fun _ _ _ => rfl) rfl rfl) ?_
     refine AnyZ.nil (by kernel_rfl) ?_
     apply Yn
     apply Yt
     apply Yv
     apply Yu
     exact Yz rfl rfl rfl (by first | (rw [rq_1 (by assumption)]; rfl) | (rw [rq_2 (by assumption)]; rfl) | (rw [rq_3 (by assumption)]; rfl) | (rw [rq_4 (by assumption)]; rfl) | (rw [rq_5 (by assumption) (by assumption) (by assumption) (by assumption) (by assumption)]; rfl) | (rw [rq_6 (by assumption) (by assumption) (by assumption) (by assumption) (by assumption)]; rfl))
    refine OpZ.d ?_
    refine D.store tOk rfl rfl rfl rfl rfl rfl rfl rfl ?_
    refine WD.nil ?_
    refine AnyZ.two 8 10 (by kernel_rfl) rfl rfl ?_ ?_
    ·skip
     refine OpZ.d ?_
     refine D.pureEGc tOk zOk rfl rfl rfl tg (fun hg => ok_idx Fl.z (ngt_t hg)) (fun hg => at_idx Fl.z (ngt_t hg)) rfl ?_
     refine WD.nil ?_
     refine AnyZ.two 9 10 (by kernel_rfl) rfl rfl ?_ ?_
     ·skip
      refine OpZ.d ?_
      refine Yy rfl rfl rfl tg ?_
      refine WD.nil ?_
      refine AnyZ.one 10 (by kernel_rfl) rfl ?_
      refine OpZ.d ?_
      refine Yy rfl rfl rfl tg ?_
      refine WD.nil ?_
      refine AnyZ.eager 11 rfl (by kernel_rfl) (Eag.pureG tOk zOk rfl rfl (fun _ _ _ => rfl) tg (fun _ => rfl) rfl) ?_
      refine AnyZ.one 12 (by kernel_rfl) rfl ?_
      refine OpZ.d ?_
      refine D.pickOr tOk zOk rfl rfl tg ?_
      refine WD.nil ?_
      refine AnyZ.eager 14 rfl (by kernel_rfl) (Eag.pure tOk zOk rfl (fun _ _ _ => rfl) rfl rfl) ?_
      refine AnyZ.eager 15 rfl (by kernel_rfl) (Eag.pure tOk zOk rfl (fun _ _ _ => rfl) rfl rfl) ?_
      refine AnyZ.nil (by kernel_rfl) ?_
      iterate 4 first|apply Yu|apply Yv|apply Yt|apply Yn
      exact Yz rfl rfl rfl (by first | (rw [rq_1 (by assumption)]; rfl) | (rw [rq_2 (by assumption)]; rfl) | (rw [rq_3 (by assumption)]; rfl) | (rw [rq_4 (by assumption)]; rfl) | (rw [rq_5 (by assumption) (by assumption) (by assumption) (by assumption) (by assumption)]; rfl) | (rw [rq_6 (by assumption) (by assumption) (by assumption) (by assumption) (by assumption)]; rfl))
     refine OpZ.d ?_
     refine Yy rfl rfl rfl tg ?_
     refine WD.nil ?_
     refine AnyZ.one 9 (by kernel_rfl) rfl ?_
     refine OpZ.d ?_
     refine Yy rfl rfl rfl tg ?_
     refine WD.nil ?_
     refine AnyZ.eager 11 rfl (by kernel_rfl) (Eag.pureG tOk zOk rfl rfl (fun _ _ _ => rfl) tg (fun _ => rfl) rfl) ?_
     refine AnyZ.one 12 (by kernel_rfl) rfl ?_
     refine OpZ.d ?_
     refine D.pickOr tOk zOk rfl rfl tg ?_
     refine WD.nil ?_
     refine AnyZ.eager 14 rfl (by kernel_rfl) (Eag.pure tOk zOk rfl (fun _ _ _ => rfl) rfl rfl) ?_
     refine AnyZ.eager 15 rfl (by kernel_rfl) (Eag.pure tOk zOk rfl (fun _ _ _ => rfl) rfl rfl) ?_
     refine AnyZ.nil (by kernel_rfl) ?_
     apply Yn
     apply Yt
     apply Yv
     apply Yu
     exact Yz rfl rfl rfl (by first | (rw [rq_1 (by assumption)]; rfl) | (rw [rq_2 (by assumption)]; rfl) | (rw [rq_3 (by assumption)]; rfl) | (rw [rq_4 (by assumption)]; rfl) | (rw [rq_5 (by assumption) (by assumption) (by assumption) (by assumption) (by assumption)]; rfl) | (rw [rq_6 (by assumption) (by assumption) (by assumption) (by assumption) (by assumption)]; rfl))
    refine OpZ.d ?_
    refine Yy rfl rfl rfl tg ?_
    refine WD.nil ?_
    refine AnyZ.one 8 (by kernel_rfl) rfl ?_
    refine OpZ.d ?_
    refine D.pureEGc tOk zOk rfl rfl rfl tg (fun hg => ok_idx Fl.z (ngt_t hg)) (fun hg => at_idx Fl.z (ngt_t hg)) rfl ?_
    refine WD.nil ?_
    refine AnyZ.one 9 (by kernel_rfl) rfl ?_
    refine OpZ.d ?_
    refine Yy rfl rfl rfl tg ?_
    refine WD.nil ?_
    refine AnyZ.eager 11 rfl (by kernel_rfl) (Eag.pureG tOk zOk rfl rfl (fun _ _ _ => rfl) tg (fun _ => rfl) rfl) ?_
    refine AnyZ.one 12 (by kernel_rfl) rfl ?_
    refine OpZ.d ?_
    refine D.pickOr tOk zOk rfl rfl tg ?_
    refine WD.nil ?_
    refine AnyZ.eager 14 rfl (by kernel_rfl) (Eag.pure tOk zOk rfl (fun _ _ _ => rfl) rfl rfl) ?_
    refine AnyZ.eager 15 rfl (by kernel_rfl) (Eag.pure tOk zOk rfl (fun _ _ _ => rfl) rfl rfl) ?_
    refine AnyZ.nil (by kernel_rfl) ?_
    apply Yn
    apply Yt
    apply Yv
    apply Yu
    exact Yz rfl rfl rfl (by first | (rw [rq_1 (by assumption)]; rfl) | (rw [rq_2 (by assumption)]; rfl) | (rw [rq_3 (by assumption)]; rfl) | (rw [rq_4 (by assumption)]; rfl) | (rw [rq_5 (by assumption) (by assumption) (by assumption) (by assumption) (by assumption)]; rfl) | (rw [rq_6 (by assumption) (by assumption) (by assumption) (by assumption) (by assumption)]; rfl))
   ·skip
    refine OpZ.d ?_
    refine Yy rfl rfl rfl tg ?_
    refine WD.nil ?_
    refine AnyZ.two 6 13 (by kernel_rfl) rfl rfl ?_ ?_
    ·skip
     refine OpZ.d ?_
     refine Yy rfl rfl rfl tg ?_
     refine WD.nil ?_
     refine AnyZ.two 8 13 (by kernel_rfl) rfl rfl ?_ ?_
     ·skip
      refine OpZ.d ?_
      refine D.pureEGc tOk zOk rfl rfl rfl tg (fun hg => ok_idx Fl.z (ngt_t hg)) (fun hg => at_idx Fl.z (ngt_t hg)) rfl ?_
      refine WD.nil ?_
      refine AnyZ.two 9 13 (by kernel_rfl) rfl rfl ?_ ?_
      ·skip
       refine OpZ.d ?_
       refine Yy rfl rfl rfl tg ?_
       refine WD.nil ?_
       refine AnyZ.eager 11 rfl (by kernel_rfl) (Eag.pureG tOk zOk rfl rfl (fun _ _ _ => rfl) tg (fun _ => rfl) rfl) ?_
       refine AnyZ.two 12 13 (by kernel_rfl) rfl rfl ?_ ?_
       ·skip
        refine OpZ.d ?_
        refine D.pickOr tOk zOk rfl rfl tg ?_
        refine WD.nil ?_
        refine AnyZ.one 13 (by kernel_rfl) rfl ?_
        refine OpZ.d ?_
        refine D.store tOk rfl rfl rfl rfl rfl rfl rfl rfl ?_
        refine WD.nil ?_
        refine AnyZ.eager 14 rfl (by kernel_rfl) (Eag.pure tOk zOk rfl (fun _ _ _ => rfl) rfl rfl) ?_
        refine AnyZ.eager 15 rfl (by kernel_rfl) (Eag.pure tOk zOk rfl (fun _ _ _ => rfl) rfl rfl) ?_
        refine AnyZ.nil (by kernel_rfl) ?_
        iterate 4 first|apply Yu|apply Yv|apply Yt|apply Yn
        exact Yz rfl rfl rfl (by first | (rw [rq_1 (by assumption)]; rfl) | (rw [rq_2 (by assumption)]; rfl) | (rw [rq_3 (by assumption)]; rfl) | (rw [rq_4 (by assumption)]; rfl) | (rw [rq_5 (by assumption) (by assumption) (by assumption) (by assumption) (by assumption)]; rfl) | (rw [rq_6 (by assumption) (by assumption) (by assumption) (by assumption) (by assumption)]; rfl))
       refine OpZ.d ?_
       refine D.store tOk rfl rfl rfl rfl rfl rfl rfl rfl ?_
       refine WD.nil ?_
       refine AnyZ.one 12 (by kernel_rfl) rfl ?_
       refine OpZ.d ?_
       refine D.pickOr tOk zOk rfl rfl tg ?_
       refine WD.nil ?_
       refine AnyZ.eager 14 rfl (by kernel_rfl) (Eag.pure tOk zOk rfl (fun _ _ _ => rfl) rfl rfl) ?_
       refine AnyZ.eager 15 rfl (by kernel_rfl) (Eag.pure tOk zOk rfl (fun _ _ _ => rfl) rfl rfl) ?_
       refine AnyZ.nil (by kernel_rfl) ?_
       iterate 4 first|apply Yu|apply Yv|apply Yt|apply Yn
       exact Yz rfl rfl rfl (by first | (rw [rq_1 (by assumption)]; rfl) | (rw [rq_2 (by assumption)]; rfl) | (rw [rq_3 (by assumption)]; rfl) | (rw [rq_4 (by assumption)]; rfl) | (rw [rq_5 (by assumption) (by assumption) (by assumption) (by assumption) (by assumption)]; rfl) | (rw [rq_6 (by assumption) (by assumption) (by assumption) (by assumption) (by assumption)]; rfl))
      refine OpZ.d ?_
      refine D.store tOk rfl rfl rfl rfl rfl rfl rfl rfl ?_
      refine WD.nil ?_
      refine AnyZ.one 9 (by kernel_rfl) rfl ?_
      refine OpZ.d ?_
      refine Yy rfl rfl rfl tg ?_
      refine WD.nil ?_
      refine AnyZ.eager 11 rfl (by kernel_rfl) (Eag.pureG tOk zOk rfl rfl (fun _ _ _ => rfl) tg (fun _ => rfl) rfl) ?_
      refine AnyZ.one 12 (by kernel_rfl) rfl ?_
      refine OpZ.d ?_
      refine D.pickOr tOk zOk rfl rfl tg ?_
      refine WD.nil ?_
      refine AnyZ.eager 14 rfl (by kernel_rfl) (Eag.pure tOk zOk rfl (fun _ _ _ => rfl) rfl rfl) ?_
      refine AnyZ.eager 15 rfl (by kernel_rfl) (Eag.pure tOk zOk rfl (fun _ _ _ => rfl) rfl rfl) ?_
      refine AnyZ.nil (by kernel_rfl) ?_
      iterate 4 first|apply Yu|apply Yv|apply Yt|apply Yn
      exact Yz rfl rfl rfl (by first | (rw [rq_1 (by assumption)]; rfl) | (rw [rq_2 (by assumption)]; rfl) | (rw [rq_3 (by assumption)]; rfl) | (rw [rq_4 (by assumption)]; rfl) | (rw [rq_5 (by assumption) (by assumption) (by assumption) (by assumption) (by assumption)]; rfl) | (rw [rq_6 (by assumption) (by assumption) (by assumption) (by assumption) (by assumption)]; rfl))
     refine OpZ.d ?_
     refine D.store tOk rfl rfl rfl rfl rfl rfl rfl rfl ?_
     refine WD.nil ?_
     refine AnyZ.one 8 (by kernel_rfl) rfl ?_
     refine OpZ.d ?_
     refine D.pureEGc tOk zOk rfl rfl rfl tg (fun hg => ok_idx Fl.z (ngt_t hg)) (fun hg => at_idx Fl.z (ngt_t hg)) rfl ?_
     refine WD.nil ?_
     refine AnyZ.one 9 (by kernel_rfl) rfl ?_
     refine OpZ.d ?_
     refine Yy rfl rfl rfl tg ?_
     refine WD.nil ?_
     refine AnyZ.eager 11 rfl (by kernel_rfl) (Eag.pureG tOk zOk rfl rfl (fun _ _ _ => rfl) tg (fun _ => rfl) rfl) ?_
     refine AnyZ.one 12 (by kernel_rfl) rfl ?_
     refine OpZ.d ?_
     refine D.pickOr tOk zOk rfl rfl tg ?_
     refine WD.nil ?_
     refine AnyZ.eager 14 rfl (by kernel_rfl) (Eag.pure tOk zOk rfl (fun _ _ _ => rfl) rfl rfl) ?_
     refine AnyZ.eager 15 rfl (by kernel_rfl) (Eag.pure tOk zOk rfl (fun _ _ _ => rfl) rfl rfl) ?_
     refine AnyZ.nil (by kernel_rfl) ?_
     apply Yn
     apply Yt
     apply Yv
     apply Yu
     exact Yz rfl rfl rfl (by first | (rw [rq_1 (by assumption)]; rfl) | (rw [rq_2 (by assumption)]; rfl) | (rw [rq_3 (by assumption)]; rfl) | (rw [rq_4 (by assumption)]; rfl) | (rw [rq_5 (by assumption) (by assumption) (by assumption) (by assumption) (by assumption)]; rfl) | (rw [rq_6 (by assumption) (by assumption) (by assumption) (by assumption) (by assumption)]; rfl))
    refine OpZ.d ?_
    refine D.store tOk rfl rfl rfl rfl rfl rfl rfl rfl ?_
    refine WD.nil ?_
    refine AnyZ.one 6 (by kernel_rfl) rfl ?_
    refine OpZ.d ?_
    refine Yy rfl rfl rfl tg ?_
    refine WD.nil ?_
    refine AnyZ.one 8 (by kernel_rfl) rfl ?_
    refine OpZ.d ?_
    refine D.pureEGc tOk zOk rfl rfl rfl tg (fun hg => ok_idx Fl.z (ngt_t hg)) (fun hg => at_idx Fl.z (ngt_t hg)) rfl ?_
    refine WD.nil ?_
    refine AnyZ.one 9 (by kernel_rfl) rfl ?_
    refine OpZ.d ?_
    refine Yy rfl rfl rfl tg ?_
    refine WD.nil ?_
    refine AnyZ.eager 11 rfl (by kernel_rfl) (Eag.pureG tOk zOk rfl rfl (fun _ _ _ => rfl) tg (fun _ => rfl) rfl) ?_
    refine AnyZ.one 12 (by kernel_rfl) rfl ?_
    refine OpZ.d ?_
    refine D.pickOr tOk zOk rfl rfl tg ?_
    refine WD.nil ?_
    refine AnyZ.eager 14 rfl (by kernel_rfl) (Eag.pure tOk zOk rfl (fun _ _ _ => rfl) rfl rfl) ?_
    refine AnyZ.eager 15 rfl (by kernel_rfl) (Eag.pure tOk zOk rfl (fun _ _ _ => rfl) rfl rfl) ?_
    refine AnyZ.nil (by kernel_rfl) ?_
    apply Yn
    apply Yt
    apply Yv
    apply Yu
    exact Yz rfl rfl rfl (by first | (rw [rq_1 (by assumption)]; rfl) | (rw [rq_2 (by assumption)]; rfl) | (rw [rq_3 (by assumption)]; rfl) | (rw [rq_4 (by assumption)]; rfl) | (rw [rq_5 (by assumption) (by assumption) (by assumption) (by assumption) (by assumption)]; rfl) | (rw [rq_6 (by assumption) (by assumption) (by assumption) (by assumption) (by assumption)]; rfl))
   refine OpZ.d ?_
   refine D.store tOk rfl rfl rfl rfl rfl rfl rfl rfl ?_
   refine WD.nil ?_
   refine AnyZ.two 6 10 (by kernel_rfl) rfl rfl ?_ ?_
   ·skip
    refine OpZ.d ?_
    refine Yy rfl rfl rfl tg ?_
    refine WD.nil ?_
    refine AnyZ.two 8 10 (by kernel_rfl) rfl rfl ?_ ?_
    ·skip
     refine OpZ.d ?_
     refine D.pureEGc tOk zOk rfl rfl rfl tg (fun hg => ok_idx Fl.z (ngt_t hg)) (fun hg => at_idx Fl.z (ngt_t hg)) rfl ?_
     refine WD.nil ?_
     refine AnyZ.two 9 10 (by kernel_rfl) rfl rfl ?_ ?_
     ·skip
      refine OpZ.d ?_
      refine Yy rfl rfl rfl tg ?_
      refine WD.nil ?_
      refine AnyZ.one 10 (by kernel_rfl) rfl ?_
      refine OpZ.d ?_
      refine Yy rfl rfl rfl tg ?_
      refine WD.nil ?_
      refine AnyZ.eager 11 rfl (by kernel_rfl) (Eag.pureG tOk zOk rfl rfl (fun _ _ _ => rfl) tg (fun _ => rfl) rfl) ?_
      refine AnyZ.one 12 (by kernel_rfl) rfl ?_
      refine OpZ.d ?_
      refine D.pickOr tOk zOk rfl rfl tg ?_
      refine WD.nil ?_
      refine AnyZ.eager 14 rfl (by kernel_rfl) (Eag.pure tOk zOk rfl (fun _ _ _ => rfl) rfl rfl) ?_
      refine AnyZ.eager 15 rfl (by kernel_rfl) (Eag.pure tOk zOk rfl (fun _ _ _ => rfl) rfl rfl) ?_
      refine AnyZ.nil (by kernel_rfl) ?_
      iterate 4 first|apply Yu|apply Yv|apply Yt|apply Yn
      exact Yz rfl rfl rfl (by first | (rw [rq_1 (by assumption)]; rfl) | (rw [rq_2 (by assumption)]; rfl) | (rw [rq_3 (by assumption)]; rfl) | (rw [rq_4 (by assumption)]; rfl) | (rw [rq_5 (by assumption) (by assumption) (by assumption) (by assumption) (by assumption)]; rfl) | (rw [rq_6 (by assumption) (by assumption) (by assumption) (by assumption) (by assumption)]; rfl))
     refine OpZ.d ?_
     refine Yy rfl rfl rfl tg ?_
     refine WD.nil ?_
     refine AnyZ.one 9 (by kernel_rfl) rfl ?_
     refine OpZ.d ?_
     refine Yy rfl rfl rfl tg ?_
     refine WD.nil ?_
     refine AnyZ.eager 11 rfl (by kernel_rfl) (Eag.pureG tOk zOk rfl rfl (fun _ _ _ => rfl) tg (fun _ => rfl) rfl) ?_
     refine AnyZ.one 12 (by kernel_rfl) rfl ?_
     refine OpZ.d ?_
     refine D.pickOr tOk zOk rfl rfl tg ?_
     refine WD.nil ?_
     refine AnyZ.eager 14 rfl (by kernel_rfl) (Eag.pure tOk zOk rfl (fun _ _ _ => rfl) rfl rfl) ?_
     refine AnyZ.eager 15 rfl (by kernel_rfl) (Eag.pure tOk zOk rfl (fun _ _ _ => rfl) rfl rfl) ?_
     refine AnyZ.nil (by kernel_rfl) ?_
     apply Yn
     apply Yt
     apply Yv
     apply Yu
     exact Yz rfl rfl rfl (by first | (rw [rq_1 (by assumption)]; rfl) | (rw [rq_2 (by assumption)]; rfl) | (rw [rq_3 (by assumption)]; rfl) | (rw [rq_4 (by assumption)]; rfl) | (rw [rq_5 (by assumption) (by assumption) (by assumption) (by assumption) (by assumption)]; rfl) | (rw [rq_6 (by assumption) (by assumption) (by assumption) (by assumption) (by assumption)]; rfl))
    refine OpZ.d ?_
    refine Yy rfl rfl rfl tg ?_
    refine WD.nil ?_
    refine AnyZ.one 8 (by kernel_rfl) rfl ?_
    refine OpZ.d ?_
    refine D.pureEGc tOk zOk rfl rfl rfl tg (fun hg => ok_idx Fl.z (ngt_t hg)) (fun hg => at_idx Fl.z (ngt_t hg)) rfl ?_
    refine WD.nil ?_
    refine AnyZ.one 9 (by kernel_rfl) rfl ?_
    refine OpZ.d ?_
    refine Yy rfl rfl rfl tg ?_
    refine WD.nil ?_
    refine AnyZ.eager 11 rfl (by kernel_rfl) (Eag.pureG tOk zOk rfl rfl (fun _ _ _ => rfl) tg (fun _ => rfl) rfl) ?_
    refine AnyZ.one 12 (by kernel_rfl) rfl ?_
    refine OpZ.d ?_
    refine D.pickOr tOk zOk rfl rfl tg ?_
    refine WD.nil ?_
    refine AnyZ.eager 14 rfl (by kernel_rfl) (Eag.pure tOk zOk rfl (fun _ _ _ => rfl) rfl rfl) ?_
    refine AnyZ.eager 15 rfl (by kernel_rfl) (Eag.pure tOk zOk rfl (fun _ _ _ => rfl) rfl rfl) ?_
    refine AnyZ.nil (by kernel_rfl) ?_
    apply Yn
    apply Yt
    apply Yv
    apply Yu
    exact Yz rfl rfl rfl (by first | (rw [rq_1 (by assumption)]; rfl) | (rw [rq_2 (by assumption)]; rfl) | (rw [rq_3 (by assumption)]; rfl) | (rw [rq_4 (by assumption)]; rfl) | (rw [rq_5 (by assumption) (by assumption) (by assumption) (by assumption) (by assumption)]; rfl) | (rw [rq_6 (by assumption) (by assumption) (by assumption) (by assumption) (by assumption)]; rfl))
   refine OpZ.d ?_
   refine Yy rfl rfl rfl tg ?_
   refine WD.nil ?_
   refine AnyZ.one 6 (by kernel_rfl) rfl ?_
   refine OpZ.d ?_
   refine Yy rfl rfl rfl tg ?_
   refine WD.nil ?_
   refine AnyZ.one 8 (by kernel_rfl) rfl ?_
   refine OpZ.d ?_
   refine D.pureEGc tOk zOk rfl rfl rfl tg (fun hg => ok_idx Fl.z (ngt_t hg)) (fun hg => at_idx Fl.z (ngt_t hg)) rfl ?_
   refine WD.nil ?_
   refine AnyZ.one 9 (by kernel_rfl) rfl ?_
   refine OpZ.d ?_
   refine Yy rfl rfl rfl tg ?_
   refine WD.nil ?_
   refine AnyZ.eager 11 rfl (by kernel_rfl) (Eag.pureG tOk zOk rfl rfl (fun _ _ _ => rfl) tg (fun _ => rfl) rfl) ?_
   refine AnyZ.one 12 (by kernel_rfl) rfl ?_
   refine OpZ.d ?_
   refine D.pickOr tOk zOk rfl rfl tg ?_
   refine WD.nil ?_
   refine AnyZ.eager 14 rfl (by kernel_rfl) (Eag.pure tOk zOk rfl (fun _ _ _ => rfl) rfl rfl) ?_
   refine AnyZ.eager 15 rfl (by kernel_rfl) (Eag.pure tOk zOk rfl (fun _ _ _ => rfl) rfl rfl) ?_
   refine AnyZ.nil (by kernel_rfl) ?_
   apply Yn
   apply Yt
   apply Yv
   apply Yu
   exact Yz rfl rfl rfl (by first | (rw [rq_1 (by assumption)]; rfl) | (rw [rq_2 (by assumption)]; rfl) | (rw [rq_3 (by assumption)]; rfl) | (rw [rq_4 (by assumption)]; rfl) | (rw [rq_5 (by assumption) (by assumption) (by assumption) (by assumption) (by assumption)]; rfl) | (rw [rq_6 (by assumption) (by assumption) (by assumption) (by assumption) (by assumption)]; rfl))
  ·skip
   refine OpZ.d ?_
   refine Yy rfl rfl rfl tg ?_
   refine WD.nil ?_
   refine AnyZ.three 0 8 10 (by kernel_rfl) rfl rfl rfl ?_ ?_ ?_
   ·skip
    refine OpZ.d ?_
    refine Ym rfl rfl ?_
    refine WD.nil ?_
    refine AnyZ.eager 1 rfl (by kernel_rfl) (Eag.pure tOk zOk rfl (fun _ _ _ => rfl) rfl rfl) ?_
    refine AnyZ.three 8 10 13 (by kernel_rfl) rfl rfl rfl ?_ ?_ ?_
    ·skip
     refine OpZ.d ?_
     refine D.pureEGc tOk zOk rfl rfl rfl tg (fun hg => ok_idx Fl.z (ngt_t hg)) (fun hg => at_idx Fl.z (ngt_t hg)) rfl ?_
     refine WD.nil ?_
     refine AnyZ.three 9 10 13 (by kernel_rfl) rfl rfl rfl ?_ ?_ ?_
     ·skip
      refine OpZ.d ?_
      refine Yy rfl rfl rfl tg ?_
      refine WD.nil ?_
      refine AnyZ.two 10 13 (by kernel_rfl) rfl rfl ?_ ?_
      ·skip
       refine OpZ.d ?_
       refine Yy rfl rfl rfl tg ?_
       refine WD.nil ?_
       refine AnyZ.eager 11 rfl (by kernel_rfl) (Eag.pureG tOk zOk rfl rfl (fun _ _ _ => rfl) tg (fun _ => rfl) rfl) ?_
       refine AnyZ.two 12 13 (by kernel_rfl) rfl rfl ?_ ?_
       ·skip
        refine OpZ.d ?_
        refine D.pickOr tOk zOk rfl rfl tg ?_
        refine WD.nil ?_
        refine AnyZ.one 13 (by kernel_rfl) rfl ?_
        refine OpZ.d ?_
        refine D.store tOk rfl rfl rfl rfl rfl rfl rfl rfl ?_
        refine WD.nil ?_
        refine AnyZ.eager 14 rfl (by kernel_rfl) (Eag.pure tOk zOk rfl (fun _ _ _ => rfl) rfl rfl) ?_
        refine AnyZ.eager 15 rfl (by kernel_rfl) (Eag.pure tOk zOk rfl (fun _ _ _ => rfl) rfl rfl) ?_
        refine AnyZ.nil (by kernel_rfl) ?_
        iterate 4 first|apply Yu|apply Yv|apply Yt|apply Yn
        exact Yz rfl rfl rfl (by first | (rw [rq_1 (by assumption)]; rfl) | (rw [rq_2 (by assumption)]; rfl) | (rw [rq_3 (by assumption)]; rfl) | (rw [rq_4 (by assumption)]; rfl) | (rw [rq_5 (by assumption) (by assumption) (by assumption) (by assumption) (by assumption)]; rfl) | (rw [rq_6 (by assumption) (by assumption) (by assumption) (by assumption) (by assumption)]; rfl))
       refine OpZ.d ?_
       refine D.store tOk rfl rfl rfl rfl rfl rfl rfl rfl ?_
       refine WD.nil ?_
       refine AnyZ.one 12 (by kernel_rfl) rfl ?_
       refine OpZ.d ?_
       refine D.pickOr tOk zOk rfl rfl tg ?_
       refine WD.nil ?_
       refine AnyZ.eager 14 rfl (by kernel_rfl) (Eag.pure tOk zOk rfl (fun _ _ _ => rfl) rfl rfl) ?_
       refine AnyZ.eager 15 rfl (by kernel_rfl) (Eag.pure tOk zOk rfl (fun _ _ _ => rfl) rfl rfl) ?_
       refine AnyZ.nil (by kernel_rfl) ?_
       iterate 4 first|apply Yu|apply Yv|apply Yt|apply Yn
       exact Yz rfl rfl rfl (by first | (rw [rq_1 (by assumption)]; rfl) | (rw [rq_2 (by assumption)]; rfl) | (rw [rq_3 (by assumption)]; rfl) | (rw [rq_4 (by assumption)]; rfl) | (rw [rq_5 (by assumption) (by assumption) (by assumption) (by assumption) (by assumption)]; rfl) | (rw [rq_6 (by assumption) (by assumption) (by assumption) (by assumption) (by assumption)]; rfl))
      refine OpZ.d ?_
      refine D.store tOk rfl rfl rfl rfl rfl rfl rfl rfl ?_
      refine WD.nil ?_
      refine AnyZ.one 10 (by kernel_rfl) rfl ?_
      refine OpZ.d ?_
      refine Yy rfl rfl rfl tg ?_
      refine WD.nil ?_
      refine AnyZ.eager 11 rfl (by kernel_rfl) (Eag.pureG tOk zOk rfl rfl (fun _ _ _ => rfl) tg (fun _ => rfl) rfl) ?_
      refine AnyZ.one 12 (by kernel_rfl) rfl ?_
      refine OpZ.d ?_
      refine D.pickOr tOk zOk rfl rfl tg ?_
      refine WD.nil ?_
      refine AnyZ.eager 14 rfl (by kernel_rfl) (Eag.pure tOk zOk rfl (fun _ _ _ => rfl) rfl rfl) ?_
      refine AnyZ.eager 15 rfl (by kernel_rfl) (Eag.pure tOk zOk rfl (fun _ _ _ => rfl) rfl rfl) ?_
      refine AnyZ.nil (by kernel_rfl) ?_
      iterate 4 first|apply Yu|apply Yv|apply Yt|apply Yn
      exact Yz rfl rfl rfl (by first | (rw [rq_1 (by assumption)]; rfl) | (rw [rq_2 (by assumption)]; rfl) | (rw [rq_3 (by assumption)]; rfl) | (rw [rq_4 (by assumption)]; rfl) | (rw [rq_5 (by assumption) (by assumption) (by assumption) (by assumption) (by assumption)]; rfl) | (rw [rq_6 (by assumption) (by assumption) (by assumption) (by assumption) (by assumption)]; rfl))
     ·skip
      refine OpZ.d ?_
      refine Yy rfl rfl rfl tg ?_
      refine WD.nil ?_
      refine AnyZ.two 9 13 (by kernel_rfl) rfl rfl ?_ ?_
      ·skip
       refine OpZ.d ?_
       refine Yy rfl rfl rfl tg ?_
       refine WD.nil ?_
       refine AnyZ.eager 11 rfl (by kernel_rfl) (Eag.pureG tOk zOk rfl rfl (fun _ _ _ => rfl) tg (fun _ => rfl) rfl) ?_
       refine AnyZ.two 12 13 (by kernel_rfl) rfl rfl ?_ ?_
       ·skip
        refine OpZ.d ?_
        refine D.pickOr tOk zOk rfl rfl tg ?_
        refine WD.nil ?_
        refine AnyZ.one 13 (by kernel_rfl) rfl ?_
        refine OpZ.d ?_
        refine D.store tOk rfl rfl rfl rfl rfl rfl rfl rfl ?_
        refine WD.nil ?_
        refine AnyZ.eager 14 rfl (by kernel_rfl) (Eag.pure tOk zOk rfl (fun _ _ _ => rfl) rfl rfl) ?_
        refine AnyZ.eager 15 rfl (by kernel_rfl) (Eag.pure tOk zOk rfl (fun _ _ _ => rfl) rfl rfl) ?_
        refine AnyZ.nil (by kernel_rfl) ?_
        iterate 4 first|apply Yu|apply Yv|apply Yt|apply Yn
        exact Yz rfl rfl rfl (by first | (rw [rq_1 (by assumption)]; rfl) | (rw [rq_2 (by assumption)]; rfl) | (rw [rq_3 (by assumption)]; rfl) | (rw [rq_4 (by assumption)]; rfl) | (rw [rq_5 (by assumption) (by assumption) (by assumption) (by assumption) (by assumption)]; rfl) | (rw [rq_6 (by assumption) (by assumption) (by assumption) (by assumption) (by assumption)]; rfl))
       refine OpZ.d ?_
       refine D.store tOk rfl rfl rfl rfl rfl rfl rfl rfl ?_
       refine WD.nil ?_
       refine AnyZ.one 12 (by kernel_rfl) rfl ?_
       refine OpZ.d ?_
       refine D.pickOr tOk zOk rfl rfl tg ?_
       refine WD.nil ?_
       refine AnyZ.eager 14 rfl (by kernel_rfl) (Eag.pure tOk zOk rfl (fun _ _ _ => rfl) rfl rfl) ?_
       refine AnyZ.eager 15 rfl (by kernel_rfl) (Eag.pure tOk zOk rfl (fun _ _ _ => rfl) rfl rfl) ?_
       refine AnyZ.nil (by kernel_rfl) ?_
       iterate 4 first|apply Yu|apply Yv|apply Yt|apply Yn
       exact Yz rfl rfl rfl (by first | (rw [rq_1 (by assumption)]; rfl) | (rw [rq_2 (by assumption)]; rfl) | (rw [rq_3 (by assumption)]; rfl) | (rw [rq_4 (by assumption)]; rfl) | (rw [rq_5 (by assumption) (by assumption) (by assumption) (by assumption) (by assumption)]; rfl) | (rw [rq_6 (by assumption) (by assumption) (by assumption) (by assumption) (by assumption)]; rfl))
      refine OpZ.d ?_
      refine D.store tOk rfl rfl rfl rfl rfl rfl rfl rfl ?_
      refine WD.nil ?_
      refine AnyZ.one 9 (by kernel_rfl) rfl ?_
      refine OpZ.d ?_
      refine Yy rfl rfl rfl tg ?_
      refine WD.nil ?_
      refine AnyZ.eager 11 rfl (by kernel_rfl) (Eag.pureG tOk zOk rfl rfl (fun _ _ _ => rfl) tg (fun _ => rfl) rfl) ?_
      refine AnyZ.one 12 (by kernel_rfl) rfl ?_
      refine OpZ.d ?_
      refine D.pickOr tOk zOk rfl rfl tg ?_
      refine WD.nil ?_
      refine AnyZ.eager 14 rfl (by kernel_rfl) (Eag.pure tOk zOk rfl (fun _ _ _ => rfl) rfl rfl) ?_
      refine AnyZ.eager 15 rfl (by kernel_rfl) (Eag.pure tOk zOk rfl (fun _ _ _ => rfl) rfl rfl) ?_
      refine AnyZ.nil (by kernel_rfl) ?_
      iterate 4 first|apply Yu|apply Yv|apply Yt|apply Yn
      exact Yz rfl rfl rfl (by first | (rw [rq_1 (by assumption)]; rfl) | (rw [rq_2 (by assumption)]; rfl) | (rw [rq_3 (by assumption)]; rfl) | (rw [rq_4 (by assumption)]; rfl) | (rw [rq_5 (by assumption) (by assumption) (by assumption) (by assumption) (by assumption)]; rfl) | (rw [rq_6 (by assumption) (by assumption) (by assumption) (by assumption) (by assumption)]; rfl))
     refine OpZ.d ?_
     refine D.store tOk rfl rfl rfl rfl rfl rfl rfl rfl ?_
     refine WD.nil ?_
     refine AnyZ.two 9 10 (by kernel_rfl) rfl rfl ?_ ?_
     ·skip
      refine OpZ.d ?_
      refine Yy rfl rfl rfl tg ?_
      refine WD.nil ?_
      refine AnyZ.one 10 (by kernel_rfl) rfl ?_
      refine OpZ.d ?_
      refine Yy rfl rfl rfl tg ?_
      refine WD.nil ?_
      refine AnyZ.eager 11 rfl (by kernel_rfl) (Eag.pureG tOk zOk rfl rfl (fun _ _ _ => rfl) tg (fun _ => rfl) rfl) ?_
      refine AnyZ.one 12 (by kernel_rfl) rfl ?_
      refine OpZ.d ?_
      refine D.pickOr tOk zOk rfl rfl tg ?_
      refine WD.nil ?_
      refine AnyZ.eager 14 rfl (by kernel_rfl) (Eag.pure tOk zOk rfl (fun _ _ _ => rfl) rfl rfl) ?_
      refine AnyZ.eager 15 rfl (by kernel_rfl) (Eag.pure tOk zOk rfl (fun _ _ _ => rfl) rfl rfl) ?_
      refine AnyZ.nil (by kernel_rfl) ?_
      iterate 4 first|apply Yu|apply Yv|apply Yt|apply Yn
      exact Yz rfl rfl rfl (by first | (rw [rq_1 (by assumption)]; rfl) | (rw [rq_2 (by assumption)]; rfl) | (rw [rq_3 (by assumption)]; rfl) | (rw [rq_4 (by assumption)]; rfl) | (rw [rq_5 (by assumption) (by assumption) (by assumption) (by assumption) (by assumption)]; rfl) | (rw [rq_6 (by assumption) (by assumption) (by assumption) (by assumption) (by assumption)]; rfl))
     refine OpZ.d ?_
     refine Yy rfl rfl rfl tg ?_
     refine WD.nil ?_
     refine AnyZ.one 9 (by kernel_rfl) rfl ?_
     refine OpZ.d ?_
     refine Yy rfl rfl rfl tg ?_
     refine WD.nil ?_
     refine AnyZ.eager 11 rfl (by kernel_rfl) (Eag.pureG tOk zOk rfl rfl (fun _ _ _ => rfl) tg (fun _ => rfl) rfl) ?_
     refine AnyZ.one 12 (by kernel_rfl) rfl ?_
     refine OpZ.d ?_
     refine D.pickOr tOk zOk rfl rfl tg ?_
     refine WD.nil ?_
     refine AnyZ.eager 14 rfl (by kernel_rfl) (Eag.pure tOk zOk rfl (fun _ _ _ => rfl) rfl rfl) ?_
     refine AnyZ.eager 15 rfl (by kernel_rfl) (Eag.pure tOk zOk rfl (fun _ _ _ => rfl) rfl rfl) ?_
     refine AnyZ.nil (by kernel_rfl) ?_
     apply Yn
     apply Yt
     apply Yv
     apply Yu
     exact Yz rfl rfl rfl (by first | (rw [rq_1 (by assumption)]; rfl) | (rw [rq_2 (by assumption)]; rfl) | (rw [rq_3 (by assumption)]; rfl) | (rw [rq_4 (by assumption)]; rfl) | (rw [rq_5 (by assumption) (by assumption) (by assumption) (by assumption) (by assumption)]; rfl) | (rw [rq_6 (by assumption) (by assumption) (by assumption) (by assumption) (by assumption)]; rfl))
    ·skip
     refine OpZ.d ?_
     refine Yy rfl rfl rfl tg ?_
     refine WD.nil ?_
     refine AnyZ.two 8 13 (by kernel_rfl) rfl rfl ?_ ?_
     ·skip
      refine OpZ.d ?_
      refine D.pureEGc tOk zOk rfl rfl rfl tg (fun hg => ok_idx Fl.z (ngt_t hg)) (fun hg => at_idx Fl.z (ngt_t hg)) rfl ?_
      refine WD.nil ?_
      refine AnyZ.two 9 13 (by kernel_rfl) rfl rfl ?_ ?_
      ·skip
       refine OpZ.d ?_
       refine Yy rfl rfl rfl tg ?_
       refine WD.nil ?_
       refine AnyZ.eager 11 rfl (by kernel_rfl) (Eag.pureG tOk zOk rfl rfl (fun _ _ _ => rfl) tg (fun _ => rfl) rfl) ?_
       refine AnyZ.two 12 13 (by kernel_rfl) rfl rfl ?_ ?_
       ·skip
        refine OpZ.d ?_
        refine D.pickOr tOk zOk rfl rfl tg ?_
        refine WD.nil ?_
        refine AnyZ.one 13 (by kernel_rfl) rfl ?_
        refine OpZ.d ?_
        refine D.store tOk rfl rfl rfl rfl rfl rfl rfl rfl ?_
        refine WD.nil ?_
        refine AnyZ.eager 14 rfl (by kernel_rfl) (Eag.pure tOk zOk rfl (fun _ _ _ => rfl) rfl rfl) ?_
        refine AnyZ.eager 15 rfl (by kernel_rfl) (Eag.pure tOk zOk rfl (fun _ _ _ => rfl) rfl rfl) ?_
        refine AnyZ.nil (by kernel_rfl) ?_
        iterate 4 first|apply Yu|apply Yv|apply Yt|apply Yn
        exact Yz rfl rfl rfl (by first | (rw [rq_1 (by assumption)]; rfl) | (rw [rq_2 (by assumption)]; rfl) | (rw [rq_3 (by assumption)]; rfl) | (rw [rq_4 (by assumption)]; rfl) | (rw [rq_5 (by assumption) (by assumption) (by assumption) (by assumption) (by assumption)]; rfl) | (rw [rq_6 (by assumption) (by assumption) (by assumption) (by assumption) (by assumption)]; rfl))
       refine OpZ.d ?_
       refine D.store tOk rfl rfl rfl rfl rfl rfl rfl rfl ?_
       refine WD.nil ?_
       refine AnyZ.one 12 (by kernel_rfl) rfl ?_
       refine OpZ.d ?_
       refine D.pickOr tOk zOk rfl rfl tg ?_
       refine WD.nil ?_
       refine AnyZ.eager 14 rfl (by kernel_rfl) (Eag.pure tOk zOk rfl (fun _ _ _ => rfl) rfl rfl) ?_
       refine AnyZ.eager 15 rfl (by kernel_rfl) (Eag.pure tOk zOk rfl (fun _ _ _ => rfl) rfl rfl) ?_
       refine AnyZ.nil (by kernel_rfl) ?_
       iterate 4 first|apply Yu|apply Yv|apply Yt|apply Yn
       exact Yz rfl rfl rfl (by first | (rw [rq_1 (by assumption)]; rfl) | (rw [rq_2 (by assumption)]; rfl) | (rw [rq_3 (by assumption)]; rfl) | (rw [rq_4 (by assumption)]; rfl) | (rw [rq_5 (by assumption) (by assumption) (by assumption) (by assumption) (by assumption)]; rfl) | (rw [rq_6 (by assumption) (by assumption) (by assumption) (by assumption) (by assumption)]; rfl))
      refine OpZ.d ?_
      refine D.store tOk rfl rfl rfl rfl rfl rfl rfl rfl ?_
      refine WD.nil ?_
      refine AnyZ.one 9 (by kernel_rfl) rfl ?_
      refine OpZ.d ?_
      refine Yy rfl rfl rfl tg ?_
      refine WD.nil ?_
      refine AnyZ.eager 11 rfl (by kernel_rfl) (Eag.pureG tOk zOk rfl rfl (fun _ _ _ => rfl) tg (fun _ => rfl) rfl) ?_
      refine AnyZ.one 12 (by kernel_rfl) rfl ?_
      refine OpZ.d ?_
      refine D.pickOr tOk zOk rfl rfl tg ?_
      refine WD.nil ?_
      refine AnyZ.eager 14 rfl (by kernel_rfl) (Eag.pure tOk zOk rfl (fun _ _ _ => rfl) rfl rfl) ?_
      refine AnyZ.eager 15 rfl (by kernel_rfl) (Eag.pure tOk zOk rfl (fun _ _ _ => rfl) rfl rfl) ?_
      refine AnyZ.nil (by kernel_rfl) ?_
      iterate 4 first|apply Yu|apply Yv|apply Yt|apply Yn
      exact Yz rfl rfl rfl (by first | (rw [rq_1 (by assumption)]; rfl) | (rw [rq_2 (by assumption)]; rfl) | (rw [rq_3 (by assumption)]; rfl) | (rw [rq_4 (by assumption)]; rfl) | (rw [rq_5 (by assumption) (by assumption) (by assumption) (by assumption) (by assumption)]; rfl) | (rw [rq_6 (by assumption) (by assumption) (by assumption) (by assumption) (by assumption)]; rfl))
     refine OpZ.d ?_
     refine D.store tOk rfl rfl rfl rfl rfl rfl rfl rfl ?_
     refine WD.nil ?_
     refine AnyZ.one 8 (by kernel_rfl) rfl ?_
     refine OpZ.d ?_
     refine D.pureEGc tOk zOk rfl rfl rfl tg (fun hg => ok_idx Fl.z (ngt_t hg)) (fun hg => at_idx Fl.z (ngt_t hg)) rfl ?_
     refine WD.nil ?_
     refine AnyZ.one 9 (by kernel_rfl) rfl ?_
     refine OpZ.d ?_
     refine Yy rfl rfl rfl tg ?_
     refine WD.nil ?_
     refine AnyZ.eager 11 rfl (by kernel_rfl) (Eag.pureG tOk zOk rfl rfl (fun _ _ _ => rfl) tg (fun _ => rfl) rfl) ?_
     refine AnyZ.one 12 (by kernel_rfl) rfl ?_
     refine OpZ.d ?_
     refine D.pickOr tOk zOk rfl rfl tg ?_
     refine WD.nil ?_
     refine AnyZ.eager 14 rfl (by kernel_rfl) (Eag.pure tOk zOk rfl (fun _ _ _ => rfl) rfl rfl) ?_
     refine AnyZ.eager 15 rfl (by kernel_rfl) (Eag.pure tOk zOk rfl (fun _ _ _ => rfl) rfl rfl) ?_
     refine AnyZ.nil (by kernel_rfl) ?_
     apply Yn
     apply Yt
     apply Yv
     apply Yu
     exact Yz rfl rfl rfl (by first | (rw [rq_1 (by assumption)]; rfl) | (rw [rq_2 (by assumption)]; rfl) | (rw [rq_3 (by assumption)]; rfl) | (rw [rq_4 (by assumption)]; rfl) | (rw [rq_5 (by assumption) (by assumption) (by assumption) (by assumption) (by assumption)]; rfl) | (rw [rq_6 (by assumption) (by assumption) (by assumption) (by assumption) (by assumption)]; rfl))
    refine OpZ.d ?_
    refine D.store tOk rfl rfl rfl rfl rfl rfl rfl rfl ?_
    refine WD.nil ?_
    refine AnyZ.two 8 10 (by kernel_rfl) rfl rfl ?_ ?_
    ·skip
     refine OpZ.d ?_
     refine D.pureEGc tOk zOk rfl rfl rfl tg (fun hg => ok_idx Fl.z (ngt_t hg)) (fun hg => at_idx Fl.z (ngt_t hg)) rfl ?_
     refine WD.nil ?_
     refine AnyZ.two 9 10 (by kernel_rfl) rfl rfl ?_ ?_
     ·skip
      refine OpZ.d ?_
      refine Yy rfl rfl rfl tg ?_
      refine WD.nil ?_
      refine AnyZ.one 10 (by kernel_rfl) rfl ?_
      refine OpZ.d ?_
      refine Yy rfl rfl rfl tg ?_
      refine WD.nil ?_
      refine AnyZ.eager 11 rfl (by kernel_rfl) (Eag.pureG tOk zOk rfl rfl (fun _ _ _ => rfl) tg (fun _ => rfl) rfl) ?_
      refine AnyZ.one 12 (by kernel_rfl) rfl ?_
      refine OpZ.d ?_
      refine D.pickOr tOk zOk rfl rfl tg ?_
      refine WD.nil ?_
      refine AnyZ.eager 14 rfl (by kernel_rfl) (Eag.pure tOk zOk rfl (fun _ _ _ => rfl) rfl rfl) ?_
      refine AnyZ.eager 15 rfl (by kernel_rfl) (Eag.pure tOk zOk rfl (fun _ _ _ => rfl) rfl rfl) ?_
      refine AnyZ.nil (by kernel_rfl) ?_
      iterate 4 first|apply Yu|apply Yv|apply Yt|apply Yn
      exact Yz rfl rfl rfl (by first | (rw [rq_1 (by assumption)]; rfl) | (rw [rq_2 (by assumption)]; rfl) | (rw [rq_3 (by assumption)]; rfl) | (rw [rq_4 (by assumption)]; rfl) | (rw [rq_5 (by assumption) (by assumption) (by assumption) (by assumption) (by assumption)]; rfl) | (rw [rq_6 (by assumption) (by assumption) (by assumption) (by assumption) (by assumption)]; rfl))
     refine OpZ.d ?_
     refine Yy rfl rfl rfl tg ?_
     refine WD.nil ?_
     refine AnyZ.one 9 (by kernel_rfl) rfl ?_
     refine OpZ.d ?_
     refine Yy rfl rfl rfl tg ?_
     refine WD.nil ?_
     refine AnyZ.eager 11 rfl (by kernel_rfl) (Eag.pureG tOk zOk rfl rfl (fun _ _ _ => rfl) tg (fun _ => rfl) rfl) ?_
     refine AnyZ.one 12 (by kernel_rfl) rfl ?_
     refine OpZ.d ?_
     refine D.pickOr tOk zOk rfl rfl tg ?_
     refine WD.nil ?_
     refine AnyZ.eager 14 rfl (by kernel_rfl) (Eag.pure tOk zOk rfl (fun _ _ _ => rfl) rfl rfl) ?_
     refine AnyZ.eager 15 rfl (by kernel_rfl) (Eag.pure tOk zOk rfl (fun _ _ _ => rfl) rfl rfl) ?_
     refine AnyZ.nil (by kernel_rfl) ?_
     apply Yn
     apply Yt
     apply Yv
     apply Yu
     exact Yz rfl rfl rfl (by first | (rw [rq_1 (by assumption)]; rfl) | (rw [rq_2 (by assumption)]; rfl) | (rw [rq_3 (by assumption)]; rfl) | (rw [rq_4 (by assumption)]; rfl) | (rw [rq_5 (by assumption) (by assumption) (by assumption) (by assumption) (by assumption)]; rfl) | (rw [rq_6 (by assumption) (by assumption) (by assumption) (by assumption) (by assumption)]; rfl))
    refine OpZ.d ?_
    refine Yy rfl rfl rfl tg ?_
    refine WD.nil ?_
    refine AnyZ.one 8 (by kernel_rfl) rfl ?_
    refine OpZ.d ?_
    refine D.pureEGc tOk zOk rfl rfl rfl tg (fun hg => ok_idx Fl.z (ngt_t hg)) (fun hg => at_idx Fl.z (ngt_t hg)) rfl ?_
    refine WD.nil ?_
    refine AnyZ.one 9 (by kernel_rfl) rfl ?_
    refine OpZ.d ?_
    refine Yy rfl rfl rfl tg ?_
    refine WD.nil ?_
    refine AnyZ.eager 11 rfl (by kernel_rfl) (Eag.pureG tOk zOk rfl rfl (fun _ _ _ => rfl) tg (fun _ => rfl) rfl) ?_
    refine AnyZ.one 12 (by kernel_rfl) rfl ?_
    refine OpZ.d ?_
    refine D.pickOr tOk zOk rfl rfl tg ?_
    refine WD.nil ?_
    refine AnyZ.eager 14 rfl (by kernel_rfl) (Eag.pure tOk zOk rfl (fun _ _ _ => rfl) rfl rfl) ?_
    refine AnyZ.eager 15 rfl (by kernel_rfl) (Eag.pure tOk zOk rfl (fun _ _ _ => rfl) rfl rfl) ?_
    refine AnyZ.nil (by kernel_rfl) ?_
    apply Yn
    apply Yt
    apply Yv
    apply Yu
    exact Yz rfl rfl rfl (by first | (rw [rq_1 (by assumption)]; rfl) | (rw [rq_2 (by assumption)]; rfl) | (rw [rq_3 (by assumption)]; rfl) | (rw [rq_4 (by assumption)]; rfl) | (rw [rq_5 (by assumption) (by assumption) (by assumption) (by assumption) (by assumption)]; rfl) | (rw [rq_6 (by assumption) (by assumption) (by assumption) (by assumption) (by assumption)]; rfl))
   ·skip
    refine OpZ.d ?_
    refine D.pureEGc tOk zOk rfl rfl rfl tg (fun hg => ok_idx Fl.z (ngt_t hg)) (fun hg => at_idx Fl.z (ngt_t hg)) rfl ?_
    refine WD.nil ?_
    refine AnyZ.three 0 9 10 (by kernel_rfl) rfl rfl rfl ?_ ?_ ?_
    ·skip
     refine OpZ.d ?_
     refine Ym rfl rfl ?_
     refine WD.nil ?_
     refine AnyZ.eager 1 rfl (by kernel_rfl) (Eag.pure tOk zOk rfl (fun _ _ _ => rfl) rfl rfl) ?_
     refine AnyZ.three 9 10 13 (by kernel_rfl) rfl rfl rfl ?_ ?_ ?_
     ·skip
      refine OpZ.d ?_
      refine Yy rfl rfl rfl tg ?_
      refine WD.nil ?_
      refine AnyZ.two 10 13 (by kernel_rfl) rfl rfl ?_ ?_
      ·skip
       refine OpZ.d ?_
       refine Yy rfl rfl rfl tg ?_
       refine WD.nil ?_
       refine AnyZ.eager 11 rfl (by kernel_rfl) (Eag.pureG tOk zOk rfl rfl (fun _ _ _ => rfl) tg (fun _ => rfl) rfl) ?_
       refine AnyZ.two 12 13 (by kernel_rfl) rfl rfl ?_ ?_
       ·skip
        refine OpZ.d ?_
        refine D.pickOr tOk zOk rfl rfl tg ?_
        refine WD.nil ?_
        refine AnyZ.one 13 (by kernel_rfl) rfl ?_
        refine OpZ.d ?_
        refine D.store tOk rfl rfl rfl rfl rfl rfl rfl rfl ?_
        refine WD.nil ?_
        refine AnyZ.eager 14 rfl (by kernel_rfl) (Eag.pure tOk zOk rfl (fun _ _ _ => rfl) rfl rfl) ?_
        refine AnyZ.eager 15 rfl (by kernel_rfl) (Eag.pure tOk zOk rfl (fun _ _ _ => rfl) rfl rfl) ?_
        refine AnyZ.nil (by kernel_rfl) ?_
        iterate 4 first|apply Yu|apply Yv|apply Yt|apply Yn
        exact Yz rfl rfl rfl (by first | (rw [rq_1 (by assumption)]; rfl) | (rw [rq_2 (by assumption)]; rfl) | (rw [rq_3 (by assumption)]; rfl) | (rw [rq_4 (by assumption)]; rfl) | (rw [rq_5 (by assumption) (by assumption) (by assumption) (by assumption) (by assumption)]; rfl) | (rw [rq_6 (by assumption) (by assumption) (by assumption) (by assumption) (by assumption)]; rfl))
       refine OpZ.d ?_
       refine D.store tOk rfl rfl rfl rfl rfl rfl rfl rfl ?_
       refine WD.nil ?_
       refine AnyZ.one 12 (by kernel_rfl) rfl ?_
       refine OpZ.d ?_
       refine D.pickOr tOk zOk rfl rfl tg ?_
       refine WD.nil ?_
       refine AnyZ.eager 14 rfl (by kernel_rfl) (Eag.pure tOk zOk rfl (fun _ _ _ => rfl) rfl rfl) ?_
       refine AnyZ.eager 15 rfl (by kernel_rfl) (Eag.pure tOk zOk rfl (fun _ _ _ => rfl) rfl rfl) ?_
       refine AnyZ.nil (by kernel_rfl) ?_
       iterate 4 first|apply Yu|apply Yv|apply Yt|apply Yn
       exact Yz rfl rfl rfl (by first | (rw [rq_1 (by assumption)]; rfl) | (rw [rq_2 (by assumption)]; rfl) | (rw [rq_3 (by assumption)]; rfl) | (rw [rq_4 (by assumption)]; rfl) | (rw [rq_5 (by assumption) (by assumption) (by assumption) (by assumption) (by assumption)]; rfl) | (rw [rq_6 (by assumption) (by assumption) (by assumption) (by assumption) (by assumption)]; rfl))
      refine OpZ.d ?_
      refine D.store tOk rfl rfl rfl rfl rfl rfl rfl rfl ?_
      refine WD.nil ?_
      refine AnyZ.one 10 (by kernel_rfl) rfl ?_
      refine OpZ.d ?_
      refine Yy rfl rfl rfl tg ?_
      refine WD.nil ?_
      refine AnyZ.eager 11 rfl (by kernel_rfl) (Eag.pureG tOk zOk rfl rfl (fun _ _ _ => rfl) tg (fun _ => rfl) rfl) ?_
      refine AnyZ.one 12 (by kernel_rfl) rfl ?_
      refine OpZ.d ?_
      refine D.pickOr tOk zOk rfl rfl tg ?_
      refine WD.nil ?_
      refine AnyZ.eager 14 rfl (by kernel_rfl) (Eag.pure tOk zOk rfl (fun _ _ _ => rfl) rfl rfl) ?_
      refine AnyZ.eager 15 rfl (by kernel_rfl) (Eag.pure tOk zOk rfl (fun _ _ _ => rfl) rfl rfl) ?_
      refine AnyZ.nil (by kernel_rfl) ?_
      iterate 4 first|apply Yu|apply Yv|apply Yt|apply Yn
      exact Yz rfl rfl rfl (by first | (rw [rq_1 (by assumption)]; rfl) | (rw [rq_2 (by assumption)]; rfl) | (rw [rq_3 (by assumption)]; rfl) | (rw [rq_4 (by assumption)]; rfl) | (rw [rq_5 (by assumption) (by assumption) (by assumption) (by assumption) (by assumption)]; rfl) | (rw [rq_6 (by assumption) (by assumption) (by assumption) (by assumption) (by assumption)]; rfl))
     ·skip
      refine OpZ.d ?_
      refine Yy rfl rfl rfl tg ?_
      refine WD.nil ?_
      refine AnyZ.two 9 13 (by kernel_rfl) rfl rfl ?_ ?_
      ·skip
       refine OpZ.d ?_
       refine Yy rfl rfl rfl tg ?_
       refine WD.nil ?_
       refine AnyZ.eager 11 rfl (by kernel_rfl) (Eag.pureG tOk zOk rfl rfl (fun _ _ _ => rfl) tg (fun _ => rfl) rfl) ?_
       refine AnyZ.two 12 13 (by kernel_rfl) rfl rfl ?_ ?_
       ·skip
        refine OpZ.d ?_
        refine D.pickOr tOk zOk rfl rfl tg ?_
        refine WD.nil ?_
        refine AnyZ.one 13 (by kernel_rfl) rfl ?_
        refine OpZ.d ?_
        refine D.store tOk rfl rfl rfl rfl rfl rfl rfl rfl ?_
        refine WD.nil ?_
        refine AnyZ.eager 14 rfl (by kernel_rfl) (Eag.pure tOk zOk rfl (fun _ _ _ => rfl) rfl rfl) ?_
        refine AnyZ.eager 15 rfl (by kernel_rfl) (Eag.pure tOk zOk rfl (fun _ _ _ => rfl) rfl rfl) ?_
        refine AnyZ.nil (by kernel_rfl) ?_
        iterate 4 first|apply Yu|apply Yv|apply Yt|apply Yn
        exact Yz rfl rfl rfl (by first | (rw [rq_1 (by assumption)]; rfl) | (rw [rq_2 (by assumption)]; rfl) | (rw [rq_3 (by assumption)]; rfl) | (rw [rq_4 (by assumption)]; rfl) | (rw [rq_5 (by assumption) (by assumption) (by assumption) (by assumption) (by assumption)]; rfl) | (rw [rq_6 (by assumption) (by assumption) (by assumption) (by assumption) (by assumption)]; rfl))
       refine OpZ.d ?_
       refine D.store tOk rfl rfl rfl rfl rfl rfl rfl rfl ?_
       refine WD.nil ?_
       refine AnyZ.one 12 (by kernel_rfl) rfl ?_
       refine OpZ.d ?_
       refine D.pickOr tOk zOk rfl rfl tg ?_
       refine WD.nil ?_
       refine AnyZ.eager 14 rfl (by kernel_rfl) (Eag.pure tOk zOk rfl (fun _ _ _ => rfl) rfl rfl) ?_
       refine AnyZ.eager 15 rfl (by kernel_rfl) (Eag.pure tOk zOk rfl (fun _ _ _ => rfl) rfl rfl) ?_
       refine AnyZ.nil (by kernel_rfl) ?_
       iterate 4 first|apply Yu|apply Yv|apply Yt|apply Yn
       exact Yz rfl rfl rfl (by first | (rw [rq_1 (by assumption)]; rfl) | (rw [rq_2 (by assumption)]; rfl) | (rw [rq_3 (by assumption)]; rfl) | (rw [rq_4 (by assumption)]; rfl) | (rw [rq_5 (by assumption) (by assumption) (by assumption) (by assumption) (by assumption)]; rfl) | (rw [rq_6 (by assumption) (by assumption) (by assumption) (by assumption) (by assumption)]; rfl))
      refine OpZ.d ?_
      refine D.store tOk rfl rfl rfl rfl rfl rfl rfl rfl ?_
      refine WD.nil ?_
      refine AnyZ.one 9 (by kernel_rfl) rfl ?_
      refine OpZ.d ?_
      refine Yy rfl rfl rfl tg ?_
      refine WD.nil ?_
      refine AnyZ.eager 11 rfl (by kernel_rfl) (Eag.pureG tOk zOk rfl rfl (fun _ _ _ => rfl) tg (fun _ => rfl) rfl) ?_
      refine AnyZ.one 12 (by kernel_rfl) rfl ?_
      refine OpZ.d ?_
      refine D.pickOr tOk zOk rfl rfl tg ?_
      refine WD.nil ?_
      refine AnyZ.eager 14 rfl (by kernel_rfl) (Eag.pure tOk zOk rfl (fun _ _ _ => rfl) rfl rfl) ?_
      refine AnyZ.eager 15 rfl (by kernel_rfl) (Eag.pure tOk zOk rfl (fun _ _ _ => rfl) rfl rfl) ?_
      refine AnyZ.nil (by kernel_rfl) ?_
      iterate 4 first|apply Yu|apply Yv|apply Yt|apply Yn
      exact Yz rfl rfl rfl (by first | (rw [rq_1 (by assumption)]; rfl) | (rw [rq_2 (by assumption)]; rfl) | (rw [rq_3 (by assumption)]; rfl) | (rw [rq_4 (by assumption)]; rfl) | (rw [rq_5 (by assumption) (by assumption) (by assumption) (by assumption) (by assumption)]; rfl) | (rw [rq_6 (by assumption) (by assumption) (by assumption) (by assumption) (by assumption)]; rfl))
     refine OpZ.d ?_
     refine D.store tOk rfl rfl rfl rfl rfl rfl rfl rfl ?_
     refine WD.nil ?_
     refine AnyZ.two 9 10 (by kernel_rfl) rfl rfl ?_ ?_
     ·skip
      refine OpZ.d ?_
      refine Yy rfl rfl rfl tg ?_
      refine WD.nil ?_
      refine AnyZ.one 10 (by kernel_rfl) rfl ?_
      refine OpZ.d ?_
      refine Yy rfl rfl rfl tg ?_
      refine WD.nil ?_
      refine AnyZ.eager 11 rfl (by kernel_rfl) (Eag.pureG tOk zOk rfl rfl (fun _ _ _ => rfl) tg (fun _ => rfl) rfl) ?_
      refine AnyZ.one 12 (by kernel_rfl) rfl ?_
      refine OpZ.d ?_
      refine D.pickOr tOk zOk rfl rfl tg ?_
      refine WD.nil ?_
      refine AnyZ.eager 14 rfl (by kernel_rfl) (Eag.pure tOk zOk rfl (fun _ _ _ => rfl) rfl rfl) ?_
      refine AnyZ.eager 15 rfl (by kernel_rfl) (Eag.pure tOk zOk rfl (fun _ _ _ => rfl) rfl rfl) ?_
      refine AnyZ.nil (by kernel_rfl) ?_
      iterate 4 first|apply Yu|apply Yv|apply Yt|apply Yn
      exact Yz rfl rfl rfl (by first | (rw [rq_1 (by assumption)]; rfl) | (rw [rq_2 (by assumption)]; rfl) | (rw [rq_3 (by assumption)]; rfl) | (rw [rq_4 (by assumption)]; rfl) | (rw [rq_5 (by assumption) (by assumption) (by assumption) (by assumption) (by assumption)]; rfl) | (rw [rq_6 (by assumption) (by assumption) (by assumption) (by assumption) (by assumption)]; rfl))
     refine OpZ.d ?_
     refine Yy rfl rfl rfl tg ?_
     refine WD.nil ?_
     refine AnyZ.one 9 (by kernel_rfl) rfl ?_
     refine OpZ.d ?_
     refine Yy rfl rfl rfl tg ?_
     refine WD.nil ?_
     refine AnyZ.eager 11 rfl (by kernel_rfl) (Eag.pureG tOk zOk rfl rfl (fun _ _ _ => rfl) tg (fun _ => rfl) rfl) ?_
     refine AnyZ.one 12 (by kernel_rfl) rfl ?_
     refine OpZ.d ?_
     refine D.pickOr tOk zOk rfl rfl tg ?_
     refine WD.nil ?_
     refine AnyZ.eager 14 rfl (by kernel_rfl) (Eag.pure tOk zOk rfl (fun _ _ _ => rfl) rfl rfl) ?_
     refine AnyZ.eager 15 rfl (by kernel_rfl) (Eag.pure tOk zOk rfl (fun _ _ _ => rfl) rfl rfl) ?_
     refine AnyZ.nil (by kernel_rfl) ?_
     apply Yn
     apply Yt
     apply Yv
     apply Yu
     exact Yz rfl rfl rfl (by first | (rw [rq_1 (by assumption)]; rfl) | (rw [rq_2 (by assumption)]; rfl) | (rw [rq_3 (by assumption)]; rfl) | (rw [rq_4 (by assumption)]; rfl) | (rw [rq_5 (by assumption) (by assumption) (by assumption) (by assumption) (by assumption)]; rfl) | (rw [rq_6 (by assumption) (by assumption) (by assumption) (by assumption) (by assumption)]; rfl))
    ·skip
     refine OpZ.d ?_
     refine Yy rfl rfl rfl tg ?_
     refine WD.nil ?_
     refine AnyZ.two 0 10 (by kernel_rfl) rfl rfl ?_ ?_
     ·skip
      refine OpZ.d ?_
      refine Ym rfl rfl ?_
      refine WD.nil ?_
      refine AnyZ.eager 1 rfl (by kernel_rfl) (Eag.pure tOk zOk rfl (fun _ _ _ => rfl) rfl rfl) ?_
      refine AnyZ.two 10 13 (by kernel_rfl) rfl rfl ?_ ?_
      ·skip
       refine OpZ.d ?_
       refine Yy rfl rfl rfl tg ?_
       refine WD.nil ?_
       refine AnyZ.eager 11 rfl (by kernel_rfl) (Eag.pureG tOk zOk rfl rfl (fun _ _ _ => rfl) tg (fun _ => rfl) rfl) ?_
       refine AnyZ.two 12 13 (by kernel_rfl) rfl rfl ?_ ?_
       ·skip
        refine OpZ.d ?_
        refine D.pickOr tOk zOk rfl rfl tg ?_
        refine WD.nil ?_
        refine AnyZ.one 13 (by kernel_rfl) rfl ?_
        refine OpZ.d ?_
        refine D.store tOk rfl rfl rfl rfl rfl rfl rfl rfl ?_
        refine WD.nil ?_
        refine AnyZ.eager 14 rfl (by kernel_rfl) (Eag.pure tOk zOk rfl (fun _ _ _ => rfl) rfl rfl) ?_
        refine AnyZ.eager 15 rfl (by kernel_rfl) (Eag.pure tOk zOk rfl (fun _ _ _ => rfl) rfl rfl) ?_
        refine AnyZ.nil (by kernel_rfl) ?_
        iterate 4 first|apply Yu|apply Yv|apply Yt|apply Yn
        exact Yz rfl rfl rfl (by first | (rw [rq_1 (by assumption)]; rfl) | (rw [rq_2 (by assumption)]; rfl) | (rw [rq_3 (by assumption)]; rfl) | (rw [rq_4 (by assumption)]; rfl) | (rw [rq_5 (by assumption) (by assumption) (by assumption) (by assumption) (by assumption)]; rfl) | (rw [rq_6 (by assumption) (by assumption) (by assumption) (by assumption) (by assumption)]; rfl))
       refine OpZ.d ?_
       refine D.store tOk rfl rfl rfl rfl rfl rfl rfl rfl ?_
       refine WD.nil ?_
       refine AnyZ.one 12 (by kernel_rfl) rfl ?_
       refine OpZ.d ?_
       refine D.pickOr tOk zOk rfl rfl tg ?_
       refine WD.nil ?_
       refine AnyZ.eager 14 rfl (by kernel_rfl) (Eag.pure tOk zOk rfl (fun _ _ _ => rfl) rfl rfl) ?_
       refine AnyZ.eager 15 rfl (by kernel_rfl) (Eag.pure tOk zOk rfl (fun _ _ _ => rfl) rfl rfl) ?_
       refine AnyZ.nil (by kernel_rfl) ?_
       iterate 4 first|apply Yu|apply Yv|apply Yt|apply Yn
       exact Yz rfl rfl rfl (by first | (rw [rq_1 (by assumption)]; rfl) | (rw [rq_2 (by assumption)]; rfl) | (rw [rq_3 (by assumption)]; rfl) | (rw [rq_4 (by assumption)]; rfl) | (rw [rq_5 (by assumption) (by assumption) (by assumption) (by assumption) (by assumption)]; rfl) | (rw [rq_6 (by assumption) (by assumption) (by assumption) (by assumption) (by assumption)]; rfl))
      refine OpZ.d ?_
      refine D.store tOk rfl rfl rfl rfl rfl rfl rfl rfl ?_
      refine WD.nil ?_
      refine AnyZ.one 10 (by kernel_rfl) rfl ?_
      refine OpZ.d ?_
      refine Yy rfl rfl rfl tg ?_
      refine WD.nil ?_
      refine AnyZ.eager 11 rfl (by kernel_rfl) (Eag.pureG tOk zOk rfl rfl (fun _ _ _ => rfl) tg (fun _ => rfl) rfl) ?_
      refine AnyZ.one 12 (by kernel_rfl) rfl ?_
      refine OpZ.d ?_
      refine D.pickOr tOk zOk rfl rfl tg ?_
      refine WD.nil ?_
      refine AnyZ.eager 14 rfl (by kernel_rfl) (Eag.pure tOk zOk rfl (fun _ _ _ => rfl) rfl rfl) ?_
      refine AnyZ.eager 15 rfl (by kernel_rfl) (Eag.pure tOk zOk rfl (fun _ _ _ => rfl) rfl rfl) ?_
      refine AnyZ.nil (by kernel_rfl) ?_
      iterate 4 first|apply Yu|apply Yv|apply Yt|apply Yn
      exact Yz rfl rfl rfl (by first | (rw [rq_1 (by assumption)]; rfl) | (rw [rq_2 (by assumption)]; rfl) | (rw [rq_3 (by assumption)]; rfl) | (rw [rq_4 (by assumption)]; rfl) | (rw [rq_5 (by assumption) (by assumption) (by assumption) (by assumption) (by assumption)]; rfl) | (rw [rq_6 (by assumption) (by assumption) (by assumption) (by assumption) (by assumption)]; rfl))
     refine OpZ.d ?_
     refine Yy rfl rfl rfl tg ?_
     refine WD.nil ?_
     refine AnyZ.eager 11 rfl (by kernel_rfl) (Eag.pureG tOk zOk rfl rfl (fun _ _ _ => rfl) tg (fun _ => rfl) rfl) ?_
     refine AnyZ.two 0 12 (by kernel_rfl) rfl rfl ?_ ?_
     ·skip
      refine OpZ.d ?_
      refine Ym rfl rfl ?_
      refine WD.nil ?_
      refine AnyZ.eager 1 rfl (by kernel_rfl) (Eag.pure tOk zOk rfl (fun _ _ _ => rfl) rfl rfl) ?_
      refine AnyZ.two 12 13 (by kernel_rfl) rfl rfl ?_ ?_
      ·skip
       refine OpZ.d ?_
       refine D.pickOr tOk zOk rfl rfl tg ?_
       refine WD.nil ?_
       refine AnyZ.one 13 (by kernel_rfl) rfl ?_
       refine OpZ.d ?_
       refine D.store tOk rfl rfl rfl rfl rfl rfl rfl rfl ?_
       refine WD.nil ?_
       refine AnyZ.eager 14 rfl (by kernel_rfl) (Eag.pure tOk zOk rfl (fun _ _ _ => rfl) rfl rfl) ?_
       refine AnyZ.eager 15 rfl (by kernel_rfl) (Eag.pure tOk zOk rfl (fun _ _ _ => rfl) rfl rfl) ?_
       refine AnyZ.nil (by kernel_rfl) ?_
       iterate 4 first|apply Yu|apply Yv|apply Yt|apply Yn
       exact Yz rfl rfl rfl (by first | (rw [rq_1 (by assumption)]; rfl) | (rw [rq_2 (by assumption)]; rfl) | (rw [rq_3 (by assumption)]; rfl) | (rw [rq_4 (by assumption)]; rfl) | (rw [rq_5 (by assumption) (by assumption) (by assumption) (by assumption) (by assumption)]; rfl) | (rw [rq_6 (by assumption) (by assumption) (by assumption) (by assumption) (by assumption)]; rfl))
      refine OpZ.d ?_
      refine D.store tOk rfl rfl rfl rfl rfl rfl rfl rfl ?_
      refine WD.nil ?_
      refine AnyZ.one 12 (by kernel_rfl) rfl ?_
      refine OpZ.d ?_
      refine D.pickOr tOk zOk rfl rfl tg ?_
      refine WD.nil ?_
      refine AnyZ.eager 14 rfl (by kernel_rfl) (Eag.pure tOk zOk rfl (fun _ _ _ => rfl) rfl rfl) ?_
      refine AnyZ.eager 15 rfl (by kernel_rfl) (Eag.pure tOk zOk rfl (fun _ _ _ => rfl) rfl rfl) ?_
      refine AnyZ.nil (by kernel_rfl) ?_
      iterate 4 first|apply Yu|apply Yv|apply Yt|apply Yn
      exact Yz rfl rfl rfl (by first | (rw [rq_1 (by assumption)]; rfl) | (rw [rq_2 (by assumption)]; rfl) | (rw [rq_3 (by assumption)]; rfl) | (rw [rq_4 (by assumption)]; rfl) | (rw [rq_5 (by assumption) (by assumption) (by assumption) (by assumption) (by assumption)]; rfl) | (rw [rq_6 (by assumption) (by assumption) (by assumption) (by assumption) (by assumption)]; rfl))
     refine OpZ.d ?_
     refine D.pickOr tOk zOk rfl rfl tg ?_
     refine WD.nil ?_
     refine AnyZ.one 0 (by kernel_rfl) rfl ?_
     refine OpZ.d ?_
     refine Ym rfl rfl ?_
     refine WD.nil ?_
     refine AnyZ.eager 1 rfl (by kernel_rfl) (Eag.pure tOk zOk rfl (fun _ _ _ => rfl) rfl rfl) ?_
     refine AnyZ.one 13 (by kernel_rfl) rfl ?_
     refine OpZ.d ?_
     refine D.store tOk rfl rfl rfl rfl rfl rfl rfl rfl ?_
     refine WD.nil ?_
     refine AnyZ.eager 14 rfl (by kernel_rfl) (Eag.pure tOk zOk rfl (fun _ _ _ => rfl) rfl rfl) ?_
     refine AnyZ.eager 15 rfl (by kernel_rfl) (Eag.pure tOk zOk rfl (fun _ _ _ => rfl) rfl rfl) ?_
     refine AnyZ.nil (by kernel_rfl) ?_
     apply Yn
     apply Yt
     apply Yv
     apply Yu
     exact Yz rfl rfl rfl (by first | (rw [rq_1 (by assumption)]; rfl) | (rw [rq_2 (by assumption)]; rfl) | (rw [rq_3 (by assumption)]; rfl) | (rw [rq_4 (by assumption)]; rfl) | (rw [rq_5 (by assumption) (by assumption) (by assumption) (by assumption) (by assumption)]; rfl) | (rw [rq_6 (by assumption) (by assumption) (by assumption) (by assumption) (by assumption)]; rfl))
    refine OpZ.d ?_
    refine Yy rfl rfl rfl tg ?_
    refine WD.nil ?_
    refine AnyZ.two 0 9 (by kernel_rfl) rfl rfl ?_ ?_
    ·skip
     refine OpZ.d ?_
     refine Ym rfl rfl ?_
     refine WD.nil ?_
     refine AnyZ.eager 1 rfl (by kernel_rfl) (Eag.pure tOk zOk rfl (fun _ _ _ => rfl) rfl rfl) ?_
     refine AnyZ.two 9 13 (by kernel_rfl) rfl rfl ?_ ?_
     ·skip
      refine OpZ.d ?_
      refine Yy rfl rfl rfl tg ?_
      refine WD.nil ?_
      refine AnyZ.eager 11 rfl (by kernel_rfl) (Eag.pureG tOk zOk rfl rfl (fun _ _ _ => rfl) tg (fun _ => rfl) rfl) ?_
      refine AnyZ.two 12 13 (by kernel_rfl) rfl rfl ?_ ?_
      ·skip
       refine OpZ.d ?_
       refine D.pickOr tOk zOk rfl rfl tg ?_
       refine WD.nil ?_
       refine AnyZ.one 13 (by kernel_rfl) rfl ?_
       refine OpZ.d ?_
       refine D.store tOk rfl rfl rfl rfl rfl rfl rfl rfl ?_
       refine WD.nil ?_
       refine AnyZ.eager 14 rfl (by kernel_rfl) (Eag.pure tOk zOk rfl (fun _ _ _ => rfl) rfl rfl) ?_
       refine AnyZ.eager 15 rfl (by kernel_rfl) (Eag.pure tOk zOk rfl (fun _ _ _ => rfl) rfl rfl) ?_
       refine AnyZ.nil (by kernel_rfl) ?_
       iterate 4 first|apply Yu|apply Yv|apply Yt|apply Yn
       exact Yz rfl rfl rfl (by first | (rw [rq_1 (by assumption)]; rfl) | (rw [rq_2 (by assumption)]; rfl) | (rw [rq_3 (by assumption)]; rfl) | (rw [rq_4 (by assumption)]; rfl) | (rw [rq_5 (by assumption) (by assumption) (by assumption) (by assumption) (by assumption)]; rfl) | (rw [rq_6 (by assumption) (by assumption) (by assumption) (by assumption) (by assumption)]; rfl))
      refine OpZ.d ?_
      refine D.store tOk rfl rfl rfl rfl rfl rfl rfl rfl ?_
      refine WD.nil ?_
      refine AnyZ.one 12 (by kernel_rfl) rfl ?_
      refine OpZ.d ?_
      refine D.pickOr tOk zOk rfl rfl tg ?_
      refine WD.nil ?_
      refine AnyZ.eager 14 rfl (by kernel_rfl) (Eag.pure tOk zOk rfl (fun _ _ _ => rfl) rfl rfl) ?_
      refine AnyZ.eager 15 rfl (by kernel_rfl) (Eag.pure tOk zOk rfl (fun _ _ _ => rfl) rfl rfl) ?_
      refine AnyZ.nil (by kernel_rfl) ?_
      iterate 4 first|apply Yu|apply Yv|apply Yt|apply Yn
      exact Yz rfl rfl rfl (by first | (rw [rq_1 (by assumption)]; rfl) | (rw [rq_2 (by assumption)]; rfl) | (rw [rq_3 (by assumption)]; rfl) | (rw [rq_4 (by assumption)]; rfl) | (rw [rq_5 (by assumption) (by assumption) (by assumption) (by assumption) (by assumption)]; rfl) | (rw [rq_6 (by assumption) (by assumption) (by assumption) (by assumption) (by assumption)]; rfl))
     refine OpZ.d ?_
     refine D.store tOk rfl rfl rfl rfl rfl rfl rfl rfl ?_
     refine WD.nil ?_
     refine AnyZ.one 9 (by kernel_rfl) rfl ?_
     refine OpZ.d ?_
     refine Yy rfl rfl rfl tg ?_
     refine WD.nil ?_
     refine AnyZ.eager 11 rfl (by kernel_rfl) (Eag.pureG tOk zOk rfl rfl (fun _ _ _ => rfl) tg (fun _ => rfl) rfl) ?_
     refine AnyZ.one 12 (by kernel_rfl) rfl ?_
     refine OpZ.d ?_
     refine D.pickOr tOk zOk rfl rfl tg ?_
     refine WD.nil ?_
     refine AnyZ.eager 14 rfl (by kernel_rfl) (Eag.pure tOk zOk rfl (fun _ _ _ => rfl) rfl rfl) ?_
     refine AnyZ.eager 15 rfl (by kernel_rfl) (Eag.pure tOk zOk rfl (fun _ _ _ => rfl) rfl rfl) ?_
     refine AnyZ.nil (by kernel_rfl) ?_
     apply Yn
     apply Yt
     apply Yv
     apply Yu
     exact Yz rfl rfl rfl (by first | (rw [rq_1 (by assumption)]; rfl) | (rw [rq_2 (by assumption)]; rfl) | (rw [rq_3 (by assumption)]; rfl) | (rw [rq_4 (by assumption)]; rfl) | (rw [rq_5 (by assumption) (by assumption) (by assumption) (by assumption) (by assumption)]; rfl) | (rw [rq_6 (by assumption) (by assumption) (by assumption) (by assumption) (by assumption)]; rfl))
    refine OpZ.d ?_
    refine Yy rfl rfl rfl tg ?_
    refine WD.nil ?_
    refine AnyZ.eager 11 rfl (by kernel_rfl) (Eag.pureG tOk zOk rfl rfl (fun _ _ _ => rfl) tg (fun _ => rfl) rfl) ?_
    refine AnyZ.two 0 12 (by kernel_rfl) rfl rfl ?_ ?_
    ·skip
     refine OpZ.d ?_
     refine Ym rfl rfl ?_
     refine WD.nil ?_
     refine AnyZ.eager 1 rfl (by kernel_rfl) (Eag.pure tOk zOk rfl (fun _ _ _ => rfl) rfl rfl) ?_
     refine AnyZ.two 12 13 (by kernel_rfl) rfl rfl ?_ ?_
     ·skip
      refine OpZ.d ?_
      refine D.pickOr tOk zOk rfl rfl tg ?_
      refine WD.nil ?_
      refine AnyZ.one 13 (by kernel_rfl) rfl ?_
      refine OpZ.d ?_
      refine D.store tOk rfl rfl rfl rfl rfl rfl rfl rfl ?_
      refine WD.nil ?_
      refine AnyZ.eager 14 rfl (by kernel_rfl) (Eag.pure tOk zOk rfl (fun _ _ _ => rfl) rfl rfl) ?_
      refine AnyZ.eager 15 rfl (by kernel_rfl) (Eag.pure tOk zOk rfl (fun _ _ _ => rfl) rfl rfl) ?_
      refine AnyZ.nil (by kernel_rfl) ?_
      iterate 4 first|apply Yu|apply Yv|apply Yt|apply Yn
      exact Yz rfl rfl rfl (by first | (rw [rq_1 (by assumption)]; rfl) | (rw [rq_2 (by assumption)]; rfl) | (rw [rq_3 (by assumption)]; rfl) | (rw [rq_4 (by assumption)]; rfl) | (rw [rq_5 (by assumption) (by assumption) (by assumption) (by assumption) (by assumption)]; rfl) | (rw [rq_6 (by assumption) (by assumption) (by assumption) (by assumption) (by assumption)]; rfl))
     refine OpZ.d ?_
     refine D.store tOk rfl rfl rfl rfl rfl rfl rfl rfl ?_
     refine WD.nil ?_
     refine AnyZ.one 12 (by kernel_rfl) rfl ?_
     refine OpZ.d ?_
     refine D.pickOr tOk zOk rfl rfl tg ?_
     refine WD.nil ?_
     refine AnyZ.eager 14 rfl (by kernel_rfl) (Eag.pure tOk zOk rfl (fun _ _ _ => rfl) rfl rfl) ?_
     refine AnyZ.eager 15 rfl (by kernel_rfl) (Eag.pure tOk zOk rfl (fun _ _ _ => rfl) rfl rfl) ?_
     refine AnyZ.nil (by kernel_rfl) ?_
     apply Yn
     apply Yt
     apply Yv
     apply Yu
     exact Yz rfl rfl rfl (by first | (rw [rq_1 (by assumption)]; rfl) | (rw [rq_2 (by assumption)]; rfl) | (rw [rq_3 (by assumption)]; rfl) | (rw [rq_4 (by assumption)]; rfl) | (rw [rq_5 (by assumption) (by assumption) (by assumption) (by assumption) (by assumption)]; rfl) | (rw [rq_6 (by assumption) (by assumption) (by assumption) (by assumption) (by assumption)]; rfl))
    refine OpZ.d ?_
    refine D.pickOr tOk zOk rfl rfl tg ?_
    refine WD.nil ?_
    refine AnyZ.one 0 (by kernel_rfl) rfl ?_
    refine OpZ.d ?_
    refine Ym rfl rfl ?_
    refine WD.nil ?_
    refine AnyZ.eager 1 rfl (by kernel_rfl) (Eag.pure tOk zOk rfl (fun _ _ _ => rfl) rfl rfl) ?_
    refine AnyZ.one 13 (by kernel_rfl) rfl ?_
    refine OpZ.d ?_
    refine D.store tOk rfl rfl rfl rfl rfl rfl rfl rfl ?_
    refine WD.nil ?_
    refine AnyZ.eager 14 rfl (by kernel_rfl) (Eag.pure tOk zOk rfl (fun _ _ _ => rfl) rfl rfl) ?_
    refine AnyZ.eager 15 rfl (by kernel_rfl) (Eag.pure tOk zOk rfl (fun _ _ _ => rfl) rfl rfl) ?_
    refine AnyZ.nil (by kernel_rfl) ?_
    apply Yn
    apply Yt
    apply Yv
    apply Yu
    exact Yz rfl rfl rfl (by first | (rw [rq_1 (by assumption)]; rfl) | (rw [rq_2 (by assumption)]; rfl) | (rw [rq_3 (by assumption)]; rfl) | (rw [rq_4 (by assumption)]; rfl) | (rw [rq_5 (by assumption) (by assumption) (by assumption) (by assumption) (by assumption)]; rfl) | (rw [rq_6 (by assumption) (by assumption) (by assumption) (by assumption) (by assumption)]; rfl))
   refine OpZ.d ?_
   refine Yy rfl rfl rfl tg ?_
   refine WD.nil ?_
   refine AnyZ.two 0 8 (by kernel_rfl) rfl rfl ?_ ?_
   ·skip
    refine OpZ.d ?_
    refine Ym rfl rfl ?_
    refine WD.nil ?_
    refine AnyZ.eager 1 rfl (by kernel_rfl) (Eag.pure tOk zOk rfl (fun _ _ _ => rfl) rfl rfl) ?_
    refine AnyZ.two 8 13 (by kernel_rfl) rfl rfl ?_ ?_
    ·skip
     refine OpZ.d ?_
     refine D.pureEGc tOk zOk rfl rfl rfl tg (fun hg => ok_idx Fl.z (ngt_t hg)) (fun hg => at_idx Fl.z (ngt_t hg)) rfl ?_
     refine WD.nil ?_
     refine AnyZ.two 9 13 (by kernel_rfl) rfl rfl ?_ ?_
     ·skip
      refine OpZ.d ?_
      refine Yy rfl rfl rfl tg ?_
      refine WD.nil ?_
      refine AnyZ.eager 11 rfl (by kernel_rfl) (Eag.pureG tOk zOk rfl rfl (fun _ _ _ => rfl) tg (fun _ => rfl) rfl) ?_
      refine AnyZ.two 12 13 (by kernel_rfl) rfl rfl ?_ ?_
      ·skip
       refine OpZ.d ?_
       refine D.pickOr tOk zOk rfl rfl tg ?_
       refine WD.nil ?_
       refine AnyZ.one 13 (by kernel_rfl) rfl ?_
       refine OpZ.d ?_
       refine D.store tOk rfl rfl rfl rfl rfl rfl rfl rfl ?_
       refine WD.nil ?_
       refine AnyZ.eager 14 rfl (by kernel_rfl) (Eag.pure tOk zOk rfl (fun _ _ _ => rfl) rfl rfl) ?_
       refine AnyZ.eager 15 rfl (by kernel_rfl) (Eag.pure tOk zOk rfl (fun _ _ _ => rfl) rfl rfl) ?_
       refine AnyZ.nil (by kernel_rfl) ?_
       iterate 4 first|apply Yu|apply Yv|apply Yt|apply Yn
       exact Yz rfl rfl rfl (by first | (rw [rq_1 (by assumption)]; rfl) | (rw [rq_2 (by assumption)]; rfl) | (rw [rq_3 (by assumption)]; rfl) | (rw [rq_4 (by assumption)]; rfl) | (rw [rq_5 (by assumption) (by assumption) (by assumption) (by assumption) (by assumption)]; rfl) | (rw [rq_6 (by assumption) (by assumption) (by assumption) (by assumption) (by assumption)]; rfl))
      refine OpZ.d ?_
      refine D.store tOk rfl rfl rfl rfl rfl rfl rfl rfl ?_
      refine WD.nil ?_
      refine AnyZ.one 12 (by kernel_rfl) rfl ?_
      refine OpZ.d ?_
      refine D.pickOr tOk zOk rfl rfl tg ?_
      refine WD.nil ?_
      refine AnyZ.eager 14 rfl (by kernel_rfl) (Eag.pure tOk zOk rfl (fun _ _ _ => rfl) rfl rfl) ?_
      refine AnyZ.eager 15 rfl (by kernel_rfl) (Eag.pure tOk zOk rfl (fun _ _ _ => rfl) rfl rfl) ?_
      refine AnyZ.nil (by kernel_rfl) ?_
      iterate 4 first|apply Yu|apply Yv|apply Yt|apply Yn
      exact Yz rfl rfl rfl (by first | (rw [rq_1 (by assumption)]; rfl) | (rw [rq_2 (by assumption)]; rfl) | (rw [rq_3 (by assumption)]; rfl) | (rw [rq_4 (by assumption)]; rfl) | (rw [rq_5 (by assumption) (by assumption) (by assumption) (by assumption) (by assumption)]; rfl) | (rw [rq_6 (by assumption) (by assumption) (by assumption) (by assumption) (by assumption)]; rfl))
     refine OpZ.d ?_
     refine D.store tOk rfl rfl rfl rfl rfl rfl rfl rfl ?_
     refine WD.nil ?_
     refine AnyZ.one 9 (by kernel_rfl) rfl ?_
     refine OpZ.d ?_
     refine Yy rfl rfl rfl tg ?_
     refine WD.nil ?_
     refine AnyZ.eager 11 rfl (by kernel_rfl) (Eag.pureG tOk zOk rfl rfl (fun _ _ _ => rfl) tg (fun _ => rfl) rfl) ?_
     refine AnyZ.one 12 (by kernel_rfl) rfl ?_
     refine OpZ.d ?_
     refine D.pickOr tOk zOk rfl rfl tg ?_
     refine WD.nil ?_
     refine AnyZ.eager 14 rfl (by kernel_rfl) (Eag.pure tOk zOk rfl (fun _ _ _ => rfl) rfl rfl) ?_
     refine AnyZ.eager 15 rfl (by kernel_rfl) (Eag.pure tOk zOk rfl (fun _ _ _ => rfl) rfl rfl) ?_
     refine AnyZ.nil (by kernel_rfl) ?_
     apply Yn
     apply Yt
     apply Yv
     apply Yu
     exact Yz rfl rfl rfl (by first | (rw [rq_1 (by assumption)]; rfl) | (rw [rq_2 (by assumption)]; rfl) | (rw [rq_3 (by assumption)]; rfl) | (rw [rq_4 (by assumption)]; rfl) | (rw [rq_5 (by assumption) (by assumption) (by assumption) (by assumption) (by assumption)]; rfl) | (rw [rq_6 (by assumption) (by assumption) (by assumption) (by assumption) (by assumption)]; rfl))
    refine OpZ.d ?_
    refine D.store tOk rfl rfl rfl rfl rfl rfl rfl rfl ?_
    refine WD.nil ?_
    refine AnyZ.one 8 (by kernel_rfl) rfl ?_
    refine OpZ.d ?_
    refine D.pureEGc tOk zOk rfl rfl rfl tg (fun hg => ok_idx Fl.z (ngt_t hg)) (fun hg => at_idx Fl.z (ngt_t hg)) rfl ?_
    refine WD.nil ?_
    refine AnyZ.one 9 (by kernel_rfl) rfl ?_
    refine OpZ.d ?_
    refine Yy rfl rfl rfl tg ?_
    refine WD.nil ?_
    refine AnyZ.eager 11 rfl (by kernel_rfl) (Eag.pureG tOk zOk rfl rfl (fun _ _ _ => rfl) tg (fun _ => rfl) rfl) ?_
    refine AnyZ.one 12 (by kernel_rfl) rfl ?_
    refine OpZ.d ?_
    refine D.pickOr tOk zOk rfl rfl tg ?_
    refine WD.nil ?_
    refine AnyZ.eager 14 rfl (by kernel_rfl) (Eag.pure tOk zOk rfl (fun _ _ _ => rfl) rfl rfl) ?_
    refine AnyZ.eager 15 rfl (by kernel_rfl) (Eag.pure tOk zOk rfl (fun _ _ _ => rfl) rfl rfl) ?_
    refine AnyZ.nil (by kernel_rfl) ?_
    apply Yn
    apply Yt
    apply Yv
    apply Yu
    exact Yz rfl rfl rfl (by first | (rw [rq_1 (by assumption)]; rfl) | (rw [rq_2 (by assumption)]; rfl) | (rw [rq_3 (by assumption)]; rfl) | (rw [rq_4 (by assumption)]; rfl) | (rw [rq_5 (by assumption) (by assumption) (by assumption) (by assumption) (by assumption)]; rfl) | (rw [rq_6 (by assumption) (by assumption) (by assumption) (by assumption) (by assumption)]; rfl))
   refine OpZ.d ?_
   refine D.pureEGc tOk zOk rfl rfl rfl tg (fun hg => ok_idx Fl.z (ngt_t hg)) (fun hg => at_idx Fl.z (ngt_t hg)) rfl ?_
   refine WD.nil ?_
   refine AnyZ.two 0 9 (by kernel_rfl) rfl rfl ?_ ?_
   ·skip
    refine OpZ.d ?_
    refine Ym rfl rfl ?_
    refine WD.nil ?_
    refine AnyZ.eager 1 rfl (by kernel_rfl) (Eag.pure tOk zOk rfl (fun _ _ _ => rfl) rfl rfl) ?_
    refine AnyZ.two 9 13 (by kernel_rfl) rfl rfl ?_ ?_
    ·skip
     refine OpZ.d ?_
     refine Yy rfl rfl rfl tg ?_
     refine WD.nil ?_
     refine AnyZ.eager 11 rfl (by kernel_rfl) (Eag.pureG tOk zOk rfl rfl (fun _ _ _ => rfl) tg (fun _ => rfl) rfl) ?_
     refine AnyZ.two 12 13 (by kernel_rfl) rfl rfl ?_ ?_
     ·skip
      refine OpZ.d ?_
      refine D.pickOr tOk zOk rfl rfl tg ?_
      refine WD.nil ?_
      refine AnyZ.one 13 (by kernel_rfl) rfl ?_
      refine OpZ.d ?_
      refine D.store tOk rfl rfl rfl rfl rfl rfl rfl rfl ?_
      refine WD.nil ?_
      refine AnyZ.eager 14 rfl (by kernel_rfl) (Eag.pure tOk zOk rfl (fun _ _ _ => rfl) rfl rfl) ?_
      refine AnyZ.eager 15 rfl (by kernel_rfl) (Eag.pure tOk zOk rfl (fun _ _ _ => rfl) rfl rfl) ?_
      refine AnyZ.nil (by kernel_rfl) ?_
      iterate 4 first|apply Yu|apply Yv|apply Yt|apply Yn
      exact Yz rfl rfl rfl (by first | (rw [rq_1 (by assumption)]; rfl) | (rw [rq_2 (by assumption)]; rfl) | (rw [rq_3 (by assumption)]; rfl) | (rw [rq_4 (by assumption)]; rfl) | (rw [rq_5 (by assumption) (by assumption) (by assumption) (by assumption) (by assumption)]; rfl) | (rw [rq_6 (by assumption) (by assumption) (by assumption) (by assumption) (by assumption)]; rfl))
     refine OpZ.d ?_
     refine D.store tOk rfl rfl rfl rfl rfl rfl rfl rfl ?_
     refine WD.nil ?_
     refine AnyZ.one 12 (by kernel_rfl) rfl ?_
     refine OpZ.d ?_
     refine D.pickOr tOk zOk rfl rfl tg ?_
     refine WD.nil ?_
     refine AnyZ.eager 14 rfl (by kernel_rfl) (Eag.pure tOk zOk rfl (fun _ _ _ => rfl) rfl rfl) ?_
     refine AnyZ.eager 15 rfl (by kernel_rfl) (Eag.pure tOk zOk rfl (fun _ _ _ => rfl) rfl rfl) ?_
     refine AnyZ.nil (by kernel_rfl) ?_
     apply Yn
     apply Yt
     apply Yv
     apply Yu
     exact Yz rfl rfl rfl (by first | (rw [rq_1 (by assumption)]; rfl) | (rw [rq_2 (by assumption)]; rfl) | (rw [rq_3 (by assumption)]; rfl) | (rw [rq_4 (by assumption)]; rfl) | (rw [rq_5 (by assumption) (by assumption) (by assumption) (by assumption) (by assumption)]; rfl) | (rw [rq_6 (by assumption) (by assumption) (by assumption) (by assumption) (by assumption)]; rfl))
    refine OpZ.d ?_
    refine D.store tOk rfl rfl rfl rfl rfl rfl rfl rfl ?_
    refine WD.nil ?_
    refine AnyZ.one 9 (by kernel_rfl) rfl ?_
    refine OpZ.d ?_
    refine Yy rfl rfl rfl tg ?_
    refine WD.nil ?_
    refine AnyZ.eager 11 rfl (by kernel_rfl) (Eag.pureG tOk zOk rfl rfl (fun _ _ _ => rfl) tg (fun _ => rfl) rfl) ?_
    refine AnyZ.one 12 (by kernel_rfl) rfl ?_
    refine OpZ.d ?_
    refine D.pickOr tOk zOk rfl rfl tg ?_
    refine WD.nil ?_
    refine AnyZ.eager 14 rfl (by kernel_rfl) (Eag.pure tOk zOk rfl (fun _ _ _ => rfl) rfl rfl) ?_
    refine AnyZ.eager 15 rfl (by kernel_rfl) (Eag.pure tOk zOk rfl (fun _ _ _ => rfl) rfl rfl) ?_
    refine AnyZ.nil (by kernel_rfl) ?_
    apply Yn
    apply Yt
    apply Yv
    apply Yu
    exact Yz rfl rfl rfl (by first | (rw [rq_1 (by assumption)]; rfl) | (rw [rq_2 (by assumption)]; rfl) | (rw [rq_3 (by assumption)]; rfl) | (rw [rq_4 (by assumption)]; rfl) | (rw [rq_5 (by assumption) (by assumption) (by assumption) (by assumption) (by assumption)]; rfl) | (rw [rq_6 (by assumption) (by assumption) (by assumption) (by assumption) (by assumption)]; rfl))
   refine OpZ.d ?_
   refine Yy rfl rfl rfl tg ?_
   refine WD.nil ?_
   refine AnyZ.eager 11 rfl (by kernel_rfl) (Eag.pureG tOk zOk rfl rfl (fun _ _ _ => rfl) tg (fun _ => rfl) rfl) ?_
   refine AnyZ.two 0 12 (by kernel_rfl) rfl rfl ?_ ?_
   ·skip
    refine OpZ.d ?_
    refine Ym rfl rfl ?_
    refine WD.nil ?_
    refine AnyZ.eager 1 rfl (by kernel_rfl) (Eag.pure tOk zOk rfl (fun _ _ _ => rfl) rfl rfl) ?_
    refine AnyZ.two 12 13 (by kernel_rfl) rfl rfl ?_ ?_
    ·skip
     refine OpZ.d ?_
     refine D.pickOr tOk zOk rfl rfl tg ?_
     refine WD.nil ?_
     refine AnyZ.one 13 (by kernel_rfl) rfl ?_
     refine OpZ.d ?_
     refine D.store tOk rfl rfl rfl rfl rfl rfl rfl rfl ?_
     refine WD.nil ?_
     refine AnyZ.eager 14 rfl (by kernel_rfl) (Eag.pure tOk zOk rfl (fun _ _ _ => rfl) rfl rfl) ?_
     refine AnyZ.eager 15 rfl (by kernel_rfl) (Eag.pure tOk zOk rfl (fun _ _ _ => rfl) rfl rfl) ?_
     refine AnyZ.nil (by kernel_rfl) ?_
     apply Yn
     apply Yt
     apply Yv
     apply Yu
     exact Yz rfl rfl rfl (by first | (rw [rq_1 (by assumption)]; rfl) | (rw [rq_2 (by assumption)]; rfl) | (rw [rq_3 (by assumption)]; rfl) | (rw [rq_4 (by assumption)]; rfl) | (rw [rq_5 (by assumption) (by assumption) (by assumption) (by assumption) (by assumption)]; rfl) | (rw [rq_6 (by assumption) (by assumption) (by assumption) (by assumption) (by assumption)]; rfl))
    refine OpZ.d ?_
    refine D.store tOk rfl rfl rfl rfl rfl rfl rfl rfl ?_
    refine WD.nil ?_
    refine AnyZ.one 12 (by kernel_rfl) rfl ?_
    refine OpZ.d ?_
    refine D.pickOr tOk zOk rfl rfl tg ?_
    refine WD.nil ?_
    refine AnyZ.eager 14 rfl (by kernel_rfl) (Eag.pure tOk zOk rfl (fun _ _ _ => rfl) rfl rfl) ?_
    refine AnyZ.eager 15 rfl (by kernel_rfl) (Eag.pure tOk zOk rfl (fun _ _ _ => rfl) rfl rfl) ?_
    refine AnyZ.nil (by kernel_rfl) ?_
    apply Yn
    apply Yt
    apply Yv
    apply Yu
    exact Yz rfl rfl rfl (by first | (rw [rq_1 (by assumption)]; rfl) | (rw [rq_2 (by assumption)]; rfl) | (rw [rq_3 (by assumption)]; rfl) | (rw [rq_4 (by assumption)]; rfl) | (rw [rq_5 (by assumption) (by assumption) (by assumption) (by assumption) (by assumption)]; rfl) | (rw [rq_6 (by assumption) (by assumption) (by assumption) (by assumption) (by assumption)]; rfl))
   refine OpZ.d ?_
   refine D.pickOr tOk zOk rfl rfl tg ?_
   refine WD.nil ?_
   refine AnyZ.one 0 (by kernel_rfl) rfl ?_
   refine OpZ.d ?_
   refine Ym rfl rfl ?_
   refine WD.nil ?_
   refine AnyZ.eager 1 rfl (by kernel_rfl) (Eag.pure tOk zOk rfl (fun _ _ _ => rfl) rfl rfl) ?_
   refine AnyZ.one 13 (by kernel_rfl) rfl ?_
   refine OpZ.d ?_
   refine D.store tOk rfl rfl rfl rfl rfl rfl rfl rfl ?_
   refine WD.nil ?_
   refine AnyZ.eager 14 rfl (by kernel_rfl) (Eag.pure tOk zOk rfl (fun _ _ _ => rfl) rfl rfl) ?_
   refine AnyZ.eager 15 rfl (by kernel_rfl) (Eag.pure tOk zOk rfl (fun _ _ _ => rfl) rfl rfl) ?_
   refine AnyZ.nil (by kernel_rfl) ?_
   apply Yn
   apply Yt
   apply Yv
   apply Yu
   exact Yz rfl rfl rfl (by first | (rw [rq_1 (by assumption)]; rfl) | (rw [rq_2 (by assumption)]; rfl) | (rw [rq_3 (by assumption)]; rfl) | (rw [rq_4 (by assumption)]; rfl) | (rw [rq_5 (by assumption) (by assumption) (by assumption) (by assumption) (by assumption)]; rfl) | (rw [rq_6 (by assumption) (by assumption) (by assumption) (by assumption) (by assumption)]; rfl))
  refine OpZ.d ?_
  refine Yy rfl rfl rfl tg ?_
  refine WD.nil ?_
  refine AnyZ.two 0 6 (by kernel_rfl) rfl rfl ?_ ?_
  ·skip
   refine OpZ.d ?_
   refine Ym rfl rfl ?_
   refine WD.nil ?_
   refine AnyZ.eager 1 rfl (by kernel_rfl) (Eag.pure tOk zOk rfl (fun _ _ _ => rfl) rfl rfl) ?_
   refine AnyZ.two 6 13 (by kernel_rfl) rfl rfl ?_ ?_
   ·skip
    refine OpZ.d ?_
    refine Yy rfl rfl rfl tg ?_
    refine WD.nil ?_
    refine AnyZ.two 8 13 (by kernel_rfl) rfl rfl ?_ ?_
    ·skip
     refine OpZ.d ?_
     refine D.pureEGc tOk zOk rfl rfl rfl tg (fun hg => ok_idx Fl.z (ngt_t hg)) (fun hg => at_idx Fl.z (ngt_t hg)) rfl ?_
     refine WD.nil ?_
     refine AnyZ.two 9 13 (by kernel_rfl) rfl rfl ?_ ?_
     ·skip
      refine OpZ.d ?_
      refine Yy rfl rfl rfl tg ?_
      refine WD.nil ?_
      refine AnyZ.eager 11 rfl (by kernel_rfl) (Eag.pureG tOk zOk rfl rfl (fun _ _ _ => rfl) tg (fun _ => rfl) rfl) ?_
      refine AnyZ.two 12 13 (by kernel_rfl) rfl rfl ?_ ?_
      ·skip
       refine OpZ.d ?_
       refine D.pickOr tOk zOk rfl rfl tg ?_
       refine WD.nil ?_
       refine AnyZ.one 13 (by kernel_rfl) rfl ?_
       refine OpZ.d ?_
       refine D.store tOk rfl rfl rfl rfl rfl rfl rfl rfl ?_
       refine WD.nil ?_
       refine AnyZ.eager 14 rfl (by kernel_rfl) (Eag.pure tOk zOk rfl (fun _ _ _ => rfl) rfl rfl) ?_
       refine AnyZ.eager 15 rfl (by kernel_rfl) (Eag.pure tOk zOk rfl (fun _ _ _ => rfl) rfl rfl) ?_
       refine AnyZ.nil (by kernel_rfl) ?_
       iterate 4 first|apply Yu|apply Yv|apply Yt|apply Yn
       exact Yz rfl rfl rfl (by first | (rw [rq_1 (by assumption)]; rfl) | (rw [rq_2 (by assumption)]; rfl) | (rw [rq_3 (by assumption)]; rfl) | (rw [rq_4 (by assumption)]; rfl) | (rw [rq_5 (by assumption) (by assumption) (by assumption) (by assumption) (by assumption)]; rfl) | (rw [rq_6 (by assumption) (by assumption) (by assumption) (by assumption) (by assumption)]; rfl))
      refine OpZ.d ?_
      refine D.store tOk rfl rfl rfl rfl rfl rfl rfl rfl ?_
      refine WD.nil ?_
      refine AnyZ.one 12 (by kernel_rfl) rfl ?_
      refine OpZ.d ?_
      refine D.pickOr tOk zOk rfl rfl tg ?_
      refine WD.nil ?_
      refine AnyZ.eager 14 rfl (by kernel_rfl) (Eag.pure tOk zOk rfl (fun _ _ _ => rfl) rfl rfl) ?_
      refine AnyZ.eager 15 rfl (by kernel_rfl) (Eag.pure tOk zOk rfl (fun _ _ _ => rfl) rfl rfl) ?_
      refine AnyZ.nil (by kernel_rfl) ?_
      iterate 4 first|apply Yu|apply Yv|apply Yt|apply Yn
      exact Yz rfl rfl rfl (by first | (rw [rq_1 (by assumption)]; rfl) | (rw [rq_2 (by assumption)]; rfl) | (rw [rq_3 (by assumption)]; rfl) | (rw [rq_4 (by assumption)]; rfl) | (rw [rq_5 (by assumption) (by assumption) (by assumption) (by assumption) (by assumption)]; rfl) | (rw [rq_6 (by assumption) (by assumption) (by assumption) (by assumption) (by assumption)]; rfl))
     refine OpZ.d ?_
     refine D.store tOk rfl rfl rfl rfl rfl rfl rfl rfl ?_
     refine WD.nil ?_
     refine AnyZ.one 9 (by kernel_rfl) rfl ?_
     refine OpZ.d ?_
     refine Yy rfl rfl rfl tg ?_
     refine WD.nil ?_
     refine AnyZ.eager 11 rfl (by kernel_rfl) (Eag.pureG tOk zOk rfl rfl (fun _ _ _ => rfl) tg (fun _ => rfl) rfl) ?_
     refine AnyZ.one 12 (by kernel_rfl) rfl ?_
     refine OpZ.d ?_
     refine D.pickOr tOk zOk rfl rfl tg ?_
     refine WD.nil ?_
     refine AnyZ.eager 14 rfl (by kernel_rfl) (Eag.pure tOk zOk rfl (fun _ _ _ => rfl) rfl rfl) ?_
     refine AnyZ.eager 15 rfl (by kernel_rfl) (Eag.pure tOk zOk rfl (fun _ _ _ => rfl) rfl rfl) ?_
     refine AnyZ.nil (by kernel_rfl) ?_
     apply Yn
     apply Yt
     apply Yv
     apply Yu
     exact Yz rfl rfl rfl (by first | (rw [rq_1 (by assumption)]; rfl) | (rw [rq_2 (by assumption)]; rfl) | (rw [rq_3 (by assumption)]; rfl) | (rw [rq_4 (by assumption)]; rfl) | (rw [rq_5 (by assumption) (by assumption) (by assumption) (by assumption) (by assumption)]; rfl) | (rw [rq_6 (by assumption) (by assumption) (by assumption) (by assumption) (by assumption)]; rfl))
    refine OpZ.d ?_
    refine D.store tOk rfl rfl rfl rfl rfl rfl rfl rfl ?_
    refine WD.nil ?_
    refine AnyZ.one 8 (by kernel_rfl) rfl ?_
    refine OpZ.d ?_
    refine D.pureEGc tOk zOk rfl rfl rfl tg (fun hg => ok_idx Fl.z (ngt_t hg)) (fun hg => at_idx Fl.z (ngt_t hg)) rfl ?_
    refine WD.nil ?_
    refine AnyZ.one 9 (by kernel_rfl) rfl ?_
    refine OpZ.d ?_
    refine Yy rfl rfl rfl tg ?_
    refine WD.nil ?_
    refine AnyZ.eager 11 rfl (by kernel_rfl) (Eag.pureG tOk zOk rfl rfl (fun _ _ _ => rfl) tg (fun _ => rfl) rfl) ?_
    refine AnyZ.one 12 (by kernel_rfl) rfl ?_
    refine OpZ.d ?_
    refine D.pickOr tOk zOk rfl rfl tg ?_
    refine WD.nil ?_
    refine AnyZ.eager 14 rfl (by kernel_rfl) (Eag.pure tOk zOk rfl (fun _ _ _ => rfl) rfl rfl) ?_
    refine AnyZ.eager 15 rfl (by kernel_rfl) (Eag.pure tOk zOk rfl (fun _ _ _ => rfl) rfl rfl) ?_
    refine AnyZ.nil (by kernel_rfl) ?_
    apply Yn
    apply Yt
    apply Yv
    apply Yu
    exact Yz rfl rfl rfl (by first | (rw [rq_1 (by assumption)]; rfl) | (rw [rq_2 (by assumption)]; rfl) | (rw [rq_3 (by assumption)]; rfl) | (rw [rq_4 (by assumption)]; rfl) | (rw [rq_5 (by assumption) (by assumption) (by assumption) (by assumption) (by assumption)]; rfl) | (rw [rq_6 (by assumption) (by assumption) (by assumption) (by assumption) (by assumption)]; rfl))
   refine OpZ.d ?_
   refine D.store tOk rfl rfl rfl rfl rfl rfl rfl rfl ?_
   refine WD.nil ?_
   refine AnyZ.one 6 (by kernel_rfl) rfl ?_
   refine OpZ.d ?_
   refine Yy rfl rfl rfl tg ?_
   refine WD.nil ?_
   refine AnyZ.one 8 (by kernel_rfl) rfl ?_
   refine OpZ.d ?_
   refine D.pureEGc tOk zOk rfl rfl rfl tg (fun hg => ok_idx Fl.z (ngt_t hg)) (fun hg => at_idx Fl.z (ngt_t hg)) rfl ?_
   refine WD.nil ?_
   refine AnyZ.one 9 (by kernel_rfl) rfl ?_
   refine OpZ.d ?_
   refine Yy rfl rfl rfl tg ?_
   refine WD.nil ?_
   refine AnyZ.eager 11 rfl (by kernel_rfl) (Eag.pureG tOk zOk rfl rfl (fun _ _ _ => rfl) tg (fun _ => rfl) rfl) ?_
   refine AnyZ.one 12 (by kernel_rfl) rfl ?_
   refine OpZ.d ?_
   refine D.pickOr tOk zOk rfl rfl tg ?_
   refine WD.nil ?_
   refine AnyZ.eager 14 rfl (by kernel_rfl) (Eag.pure tOk zOk rfl (fun _ _ _ => rfl) rfl rfl) ?_
   refine AnyZ.eager 15 rfl (by kernel_rfl) (Eag.pure tOk zOk rfl (fun _ _ _ => rfl) rfl rfl) ?_
   refine AnyZ.nil (by kernel_rfl) ?_
   apply Yn
   apply Yt
   apply Yv
   apply Yu
   exact Yz rfl rfl rfl (by first | (rw [rq_1 (by assumption)]; rfl) | (rw [rq_2 (by assumption)]; rfl) | (rw [rq_3 (by assumption)]; rfl) | (rw [rq_4 (by assumption)]; rfl) | (rw [rq_5 (by assumption) (by assumption) (by assumption) (by assumption) (by assumption)]; rfl) | (rw [rq_6 (by assumption) (by assumption) (by assumption) (by assumption) (by assumption)]; rfl))
  refine OpZ.d ?_
  refine Yy rfl rfl rfl tg ?_
  refine WD.nil ?_
  refine AnyZ.two 0 8 (by kernel_rfl) rfl rfl ?_ ?_
  ·skip
   refine OpZ.d ?_
   refine Ym rfl rfl ?_
   refine WD.nil ?_
   refine AnyZ.eager 1 rfl (by kernel_rfl) (Eag.pure tOk zOk rfl (fun _ _ _ => rfl) rfl rfl) ?_
   refine AnyZ.two 8 13 (by kernel_rfl) rfl rfl ?_ ?_
   ·skip
    refine OpZ.d ?_
    refine D.pureEGc tOk zOk rfl rfl rfl tg (fun hg => ok_idx Fl.z (ngt_t hg)) (fun hg => at_idx Fl.z (ngt_t hg)) rfl ?_
    refine WD.nil ?_
    refine AnyZ.two 9 13 (by kernel_rfl) rfl rfl ?_ ?_
    ·skip
     refine OpZ.d ?_
     refine Yy rfl rfl rfl tg ?_
     refine WD.nil ?_
     refine AnyZ.eager 11 rfl (by kernel_rfl) (Eag.pureG tOk zOk rfl rfl (fun _ _ _ => rfl) tg (fun _ => rfl) rfl) ?_
     refine AnyZ.two 12 13 (by kernel_rfl) rfl rfl ?_ ?_
     ·skip
      refine OpZ.d ?_
      refine D.pickOr tOk zOk rfl rfl tg ?_
      refine WD.nil ?_
      refine AnyZ.one 13 (by kernel_rfl) rfl ?_
      refine OpZ.d ?_
      refine D.store tOk rfl rfl rfl rfl rfl rfl rfl rfl ?_
      refine WD.nil ?_
      refine AnyZ.eager 14 rfl (by kernel_rfl) (Eag.pure tOk zOk rfl (fun _ _ _ => rfl) rfl rfl) ?_
      refine AnyZ.eager 15 rfl (by kernel_rfl) (Eag.pure tOk zOk rfl (fun _ _ _ => rfl) rfl rfl) ?_
      refine AnyZ.nil (by kernel_rfl) ?_
      iterate 4 first|apply Yu|apply Yv|apply Yt|apply Yn
      exact Yz rfl rfl rfl (by first | (rw [rq_1 (by assumption)]; rfl) | (rw [rq_2 (by assumption)]; rfl) | (rw [rq_3 (by assumption)]; rfl) | (rw [rq_4 (by assumption)]; rfl) | (rw [rq_5 (by assumption) (by assumption) (by assumption) (by assumption) (by assumption)]; rfl) | (rw [rq_6 (by assumption) (by assumption) (by assumption) (by assumption) (by assumption)]; rfl))
     refine OpZ.d ?_
     refine D.store tOk rfl rfl rfl rfl rfl rfl rfl rfl ?_
     refine WD.nil ?_
     refine AnyZ.one 12 (by kernel_rfl) rfl ?_
     refine OpZ.d ?_
     refine D.pickOr tOk zOk rfl rfl tg ?_
     refine WD.nil ?_
     refine AnyZ.eager 14 rfl (by kernel_rfl) (Eag.pure tOk zOk rfl (fun _ _ _ => rfl) rfl rfl) ?_
     refine AnyZ.eager 15 rfl (by kernel_rfl) (Eag.pure tOk zOk rfl (fun _ _ _ => rfl) rfl rfl) ?_
     refine AnyZ.nil (by kernel_rfl) ?_
     apply Yn
     apply Yt
     apply Yv
     apply Yu
     exact Yz rfl rfl rfl (by first | (rw [rq_1 (by assumption)]; rfl) | (rw [rq_2 (by assumption)]; rfl) | (rw [rq_3 (by assumption)]; rfl) | (rw [rq_4 (by assumption)]; rfl) | (rw [rq_5 (by assumption) (by assumption) (by assumption) (by assumption) (by assumption)]; rfl) | (rw [rq_6 (by assumption) (by assumption) (by assumption) (by assumption) (by assumption)]; rfl))
    refine OpZ.d ?_
    refine D.store tOk rfl rfl rfl rfl rfl rfl rfl rfl ?_
    refine WD.nil ?_
    refine AnyZ.one 9 (by kernel_rfl) rfl ?_
    refine OpZ.d ?_
    refine Yy rfl rfl rfl tg ?_
    refine WD.nil ?_
    refine AnyZ.eager 11 rfl (by kernel_rfl) (Eag.pureG tOk zOk rfl rfl (fun _ _ _ => rfl) tg (fun _ => rfl) rfl) ?_
    refine AnyZ.one 12 (by kernel_rfl) rfl ?_
    refine OpZ.d ?_
    refine D.pickOr tOk zOk rfl rfl tg ?_
    refine WD.nil ?_
    refine AnyZ.eager 14 rfl (by kernel_rfl) (Eag.pure tOk zOk rfl (fun _ _ _ => rfl) rfl rfl) ?_
    refine AnyZ.eager 15 rfl (by kernel_rfl) (Eag.pure tOk zOk rfl (fun _ _ _ => rfl) rfl rfl) ?_
    refine AnyZ.nil (by kernel_rfl) ?_
    apply Yn
    apply Yt
    apply Yv
    apply Yu
    exact Yz rfl rfl rfl (by first | (rw [rq_1 (by assumption)]; rfl) | (rw [rq_2 (by assumption)]; rfl) | (rw [rq_3 (by assumption)]; rfl) | (rw [rq_4 (by assumption)]; rfl) | (rw [rq_5 (by assumption) (by assumption) (by assumption) (by assumption) (by assumption)]; rfl) | (rw [rq_6 (by assumption) (by assumption) (by assumption) (by assumption) (by assumption)]; rfl))
   refine OpZ.d ?_
   refine D.store tOk rfl rfl rfl rfl rfl rfl rfl rfl ?_
   refine WD.nil ?_
   refine AnyZ.one 8 (by kernel_rfl) rfl ?_
   refine OpZ.d ?_
   refine D.pureEGc tOk zOk rfl rfl rfl tg (fun hg => ok_idx Fl.z (ngt_t hg)) (fun hg => at_idx Fl.z (ngt_t hg)) rfl ?_
   refine WD.nil ?_
   refine AnyZ.one 9 (by kernel_rfl) rfl ?_
   refine OpZ.d ?_
   refine Yy rfl rfl rfl tg ?_
   refine WD.nil ?_
   refine AnyZ.eager 11 rfl (by kernel_rfl) (Eag.pureG tOk zOk rfl rfl (fun _ _ _ => rfl) tg (fun _ => rfl) rfl) ?_
   refine AnyZ.one 12 (by kernel_rfl) rfl ?_
   refine OpZ.d ?_
   refine D.pickOr tOk zOk rfl rfl tg ?_
   refine WD.nil ?_
   refine AnyZ.eager 14 rfl (by kernel_rfl) (Eag.pure tOk zOk rfl (fun _ _ _ => rfl) rfl rfl) ?_
   refine AnyZ.eager 15 rfl (by kernel_rfl) (Eag.pure tOk zOk rfl (fun _ _ _ => rfl) rfl rfl) ?_
   refine AnyZ.nil (by kernel_rfl) ?_
   apply Yn
   apply Yt
   apply Yv
   apply Yu
   exact Yz rfl rfl rfl (by first | (rw [rq_1 (by assumption)]; rfl) | (rw [rq_2 (by assumption)]; rfl) | (rw [rq_3 (by assumption)]; rfl) | (rw [rq_4 (by assumption)]; rfl) | (rw [rq_5 (by assumption) (by assumption) (by assumption) (by assumption) (by assumption)]; rfl) | (rw [rq_6 (by assumption) (by assumption) (by assumption) (by assumption) (by assumption)]; rfl))
  refine OpZ.d ?_
  refine D.pureEGc tOk zOk rfl rfl rfl tg (fun hg => ok_idx Fl.z (ngt_t hg)) (fun hg => at_idx Fl.z (ngt_t hg)) rfl ?_
  refine WD.nil ?_
  refine AnyZ.two 0 9 (by kernel_rfl) rfl rfl ?_ ?_
  ·skip
   refine OpZ.d ?_
   refine Ym rfl rfl ?_
   refine WD.nil ?_
   refine AnyZ.eager 1 rfl (by kernel_rfl) (Eag.pure tOk zOk rfl (fun _ _ _ => rfl) rfl rfl) ?_
   refine AnyZ.two 9 13 (by kernel_rfl) rfl rfl ?_ ?_
   ·skip
    refine OpZ.d ?_
    refine Yy rfl rfl rfl tg ?_
    refine WD.nil ?_
    refine AnyZ.eager 11 rfl (by kernel_rfl) (Eag.pureG tOk zOk rfl rfl (fun _ _ _ => rfl) tg (fun _ => rfl) rfl) ?_
    refine AnyZ.two 12 13 (by kernel_rfl) rfl rfl ?_ ?_
    ·skip
     refine OpZ.d ?_
     refine D.pickOr tOk zOk rfl rfl tg ?_
     refine WD.nil ?_
     refine AnyZ.one 13 (by kernel_rfl) rfl ?_
     refine OpZ.d ?_
     refine D.store tOk rfl rfl rfl rfl rfl rfl rfl rfl ?_
     refine WD.nil ?_
     refine AnyZ.eager 14 rfl (by kernel_rfl) (Eag.pure tOk zOk rfl (fun _ _ _ => rfl) rfl rfl) ?_
     refine AnyZ.eager 15 rfl (by kernel_rfl) (Eag.pure tOk zOk rfl (fun _ _ _ => rfl) rfl rfl) ?_
     refine AnyZ.nil (by kernel_rfl) ?_
     apply Yn
     apply Yt
     apply Yv
     apply Yu
     exact Yz rfl rfl rfl (by first | (rw [rq_1 (by assumption)]; rfl) | (rw [rq_2 (by assumption)]; rfl) | (rw [rq_3 (by assumption)]; rfl) | (rw [rq_4 (by assumption)]; rfl) | (rw [rq_5 (by assumption) (by assumption) (by assumption) (by assumption) (by assumption)]; rfl) | (rw [rq_6 (by assumption) (by assumption) (by assumption) (by assumption) (by assumption)]; rfl))
    refine OpZ.d ?_
    refine D.store tOk rfl rfl rfl rfl rfl rfl rfl rfl ?_
    refine WD.nil ?_
    refine AnyZ.one 12 (by kernel_rfl) rfl ?_
    refine OpZ.d ?_
    refine D.pickOr tOk zOk rfl rfl tg ?_
    refine WD.nil ?_
    refine AnyZ.eager 14 rfl (by kernel_rfl) (Eag.pure tOk zOk rfl (fun _ _ _ => rfl) rfl rfl) ?_
    refine AnyZ.eager 15 rfl (by kernel_rfl) (Eag.pure tOk zOk rfl (fun _ _ _ => rfl) rfl rfl) ?_
    refine AnyZ.nil (by kernel_rfl) ?_
    apply Yn
    apply Yt
    apply Yv
    apply Yu
    exact Yz rfl rfl rfl (by first | (rw [rq_1 (by assumption)]; rfl) | (rw [rq_2 (by assumption)]; rfl) | (rw [rq_3 (by assumption)]; rfl) | (rw [rq_4 (by assumption)]; rfl) | (rw [rq_5 (by assumption) (by assumption) (by assumption) (by assumption) (by assumption)]; rfl) | (rw [rq_6 (by assumption) (by assumption) (by assumption) (by assumption) (by assumption)]; rfl))
   refine OpZ.d ?_
   refine D.store tOk rfl rfl rfl rfl rfl rfl rfl rfl ?_
   refine WD.nil ?_
   refine AnyZ.one 9 (by kernel_rfl) rfl ?_
   refine OpZ.d ?_
   refine Yy rfl rfl rfl tg ?_
   refine WD.nil ?_
   refine AnyZ.eager 11 rfl (by kernel_rfl) (Eag.pureG tOk zOk rfl rfl (fun _ _ _ => rfl) tg (fun _ => rfl) rfl) ?_
   refine AnyZ.one 12 (by kernel_rfl) rfl ?_
   refine OpZ.d ?_
   refine D.pickOr tOk zOk rfl rfl tg ?_
   refine WD.nil ?_
   refine AnyZ.eager 14 rfl (by kernel_rfl) (Eag.pure tOk zOk rfl (fun _ _ _ => rfl) rfl rfl) ?_
   refine AnyZ.eager 15 rfl (by kernel_rfl) (Eag.pure tOk zOk rfl (fun _ _ _ => rfl) rfl rfl) ?_
   refine AnyZ.nil (by kernel_rfl) ?_
   apply Yn
   apply Yt
   apply Yv
   apply Yu
   exact Yz rfl rfl rfl (by first | (rw [rq_1 (by assumption)]; rfl) | (rw [rq_2 (by assumption)]; rfl) | (rw [rq_3 (by assumption)]; rfl) | (rw [rq_4 (by assumption)]; rfl) | (rw [rq_5 (by assumption) (by assumption) (by assumption) (by assumption) (by assumption)]; rfl) | (rw [rq_6 (by assumption) (by assumption) (by assumption) (by assumption) (by assumption)]; rfl))
  refine OpZ.d ?_
  refine Yy rfl rfl rfl tg ?_
  refine WD.nil ?_
  refine AnyZ.eager 11 rfl (by kernel_rfl) (Eag.pureG tOk zOk rfl rfl (fun _ _ _ => rfl) tg (fun _ => rfl) rfl) ?_
  refine AnyZ.two 0 12 (by kernel_rfl) rfl rfl ?_ ?_
  ·skip
   refine OpZ.d ?_
   refine Ym rfl rfl ?_
   refine WD.nil ?_
   refine AnyZ.eager 1 rfl (by kernel_rfl) (Eag.pure tOk zOk rfl (fun _ _ _ => rfl) rfl rfl) ?_
   refine AnyZ.two 12 13 (by kernel_rfl) rfl rfl ?_ ?_
   ·skip
    refine OpZ.d ?_
    refine D.pickOr tOk zOk rfl rfl tg ?_
    refine WD.nil ?_
    refine AnyZ.one 13 (by kernel_rfl) rfl ?_
    refine OpZ.d ?_
    refine D.store tOk rfl rfl rfl rfl rfl rfl rfl rfl ?_
    refine WD.nil ?_
    refine AnyZ.eager 14 rfl (by kernel_rfl) (Eag.pure tOk zOk rfl (fun _ _ _ => rfl) rfl rfl) ?_
    refine AnyZ.eager 15 rfl (by kernel_rfl) (Eag.pure tOk zOk rfl (fun _ _ _ => rfl) rfl rfl) ?_
    refine AnyZ.nil (by kernel_rfl) ?_
    apply Yn
    apply Yt
    apply Yv
    apply Yu
    exact Yz rfl rfl rfl (by first | (rw [rq_1 (by assumption)]; rfl) | (rw [rq_2 (by assumption)]; rfl) | (rw [rq_3 (by assumption)]; rfl) | (rw [rq_4 (by assumption)]; rfl) | (rw [rq_5 (by assumption) (by assumption) (by assumption) (by assumption) (by assumption)]; rfl) | (rw [rq_6 (by assumption) (by assumption) (by assumption) (by assumption) (by assumption)]; rfl))
   refine OpZ.d ?_
   refine D.store tOk rfl rfl rfl rfl rfl rfl rfl rfl ?_
   refine WD.nil ?_
   refine AnyZ.one 12 (by kernel_rfl) rfl ?_
   refine OpZ.d ?_
   refine D.pickOr tOk zOk rfl rfl tg ?_
   refine WD.nil ?_
   refine AnyZ.eager 14 rfl (by kernel_rfl) (Eag.pure tOk zOk rfl (fun _ _ _ => rfl) rfl rfl) ?_
   refine AnyZ.eager 15 rfl (by kernel_rfl) (Eag.pure tOk zOk rfl (fun _ _ _ => rfl) rfl rfl) ?_
   refine AnyZ.nil (by kernel_rfl) ?_
   apply Yn
   apply Yt
   apply Yv
   apply Yu
   exact Yz rfl rfl rfl (by first | (rw [rq_1 (by assumption)]; rfl) | (rw [rq_2 (by assumption)]; rfl) | (rw [rq_3 (by assumption)]; rfl) | (rw [rq_4 (by assumption)]; rfl) | (rw [rq_5 (by assumption) (by assumption) (by assumption) (by assumption) (by assumption)]; rfl) | (rw [rq_6 (by assumption) (by assumption) (by assumption) (by assumption) (by assumption)]; rfl))
  refine OpZ.d ?_
  refine D.pickOr tOk zOk rfl rfl tg ?_
  refine WD.nil ?_
  refine AnyZ.one 0 (by kernel_rfl) rfl ?_
  refine OpZ.d ?_
  refine Ym rfl rfl ?_
  refine WD.nil ?_
  refine AnyZ.eager 1 rfl (by kernel_rfl) (Eag.pure tOk zOk rfl (fun _ _ _ => rfl) rfl rfl) ?_
  refine AnyZ.one 13 (by kernel_rfl) rfl ?_
  refine OpZ.d ?_
  refine D.store tOk rfl rfl rfl rfl rfl rfl rfl rfl ?_
  refine WD.nil ?_
  refine AnyZ.eager 14 rfl (by kernel_rfl) (Eag.pure tOk zOk rfl (fun _ _ _ => rfl) rfl rfl) ?_
  refine AnyZ.eager 15 rfl (by kernel_rfl) (Eag.pure tOk zOk rfl (fun _ _ _ => rfl) rfl rfl) ?_
  refine AnyZ.nil (by kernel_rfl) ?_
  apply Yn
  apply Yt
  apply Yv
  apply Yu
  exact Yz rfl rfl rfl (by first | (rw [rq_1 (by assumption)]; rfl) | (rw [rq_2 (by assumption)]; rfl) | (rw [rq_3 (by assumption)]; rfl) | (rw [rq_4 (by assumption)]; rfl) | (rw [rq_5 (by assumption) (by assumption) (by assumption) (by assumption) (by assumption)]; rfl) | (rw [rq_6 (by assumption) (by assumption) (by assumption) (by assumption) (by assumption)]; rfl))
 apply Y1
 iterate 2 refine Yp rfl ?_
 apply Yn
 refine W.cond rfl (fun c4=>?_) fun c4=>?_
 ·skip
  iterate 14 first|refine Yp rfl ?_|apply Yu|apply Yv|apply Yt|refine S.store tOk rfl rfl rfl rfl rfl rfl rfl rfl ?_|apply Y1|apply Yn
  exact Yz rfl rfl rfl (by first | (rw [rq_1 (by assumption)]; rfl) | (rw [rq_2 (by assumption)]; rfl) | (rw [rq_3 (by assumption)]; rfl) | (rw [rq_4 (by assumption)]; rfl) | (rw [rq_5 (by assumption) (by assumption) (by assumption) (by assumption) (by assumption)]; rfl) | (rw [rq_6 (by assumption) (by assumption) (by assumption) (by assumption) (by assumption)]; rfl))
 apply Yk
 apply Yw
 apply Y3
 iterate 2 refine Yp rfl ?_
 refine S.makeFunc rfl rfl rfl ?_
 refine S.hcallD rfl rfl rfl rfl ((pc_IndexFuncService 59 [.ptr 1 0] _ _ _ (fun f => f.n == s.n) m.sv (by omega) (fun x hx => (pc_sc2 s x).fd [1] [] [] rfl))) ?_
 iterate 7 first|refine Yp rfl ?_|apply Y1|apply Yn|apply Ys
 refine W.cond rfl (fun c5=>?_) fun c5=>?_
 ·skip
  iterate 8 first|refine Yp rfl ?_|apply Yu|apply Yt|refine S.store tOk rfl rfl rfl rfl rfl rfl rfl rfl ?_|apply Y1|apply Yn
  exact Yz rfl rfl rfl (by first | (rw [rq_1 (by assumption)]; rfl) | (rw [rq_2 (by assumption)]; rfl) | (rw [rq_3 (by assumption)]; rfl) | (rw [rq_4 (by assumption)]; rfl) | (rw [rq_5 (by assumption) (by assumption) (by assumption) (by assumption) (by assumption)]; rfl) | (rw [rq_6 (by assumption) (by assumption) (by assumption) (by assumption) (by assumption)]; rfl))
 apply Yk
 apply Y3
 iterate 3 refine Yp rfl ?_
 refine YE rfl (ok_idx Svc.z (by assumption)) (at_idx Svc.z (by assumption)) rfl ?_
 iterate 27 first|refine Yp rfl ?_|refine S.store tOk rfl rfl rfl rfl rfl rfl rfl rfl ?_|apply Yt|refine S.alloc tOk rfl rfl rfl rfl ?_|apply Y3|apply Yn
 exact Yz rfl rfl rfl (by first | (rw [rq_1 (by assumption)]; rfl) | (rw [rq_2 (by assumption)]; rfl) | (rw [rq_3 (by assumption)]; rfl) | (rw [rq_4 (by assumption)]; rfl) | (rw [rq_5 (by assumption) (by assumption) (by assumption) (by assumption) (by assumption)]; rfl) | (rw [rq_6 (by assumption) (by assumption) (by assumption) (by assumption) (by assumption)]; rfl))
end
section
open Go
open Go.RowKit
attribute [local irreducible] thenK blockK W
attribute [local irreducible] pathB nameB valueB listE flE flO stgO svO dirs clear chkM bigM atK askP chgE fltB doB bnOf macB runB appM appP ordG stpE chgQ refQ doP doA doAllP idxOf
theorem le_dn {e : Int} {x : List Chm × Int} (h : x = ([], e)) : LeV (.tup [.one (.d .nilsl), .one (.d (.int .i64 e))]) (.tup [.one (.d (.vec 10 (x.1.map chmD))), .one (.d (.int .i64 x.2))]) := by
 subst h; exact LeV.tup2 (LeV.nil 10) (LeV.refl _)
theorem le_da {i : Nat} {e : Int} {x : List Chm × Nat × Int} (h : x = ([], i, e)) : LeV (.tup [.one (.d .nilsl), .one (.d (.int .i64 (i : Int))), .one (.d (.int .i64 e))]) (.tup [.one (.d (.vec 10 (x.1.map chmD))), .one (.d (.int .i64 (x.2.1 : Int))), .one (.d (.int .i64 x.2.2))]) := by
 subst h; exact LeV.tup3 (LeV.nil 10) (LeV.refl _) (LeV.refl _)
theorem pc_EqualE (x y : List Chm) (h : x = y) (hl : y.length ≤ 1000000000) : PureCall Tryz.prog J 14 [.one (.d (.vec 10 (x.map chmD))), .one (.d (.vec 10 (y.map chmD)))] (.one (.d (.bool true))) := by
 subst h; exact pc_EqualM x hl
theorem pc_Do (m : Mac) (hm : MacA m) (s : Stq) (hs : StqA s) :
  PureCall Tryz.prog J 13 [.agg [.d (.vec 2 (m.fa.map stgD)), .d (.vec 3 (m.fl.map flD)), .d (.vec 2 (m.se.map stgD)), .d (.vec 4 (m.sv.map svD))], .agg [.d (.int .i64 s.k), .d (.str s.n), .d (.str s.v)]] (.tup [.one (.d (.vec 10 ((doP m s).1.map chmD))), .one (.d (.int .i64 (doP m s).2))]) := by
 have h1 := hs.n
 refine PureCall.of_body tOk (fn := Tryz.f13) Tryz.func13 (by kernel_rfl) rfl (Nat.le_of_ble_eq_true rfl) (fun E => ?_)
 iterate 9 first|refine Yp rfl ?_|refine S.box rfl rfl rfl rfl ?_|apply Y1|apply Ys|apply Yn
 refine S.call rfl rfl rfl rfl rfl (pc_Check m hm) ?_
 iterate 5 first|refine Yp rfl ?_|apply Y3|apply Yn
 refine W.cond rfl (fun c1=>?_) fun c1=>?_
 ·skip
  iterate 7 first|refine Yp rfl ?_|apply Yu|apply Yt|apply Y1|apply Yn
  exact ⟨_, rfl, rfl, le_dn (dp_1 c1)⟩
 apply Yk
 apply Yn
 apply Ys
 apply Y1
 refine Yp rfl ?_
 refine S.call rfl rfl rfl rfl rfl (pc_CheckStep s hs) ?_
 iterate 5 first|refine Yp rfl ?_|apply Y3|apply Yn
 refine W.cond rfl (fun c2=>?_) fun c2=>?_
 ·skip
  iterate 7 first|refine Yp rfl ?_|apply Yu|apply Yt|apply Y1|apply Yn
  exact ⟨_, rfl, rfl, le_dn (dp_2 c1 c2)⟩
 apply Yk
 apply Y3
 iterate 2 refine Yp rfl ?_
 refine S.call rfl rfl rfl rfl rfl (pc_change m hm s hs) ?_
 iterate 18 first|refine S.pickOr tOk zOk rfl rfl tg ?_|refine Yp rfl ?_|refine Yg rfl rfl tg ?_|refine S.store tOk rfl rfl rfl rfl rfl rfl rfl rfl ?_|refine S.alloc tOk rfl rfl rfl rfl ?_|apply Y1|apply Yn|apply Ys
 refine W.cond rfl (fun c3=>?_) fun c3=>?_
 ·skip
  iterate 7 first|refine Yp rfl ?_|apply Yu|apply Yt|apply Y1|apply Yn
  exact ⟨_, rfl, rfl, le_dn (dp_3 c1 c2 c3)⟩
 apply Yk
 apply Y3
 refine Yp rfl ?_
 refine S.slice tOk rfl rfl ?_
 iterate 6 first|refine Yp rfl ?_|apply Y1|apply Ys|apply Yn
 refine S.call rfl rfl rfl rfl rfl (pc_Apply m hm [(chgQ m s).1] (by simp) (fun c hc => by rw [List.mem_singleton] at hc; rw [hc]; exact chg_A (by simpa using c1) (by simpa using c2) h1)) ?_
 iterate 9 first|refine Yp rfl ?_|refine S.store tOk rfl rfl rfl rfl rfl rfl rfl rfl ?_|refine S.alloc tOk rfl rfl rfl rfl ?_|apply Y3
 apply Yn
 refine W.cond rfl (fun c4=>?_) fun c4=>?_
 ·skip
  iterate 7 first|refine Yp rfl ?_|apply Yu|apply Yt|apply Y1|apply Yn
  exact ⟨_, rfl, rfl, le_dn (dp_4 c1 c2 c3 c4)⟩
 apply Yk
 apply Y3
 iterate 3 refine Yp rfl ?_
 apply Yn
 apply Yt
 exact Yz rfl rfl rfl (by rw [dp_5 c1 c2 c3 c4]; rfl)
theorem pc_DoAll (m : Mac) (hm : MacA m) (l : List Stq) (hl : l.length ≤ 2000000) (hs : ∀ s ∈ l, StqA s) :
  PureCall Tryz.prog J 6 [.agg [.d (.vec 2 (m.fa.map stgD)), .d (.vec 3 (m.fl.map flD)), .d (.vec 2 (m.se.map stgD)), .d (.vec 4 (m.sv.map svD))], .one (.d (.vec 3 (l.map stqD)))] (.tup [.one (.d (.vec 10 ((doAllP m l).1.map chmD))), .one (.d (.int .i64 ((doAllP m l).2.1 : Int))), .one (.d (.int .i64 (doAllP m l).2.2))]) := by
 refine PureCall.of_body tOk (fn := Tryz.f6) Tryz.func6 (by kernel_rfl) rfl (Nat.le_of_ble_eq_true rfl) (fun E => ?_)
 iterate 9 first|refine Yp rfl ?_|refine S.box rfl rfl rfl rfl ?_|apply Y1|apply Ys|apply Yn
 refine S.call rfl rfl rfl rfl rfl (pc_Check m hm) ?_
 iterate 5 first|refine Yp rfl ?_|apply Y3|apply Yn
 refine W.cond rfl (fun c1=>?_) fun c1=>?_
 ·skip
  iterate 8 first|refine Yp rfl ?_|apply Yu|apply Yt|apply Y1|apply Yn
  exact ⟨_, rfl, rfl, le_da (i := 0) (dall_1 c1)⟩
 apply Yk
 iterate 9 first|refine Yp rfl ?_|apply Y1|apply Y3|apply Yn|apply Ys
 refine W.newRow 8 10 44 rfl ?_
 apply Yb
 refine W.loop (fun k st => ∃ i : Nat, ∃ o : List Chm, ∃ mm : Mac, ∃ v : Nat, ∃ al : Bool, i ≤ l.length ∧ doA o mm (l.drop i) i = doAllP m l ∧ chkM mm = 0 ∧ o.length ≤ i ∧ k = l.length - i ∧ ∃ t b2 r2 m2, st = ⟨t, [[.d (.vec 2 (mm.fa.map stgD)), .d (.vec 3 (mm.fl.map flD)), .d (.vec 2 (mm.se.map stgD)), .d (.vec 4 (mm.sv.map svD))]] ++ b2, [some ⟨al, v, 10, 44, o.map chmD⟩] ++ r2, [] ++ m2⟩ ∧ holdsL t [(1, .one (.d (.vec 3 (l.map stqD)))), (2, .one (.ptr 0 0)), (8, .one (.row 0 v 0 (o.map chmD).length)), (18, .one (.d (.vec 3 (l.map stqD)))), (19, .one (.d (.int .i64 ((l.map stqD).length : Int)))), (20, .one (.d (.int .i64 (i : Int))))]) (l.length) ⟨0, [], m, _, _, Nat.zero_le _, dall_0 c1, (by simpa using c1), (by simp), rfl, _, _, _, _, rfl, rfl, rfl, rfl, rfl, rfl, rfl, trivial⟩ ?_
 rintro k0 _ ⟨i, o, mm, v, al, f0_0, f0_1, f0_2, f0_3, rfl, t0, bb0, rr0, mm0, rfl, hh0⟩
 refine W.keepR _ _ _ _ _ _ _ hh0 rfl ?_
 apply Y1
 refine Yp rfl ?_
 apply Yn
 apply Ys
 refine W.cond rfl (fun c2=>?_) fun c2=>?_
 ·skip
  have hi := row_lt (by assumption)
  have hsi := hs _ (mem_getD (d := Stq.z) hi)
  have hmm := (chkM_iff.1 f0_2).mac
  apply Yk
  apply Yn
  apply Ys
  apply Yb
  apply Y1
  refine Yp rfl ?_
  refine YE rfl (row_ok hi) (row_at Stq.z hi) rfl ?_
  iterate 7 first|refine Yp rfl ?_|refine S.store tOk rfl rfl rfl rfl rfl rfl rfl rfl ?_|refine S.alloc tOk rfl rfl rfl rfl ?_|apply Y3
  refine S.call rfl rfl rfl rfl rfl (pc_Do mm hmm (l.getD i Stq.z) hsi) ?_
  iterate 11 first|refine Yp rfl ?_|apply Y1|apply Yn|apply Ys
  refine W.cond rfl (fun c3=>?_) fun c3=>?_
  ·skip
   have hz : ((doP mm (l.getD i Stq.z)).2 != 0) = true := (by assumption)
   have hres := f0_1.symm.trans (da_e hi hz)
   iterate 14 first|refine Yp rfl ?_|apply Yu|apply Yv|apply Yt|apply Y1|apply Yn
   exact ⟨_, rfl, rfl, le_da hres⟩
  have hz : ((doP mm (l.getD i Stq.z)).2 != 0) = false := (by assumption)
  apply Yk
  apply Y3
  iterate 2 refine Yp rfl ?_
  refine S.append tOk rfl rfl rfl rfl rfl rfl rfl rfl rfl rfl rfl rfl (by show _ ≤ _; rw [List.length_map, List.length_map]; have := dp_len mm (l.getD i Stq.z); omega) rfl (List.map_append.symm) rfl ?_
  iterate 4 first|refine Yp rfl ?_|apply Y3
  refine S.call rfl rfl rfl rfl rfl (pc_Apply mm hmm (doP mm (l.getD i Stq.z)).1 (by have := dp_len mm (l.getD i Stq.z); omega) (dp_A hsi.n)) ?_
  iterate 9 first|refine Yp rfl ?_|refine S.store tOk rfl rfl rfl rfl rfl rfl rfl rfl ?_|apply Y3|apply Yn
  refine W.cond rfl (fun c4=>?_) fun c4=>?_
  ·skip
   have hy : ((appP mm (doP mm (l.getD i Stq.z)).1).2 != 0) = true := (by assumption)
   have hres := f0_1.symm.trans (da_f hi hz hy)
   iterate 13 first|refine Yp rfl ?_|apply Yu|apply Yv|apply Yt|apply Y1|apply Yn
   exact ⟨_, rfl, rfl, le_da hres⟩
  have hy : ((appP mm (doP mm (l.getD i Stq.z)).1).2 != 0) = false := (by assumption)
  apply Yk
  apply Yw
  apply Y4
  iterate 2 refine Yp rfl ?_
  refine loop_n (l.length - (i + 1)) (by omega) ⟨i + 1, o ++ (doP mm (l.getD i Stq.z)).1, (appP mm (doP mm (l.getD i Stq.z)).1).1, _, _, hi, (da_s hi hz hy).symm.trans f0_1, app_do f0_2 (by simpa using hy), (by rw [List.length_append]; have := dp_len mm (l.getD i Stq.z); omega), rfl, _, _, _, _, rfl, rfl, rfl, rfl, rfl, rfl, inc_i64 (by omega), trivial⟩
 have hi := row_ge (by assumption)
 obtain rfl : i = l.length := by omega
 have hres := f0_1.symm.trans (da_end (Nat.le_refl _))
 apply Yq
 apply Ye
 apply Ye
 apply Yx
 apply Yn
 apply Ys
 refine W.freeze (ri := 0) (q := ⟨_, _, _, _, _⟩) [8] rfl (by intro k hk; simp at hk; subst hk; rfl) ?_
 apply Yr
 iterate 6 refine Yp rfl ?_
 apply Yn
 apply Yt
 exact Yz rfl rfl rfl (by rw [hres]; simp)
theorem pc_outlaw2_StepsMatch (m : Mac) (hm : MacA m) (l : List Stq) (hl : l.length ≤ 2000000) (hs : ∀ s ∈ l, StqA s) :
  PureCall Tryz.prog J 3 [.agg [.d (.vec 2 (m.fa.map stgD)), .d (.vec 3 (m.fl.map flD)), .d (.vec 2 (m.se.map stgD)), .d (.vec 4 (m.sv.map svD))], .one (.d (.vec 3 (l.map stqD)))] (.one (.d (.bool true))) := by
 refine PureCall.of_body tOk (fn := Tryz.f3) Tryz.func3 (by kernel_rfl) rfl (Nat.le_of_ble_eq_true rfl) (fun E => ?_)
 iterate 6 first|refine Yp rfl ?_|refine S.box rfl rfl rfl rfl ?_|apply Y3|apply Y1
 refine S.call rfl rfl rfl rfl rfl (pc_DoAll m hm l hl hs) ?_
 iterate 9 first|refine Yp rfl ?_|apply Y3
 refine S.call rfl rfl rfl rfl rfl (pc_Check m hm) ?_
 refine Yp rfl ?_
 apply Yn
 apply Ys
 apply Y1
 refine S.call rfl rfl rfl rfl rfl (pc_outlaw2_migrates) ?_
 iterate 6 first|refine S.pickOr tOk zOk rfl rfl tg ?_|refine Yg rfl rfl tg ?_|refine Yp rfl ?_|apply Yn
 refine W.cond rfl (fun c1=>?_) fun c1=>?_
 ·skip
  have hc : (chkM m != 0) = true := by simpa using (by assumption : (!true || (chkM m != 0)) = true)
  have hres := dall_1 (l := l) hc
  apply Y1
  refine S.call rfl rfl rfl rfl rfl (pc_outlaw2_migrates) ?_
  iterate 18 first|refine S.pickAnd tOk zOk rfl rfl tg ?_|refine Yg rfl rfl tg ?_|refine Yp rfl ?_|apply Yu|apply Yt|apply Yn
  exact Yz rfl rfl rfl (by rw [hres]; simp)
 have hc : (chkM m != 0) = false := by simpa using (by assumption : (!true || (chkM m != 0)) = false)
 apply Yk
 iterate 9 first|refine Yp rfl ?_|apply Y1|apply Y3|apply Yn|apply Ys
 refine W.newRow 9 10 44 rfl ?_
 apply Yb
 refine W.loop (fun k st => ∃ i : Nat, ∃ o : List Chm, ∃ mm : Mac, ∃ v : Nat, ∃ al : Bool, i ≤ l.length ∧ doA o mm (l.drop i) i = doAllP m l ∧ chkM mm = 0 ∧ o.length ≤ i ∧ k = l.length - i ∧ ∃ t b2 r2 m2, st = ⟨t, [[.d (.vec 2 (mm.fa.map stgD)), .d (.vec 3 (mm.fl.map flD)), .d (.vec 2 (mm.se.map stgD)), .d (.vec 4 (mm.sv.map svD))]] ++ b2, [some ⟨al, v, 10, 44, o.map chmD⟩] ++ r2, [] ++ m2⟩ ∧ holdsL t [(1, .one (.d (.vec 3 (l.map stqD)))), (2, .one (.ptr 0 0)), (5, .one (.d (.vec 10 ((doAllP m l).1.map chmD)))), (6, .one (.d (.int .i64 ((doAllP m l).2.1 : Int)))), (7, .one (.d (.int .i64 (doAllP m l).2.2))), (9, .one (.row 0 v 0 (o.map chmD).length)), (49, .one (.d (.vec 3 (l.map stqD)))), (50, .one (.d (.int .i64 ((l.map stqD).length : Int)))), (51, .one (.d (.int .i64 (i : Int))))]) (l.length) ⟨0, [], m, _, _, Nat.zero_le _, dall_0 hc, (by simpa using hc), (by simp), rfl, _, _, _, _, rfl, rfl, rfl, rfl, rfl, rfl, rfl, rfl, rfl, rfl, trivial⟩ ?_
 rintro k0 _ ⟨i, o, mm, v, al, f0_0, f0_1, f0_2, f0_3, rfl, t0, bb0, rr0, mm0, rfl, hh0⟩
 refine W.keepR _ _ _ _ _ _ _ hh0 rfl ?_
 apply Y1
 refine Yp rfl ?_
 apply Yn
 apply Ys
 refine W.cond rfl (fun c2=>?_) fun c2=>?_
 ·skip
  have hi := row_lt (by assumption)
  have hsi := hs _ (mem_getD (d := Stq.z) hi)
  have hmm := (chkM_iff.1 f0_2).mac
  apply Yk
  apply Yn
  apply Ys
  apply Yb
  apply Y1
  refine Yp rfl ?_
  refine YE rfl (row_ok hi) (row_at Stq.z hi) rfl ?_
  iterate 7 first|refine Yp rfl ?_|refine S.store tOk rfl rfl rfl rfl rfl rfl rfl rfl ?_|refine S.alloc tOk rfl rfl rfl rfl ?_|apply Ys|apply Yn
  refine W.regionD mixed (by kernel_rfl) ?_
  refine Ym rfl rfl ?_
  refine D.call rfl rfl rfl rfl rfl (pc_CheckStep (l.getD i Stq.z) hsi) ?_
  refine Ym rfl rfl ?_
  refine D.call rfl rfl rfl rfl rfl (pc_StepError (l.getD i Stq.z) hsi) ?_
  refine Ym rfl rfl ?_
  apply Yn
  refine W.cond rfl (fun c3=>?_) fun c3=>?_
  ·skip
   exact absurd (by assumption : (stpE (l.getD i Stq.z) != stpE (l.getD i Stq.z)) = true) (by simp)
  apply Yk
  apply Y3
  refine Yp rfl ?_
  refine S.call rfl rfl rfl rfl rfl (pc_StepError (l.getD i Stq.z) hsi) ?_
  iterate 11 first|refine Yp rfl ?_|refine S.alloc tOk rfl rfl rfl rfl ?_|apply Y3|apply Y1|apply Yn|apply Ys
  refine W.cond rfl (fun c4=>?_) fun c4=>?_
  ·skip
   have hst : (stpE (l.getD i Stq.z) == 0) = true := (by assumption)
   apply Yr
   iterate 2 refine Yp rfl ?_
   refine S.call rfl rfl rfl rfl rfl (pc_stepChange mm hmm (l.getD i Stq.z) hsi) ?_
   iterate 20 first|refine S.pickAnd tOk zOk rfl rfl tg ?_|refine Yp rfl ?_|refine S.store tOk rfl rfl rfl rfl rfl rfl rfl rfl ?_|refine Yg rfl rfl tg ?_|refine S.alloc tOk rfl rfl rfl rfl ?_|apply Y1|apply Y3|apply Yn|apply Ys
   refine W.cond rfl (fun c5=>?_) fun c5=>?_
   ·skip
    have hq : ((refQ mm (l.getD i Stq.z)).2.2 == 0 && (refQ mm (l.getD i Stq.z)).2.1) = true := (by assumption)
    apply Yr
    iterate 2 refine Yp rfl ?_
    refine S.slice tOk rfl rfl ?_
    refine S.call rfl rfl rfl rfl rfl (pc_Apply mm hmm [(refQ mm (l.getD i Stq.z)).1] (by simp) (fun c hc => by rw [List.mem_singleton] at hc; rw [hc, ← slw_r f0_2 hst]; exact chg_A f0_2 (by simpa using hst) hsi.n)) ?_
    iterate 8 first|refine Yp rfl ?_|refine S.store tOk rfl rfl rfl rfl rfl rfl rfl rfl ?_|apply Y3
    refine S.call rfl rfl rfl rfl rfl (pc_Do mm hmm (l.getD i Stq.z) hsi) ?_
    iterate 11 first|refine Yp rfl ?_|apply Y1|apply Yn|apply Ys
    refine W.cond rfl (fun c6=>?_) fun c6=>?_
    ·skip
     have hy : ((appP mm [(refQ mm (l.getD i Stq.z)).1]).2 != 0) = true := (by assumption)
     have hd := slw_4 f0_2 hst hq hy
     have hres := da_x hi f0_1 hd hy
     iterate 33 first|refine S.pickAnd tOk zOk rfl rfl tg ?_|refine Yg rfl rfl tg ?_|refine Yp rfl ?_|apply Yu|apply Yv|apply Yt|apply Y1|apply Yn
     exact Yz rfl rfl rfl (by rw [hd, hres]; simp)
    have hy : ((appP mm [(refQ mm (l.getD i Stq.z)).1]).2 != 0) = false := (by assumption)
    have hd := slw_5 f0_2 hst hq hy
    iterate 8 first|refine Yp rfl ?_|apply Yk|apply Y1|apply Y3|apply Yn|apply Ys
    refine W.cond rfl (fun c7=>?_) fun c7=>?_
    ·skip
     skip
     apply Yr
     refine Yp rfl ?_
     refine S.slice tOk rfl rfl ?_
     iterate 4 first|refine Yp rfl ?_|apply Ys|apply Yn
     skip
     iterate 6 first|refine Yp rfl ?_|refine Yg rfl rfl tg ?_|apply Yr
     refine S.callG rfl rfl rfl rfl tg rfl rfl (fun _ => pc_EqualE (doP mm (l.getD i Stq.z)).1 [(refQ mm (l.getD i Stq.z)).1] (by rw [hd]) (by simp)) ?_
     refine Yg rfl rfl tg ?_
     refine S.pickOr tOk zOk rfl rfl tg ?_
     apply Yn
     refine W.cond rfl (fun c8=>?_) fun c8=>?_
     ·skip
      exact absurd (by assumption : ((doP mm (l.getD i Stq.z)).2 != 0 || !true) = true) (by rw [hd]; simp)
     iterate 4 first|refine Yp rfl ?_|apply Yk|apply Y3
     refine S.append tOk rfl rfl rfl rfl rfl rfl rfl rfl rfl rfl rfl rfl (by show _ + 1 ≤ _; rw [List.length_map]; omega) rfl ((List.map_append (l₂ := [(refQ mm (l.getD i Stq.z)).1])).symm) rfl ?_
     iterate 8 first|refine Yp rfl ?_|apply Yw|refine S.store tOk rfl rfl rfl rfl rfl rfl rfl rfl ?_|apply Y4
     refine loop_n (l.length - (i + 1)) (by omega) ⟨i + 1, o ++ [(refQ mm (l.getD i Stq.z)).1], (appP mm [(refQ mm (l.getD i Stq.z)).1]).1, _, _, hi, da_n hi f0_1 hd hy, app_one f0_2 (by simpa using hy), (by rw [List.length_append, List.length_singleton]; omega), rfl, _, _, _, _, rfl, rfl, rfl, rfl, rfl, rfl, rfl, rfl, rfl, inc_i64 (by omega), trivial⟩
    exact absurd hq (by rw [(by assumption : (refQ mm (l.getD i Stq.z)).2.1 = false), Bool.and_false]; decide)
   have hq : ((refQ mm (l.getD i Stq.z)).2.2 == 0 && (refQ mm (l.getD i Stq.z)).2.1) = false := (by assumption)
   have hd := slw_3 f0_2 hst hq
   apply Yk
   apply Y3
   iterate 2 refine Yp rfl ?_
   refine S.call rfl rfl rfl rfl rfl (pc_Do mm hmm (l.getD i Stq.z) hsi) ?_
   iterate 11 first|refine Yp rfl ?_|apply Y1|apply Yn|apply Ys
   refine W.cond rfl (fun c9=>?_) fun c9=>?_
   ·skip
    have hy : ((refQ mm (l.getD i Stq.z)).2.2 != 0) = true := (by assumption)
    have hres := da_x hi f0_1 hd hy
    iterate 33 first|refine S.pickAnd tOk zOk rfl rfl tg ?_|refine Yg rfl rfl tg ?_|refine Yp rfl ?_|apply Yu|apply Yv|apply Yt|apply Y1|apply Yn
    exact Yz rfl rfl rfl (by rw [hd, hres]; simp)
   have hy : ((refQ mm (l.getD i Stq.z)).2.2 != 0) = false := (by assumption)
   have hw0 : (refQ mm (l.getD i Stq.z)).2.2 = 0 := by simpa using hy
   rw [hw0] at hd
   iterate 8 first|refine Yp rfl ?_|apply Yk|apply Y1|apply Y3|apply Yn|apply Ys
   refine W.cond rfl (fun c10=>?_) fun c10=>?_
   ·skip
    exact absurd hq (by rw [hw0, (by assumption : (refQ mm (l.getD i Stq.z)).2.1 = true)]; decide)
   skip
   apply Yk
   apply Yn
   iterate 2 apply Ys
   refine W.asVec 18 10 rfl ?_
   iterate 6 first|refine Yp rfl ?_|refine Yg rfl rfl tg ?_|apply Yr
   refine S.callG rfl rfl rfl rfl tg rfl rfl (fun _ => pc_EqualE (doP mm (l.getD i Stq.z)).1 [] (by rw [hd]) (by simp)) ?_
   refine Yg rfl rfl tg ?_
   refine S.pickOr tOk zOk rfl rfl tg ?_
   apply Yn
   refine W.cond rfl (fun c11=>?_) fun c11=>?_
   ·skip
    exact absurd (by assumption : ((doP mm (l.getD i Stq.z)).2 != 0 || !true) = true) (by rw [hd]; simp)
   apply Yk
   apply Y3
   iterate 2 refine Yp rfl ?_
   refine S.append tOk rfl rfl rfl rfl rfl rfl rfl rfl rfl rfl rfl rfl (by show _ + 0 ≤ _; rw [List.length_map]; omega) rfl (List.append_nil _) rfl ?_
   iterate 8 first|refine Yp rfl ?_|apply Yw|refine S.store tOk rfl rfl rfl rfl rfl rfl rfl rfl ?_|apply Y4
   refine loop_n (l.length - (i + 1)) (by omega) ⟨i + 1, o, mm, _, _, hi, da_n0 hi f0_1 f0_2 hd, f0_2, (by omega), rfl, _, _, _, _, rfl, rfl, rfl, rfl, rfl, rfl, rfl, rfl, rfl, inc_i64 (by omega), trivial⟩
  have hst : (stpE (l.getD i Stq.z) == 0) = false := (by assumption)
  have hd := slw_2 f0_2 hst
  apply Yk
  iterate 13 first|refine S.pickAnd tOk zOk rfl rfl tg ?_|refine Yp rfl ?_|refine Yg rfl rfl tg ?_|refine S.store tOk rfl rfl rfl rfl rfl rfl rfl rfl ?_|refine S.alloc tOk rfl rfl rfl rfl ?_|apply Y1|apply Y3|apply Yn|apply Ys
  refine W.cond rfl (fun c12=>?_) fun c12=>?_
  ·skip
   exact absurd (by assumption : ((stpE (l.getD i Stq.z) == 0) && false) = true) (by simp)
  skip
  apply Yk
  apply Y3
  iterate 2 refine Yp rfl ?_
  refine S.call rfl rfl rfl rfl rfl (pc_Do mm hmm (l.getD i Stq.z) hsi) ?_
  iterate 11 first|refine Yp rfl ?_|apply Y1|apply Yn|apply Ys
  refine W.cond rfl (fun c13=>?_) fun c13=>?_
  ·skip
   have hy : (stpE (l.getD i Stq.z) != 0) = true := (by assumption)
   have hres := da_x hi f0_1 hd hy
   iterate 33 first|refine S.pickAnd tOk zOk rfl rfl tg ?_|refine Yg rfl rfl tg ?_|refine Yp rfl ?_|apply Yu|apply Yv|apply Yt|apply Y1|apply Yn
   exact Yz rfl rfl rfl (by rw [hd, hres]; simp)
  exact absurd (by assumption : (stpE (l.getD i Stq.z) != 0) = false) (by unfold bne; rw [hst]; decide)
 have hi := row_ge (by assumption)
 obtain rfl : i = l.length := by omega
 have hres := f0_1.symm.trans (da_end (Nat.le_refl _))
 apply Yq
 apply Ye
 apply Ye
 apply Yx
 apply Yn
 apply Ys
 refine W.freeze (ri := 0) (q := ⟨_, _, _, _, _⟩) [9] rfl (by intro k hk; simp at hk; subst hk; rfl) ?_
 iterate 12 first|refine S.pickAnd tOk zOk rfl rfl tg ?_|refine Yg rfl rfl tg ?_|refine Yp rfl ?_|apply Yr
 refine S.callG rfl rfl rfl rfl tg rfl rfl (fun _ => pc_EqualE (doAllP m l).1 o (by rw [hres]) (by omega)) ?_
 refine S.pickAnd tOk zOk rfl rfl tg ?_
 refine Yp rfl ?_
 apply Yn
 apply Yt
 exact Yz rfl rfl rfl (by rw [hres]; simp)
end
section
open Go Go.RowKit Go.ChangeShapes
def RDs (w : World) (cs : List Value) (ds : List D) : Prop :=
 cs.length = ds.length ∧ ∀ (i : Nat) (c : Value) (d : D), cs[i]? = some c → ds[i]? = some d → RD (fun b => b < w.heap.size) w d c
theorem RDs.one {w : World} {c : Value} {d : D} (h : RD (fun b => b < w.heap.size) w d c) : RDs w [c] [d] :=
 ⟨rfl, fun i a b h1 h2 => by
  match i with
  | 0 => simp at h1 h2; subst h1; subst h2; exact h
  | i + 1 => simp at h1⟩
theorem RDs.append {w : World} {a b : List Value} {x y : List D} (h1 : RDs w a x) (h2 : RDs w b y) : RDs w (a ++ b) (x ++ y) := by
  refine ⟨by simp [h1.1, h2.1], fun i c d hc hd => ?_⟩
  by_cases hi : i < a.length
  · rw [List.getElem?_append_left hi] at hc
    rw [List.getElem?_append_left (by rw [← h1.1]; exact hi)] at hd
    exact h1.2 i c d hc hd
  · rw [List.getElem?_append_right (by omega)] at hc
    rw [List.getElem?_append_right (by rw [← h1.1]; omega)] at hd
    rw [← h1.1] at hd
    exact h2.2 _ c d hc hd
structure Dec (P : Program) (t : TypeId) (α : Type) where
 ds : α → List D
 wf : Nat → α → Prop
 up : ∀ (m n : Nat) (x : α), m ≤ n → wf m x → wf n x
 lim : Nat → Bool
 wt : α → Nat
 ok : ∀ {H : Type} {enc : TypeId × Value → H} {w : World} {fuel : Nat} {cs : List Value} {d : DataW H} {ps : List MemPlace}, lim fuel = true → DataW.trod enc P w 0 (fun _ => true) true fuel t cs = some (d, ps) →
  ∃ x : α, RDs w cs (ds x) ∧ wf (Rows.uptoBulk d) x ∧ wt x ≤ Rows.uptoBulk d
theorem trod_int {H : Type} {enc : TypeId × Value → H} {P : Program} {w : World} {fuel : Nat} {t : TypeId} {cs : List Value} {x : DataW H × List MemPlace} {k : IntKind} (ht : P.underlying t = some (.int k)) (h : DataW.trod enc P w 0 (fun _ => true) true fuel t cs = some x) :
    ∃ n, cs = [.int k n] ∧ (Lit.int k n).wf = true := by
  cases fuel with
  | zero => simp [DataW.trod] at h
  | succ fuel =>
    unfold DataW.trod at h
    rw [ht] at h
    split at h <;> first
      | (rename_i k1 k2 n he1 he2
         simp only [Option.some.injEq, TypeDesc.int.injEq] at he1
         subst he1
         split at h
         · rename_i hk; exact ⟨n, by rw [hk.1], hk.2⟩
         · cases h)
      | (simp_all; done)
theorem trod_bool' {H : Type} {enc : TypeId × Value → H} {P : Program} {w : World} {fuel : Nat} {t : TypeId} {cs : List Value} {x : DataW H × List MemPlace} (ht : P.underlying t = some .bool) (h : DataW.trod enc P w 0 (fun _ => true) true fuel t cs = some x) :
  ∃ b, cs = [.bool b] := by
 cases fuel with
 | zero => simp [DataW.trod] at h
 | succ fuel =>
  unfold DataW.trod at h
  rw [ht] at h
  split at h <;> first
   | exact ⟨_, rfl⟩
   | (simp_all; done)
theorem trod_str {H : Type} {enc : TypeId × Value → H} {P : Program} {w : World} {fuel : Nat} {t : TypeId} {cs : List Value} {x : DataW H × List MemPlace} (ht : P.underlying t = some .string) (h : DataW.trod enc P w 0 (fun _ => true) true fuel t cs = some x) :
    ∃ s : ByteArray, cs = [.string s] ∧ x.1 = .lit (.string s.data.toList) := by
  cases fuel with
  | zero => simp [DataW.trod] at h
  | succ fuel =>
    unfold DataW.trod at h
    rw [ht] at h
    split at h <;> first
      | (split at h
         · cases h; exact ⟨_, rfl, rfl⟩
         · cases h)
      | (simp_all; done)
def Dec.int {P : Program} {t : TypeId} (k : IntKind) (ht : P.underlying t = some (.int k)) : Dec P t Int where
 ds n := [.int k n]
 wf _ n := (Lit.int k n).wf = true
 up _ _ _ _ h := h
 lim _ := true
 wt _ := 0
 ok _ h := by
  obtain ⟨n, rfl, hw⟩ := trod_int ht h
  exact ⟨n, .one (.int _ _), hw, Nat.zero_le _⟩
def Dec.bool {P : Program} {t : TypeId} (ht : P.underlying t = some .bool) : Dec P t Bool where
 ds n := [.bool n]
 wf _ n := True
 up _ _ _ _ h := h
 lim _ := true
 wt _ := 0
 ok _ h := by
  obtain ⟨n, rfl⟩ := trod_bool' ht h
  exact ⟨n, .one (.bool _), trivial, Nat.zero_le _⟩
def Dec.str {P : Program} {t : TypeId} (ht : P.underlying t = some .string) : Dec P t (List UInt8) where
 ds s := [.str s]
 wf N s := s.length < N
 up _ _ _ h1 h := Nat.lt_of_lt_of_le h h1
 lim _ := true
 wt _ := 0
 ok _ h := by
  obtain ⟨s, rfl, hx⟩ := trod_str ht h
  refine ⟨s.data.toList, .one (.str s.data.toList), ?_, Nat.zero_le _⟩
  simp only at hx
  rw [hx]
  simp [Rows.uptoBulk]
theorem mapM_len {α β : Type} {f : α → Option β} : ∀ {l : List α} {r : List β}, l.mapM f = some r → r.length = l.length
  | [], r, h => by simp at h; subst h; rfl
  | a :: l, r, h => by
    simp only [List.mapM_cons, Option.bind_eq_bind, Option.bind_eq_some_iff, Option.pure_def, Option.some.injEq] at h
    obtain ⟨b, hb, r', hr', rfl⟩ := h
    simp [mapM_len hr']
structure DecF (P : Program) (fs : List Field) (off tot : Nat) (α : Type) where
 ds : α → List D
 wf : Nat → α → Prop
 up : ∀ (m n : Nat) (x : α), m ≤ n → wf m x → wf n x
 lim : Nat → Bool
 wt : α → Nat
 ok : ∀ {H : Type} {enc : TypeId × Value → H} {w : World} {fuel : Nat} {cs : List Value} {xs : List (DataW H × List MemPlace)}, lim fuel = true → cs.length = tot →
  fs.mapM (fun f => DataW.trod enc P w 0 (fun _ => true) true fuel f.type ((cs.drop f.offset).take (P.cellsOf f.type))) = some xs →
  ∃ x : α, RDs w (cs.drop off) (ds x) ∧ wf (Rows.uptoBulkAll (xs.map (·.1))) x ∧ wt x ≤ Rows.uptoBulkAll (xs.map (·.1))
def DecF.nil {P : Program} (tot : Nat) : DecF P [] tot tot Unit where
 ds _ := []
 wf _ _ := True
 up _ _ _ _ h := h
 lim _ := true
 wt _ := 0
 ok _ hl h := ⟨(), ⟨by simp [hl], fun i c d h1 h2 => by simp at h2⟩, trivial, Nat.zero_le _⟩
def DecF.cons {P : Program} {f : Field} {fs : List Field} {off tot n : Nat} {α β : Type} (de : Dec P f.type α) (ho : f.offset = off) (hn : P.cellsOf f.type = n) (r : DecF P fs (off + n) tot β) : DecF P (f :: fs) off tot (α × β) where
 ds x := de.ds x.1 ++ r.ds x.2
 wf N x := de.wf N x.1 ∧ r.wf N x.2
 up m n x h hx := ⟨de.up m n x.1 h hx.1, r.up m n x.2 h hx.2⟩
 lim f := de.lim f && r.lim f
 wt x := de.wt x.1 + r.wt x.2
 ok {H enc w fuel cs xs} hq hl h := by
  have hq := Bool.and_eq_true_iff.1 hq
  simp only [List.mapM_cons, Option.bind_eq_bind, Option.bind_eq_some_iff, Option.pure_def, Option.some.injEq] at h
  obtain ⟨b, hb, r', hr', rfl⟩ := h
  obtain ⟨x, h1, h2, h5⟩ := de.ok (d := b.1) (ps := b.2) hq.1 hb
  obtain ⟨y, h3, h4, h6⟩ := r.ok hq.2 hl hr'
  refine ⟨(x, y), ?_, ⟨de.up _ _ _ ?_ h2, r.up _ _ _ ?_ h4⟩, ?_⟩
  ·skip
   have e : cs.drop off = (cs.drop f.offset).take (P.cellsOf f.type) ++ cs.drop (off + n) := by
    rw [ho, hn, ← List.drop_drop, List.take_append_drop]
   rw [e]; exact h1.append h3
  ·skip
   simp only [List.map_cons, Rows.uptoBulkAll]; omega
  ·skip
   simp only [List.map_cons, Rows.uptoBulkAll]; omega
  ·skip
   simp only [List.map_cons, Rows.uptoBulkAll]; omega
def Dec.struct {P : Program} {t : TypeId} {fs : Array Field} {tot : Nat} {α : Type} (ht : P.underlying t = some (.struct fs)) (hc : P.cellsOf t = tot) (r : DecF P fs.toList 0 tot α) : Dec P t α where
  ds := r.ds
  wf := r.wf
  up := r.up
  lim f := r.lim (f - 1)
  wt x := r.wt x + 1
  ok {H enc w fuel cs d ps} hq h := by
    cases fuel with
    | zero => simp [DataW.trod] at h
    | succ fuel =>
      unfold DataW.trod at h
      rw [ht] at h
      split at h <;> first
        | (rename_i he1
           simp only [Option.some.injEq, TypeDesc.struct.injEq] at he1
           subst he1
           split at h
           · rename_i hl
             simp only [Option.map_eq_some_iff] at h
             obtain ⟨xs, hx, he⟩ := h
             obtain ⟨x, h1, h2, h3⟩ := r.ok hq (hl.trans hc) hx
             cases he
             exact ⟨x, h1, r.up _ _ _ (by simp only [Rows.uptoBulk]; omega) h2, by simp only [Rows.uptoBulk]; omega⟩
           · cases h)
        | (simp_all; done)
def Dec.iso {P : Program} {t : TypeId} {α β : Type} (d : Dec P t α) (f : α → β) (ds : β → List D) (wf : Nat → β → Prop) (up : ∀ (m n : Nat) (x : β), m ≤ n → wf m x → wf n x) (hd : ∀ a, d.ds a = ds (f a)) (hw : ∀ N a, d.wf N a → d.wt a ≤ N → wf N (f a)) (wt : β → Nat := fun _ => 0) (hwt : ∀ a, wt (f a) ≤ d.wt a := by intro _; exact Nat.zero_le _) : Dec P t β where
  ds := ds
  wf := wf
  up := up
  lim := d.lim
  wt := wt
  ok hq h := by
    obtain ⟨x, h1, h2, h3⟩ := d.ok hq h
    exact ⟨f x, hd x ▸ h1, hw _ _ h2 h3, Nat.le_trans (hwt x) h3⟩
theorem choose_list {α : Type} {Q : Nat → α → Prop} : ∀ (n : Nat), (∀ i, i < n → ∃ x, Q i x) → ∃ xs : List α, xs.length = n ∧ ∀ i x, xs[i]? = some x → Q i x
  | 0, _ => ⟨[], rfl, fun i x h => by simp at h⟩
  | n + 1, h => by
    obtain ⟨xs, h1, h2⟩ := choose_list n (fun i hi => h i (by omega))
    obtain ⟨x, hx⟩ := h n (by omega)
    refine ⟨xs ++ [x], by simp [h1], fun i y hy => ?_⟩
    by_cases hi : i < xs.length
    · rw [List.getElem?_append_left hi] at hy; exact h2 i y hy
    · rw [List.getElem?_append_right (by omega)] at hy
      have e : i = n := by
        apply Decidable.byContradiction; intro hne
        rw [List.getElem?_eq_none (by simp; omega)] at hy; cases hy
      subst e
      rw [h1] at hy
      simp at hy; subst hy; exact hx
theorem cells_at {w : World} {a : Addr} {n : Nat} {cs : List Value} (h : w.cells? 0 a n = some cs) : cs.length = n ∧ ∀ j, j < n → w.cell? (a.add j) = cs[j]? := by
 unfold World.cells? at h
 rw [if_pos (Nat.zero_le _)] at h
 have hl := mapM_len h
 simp at hl
 refine ⟨hl, fun j hj => ?_⟩
 obtain ⟨b, h1, h2⟩ := Lib.mapM_at h j j (by simp [hj])
 rw [h1, h2]
theorem spot_none {w : World} {a : Addr} {v : Value} (h : w.cell? a = some v) : a.spot = none := by
 unfold World.cell? at h
 split at h
 ·skip
  split at h
  ·skip
   cases h
  ·skip
   rename_i hs; simpa using hs
 ·skip
  cases h
theorem bulk_mem {H : Type} {x : DataW H} : ∀ {l : List (DataW H)}, x ∈ l → Rows.uptoBulk x ≤ Rows.uptoBulkAll l
  | [], h => by cases h
  | a :: l, h => by
    simp only [Rows.uptoBulkAll]
    rcases List.mem_cons.1 h with rfl | h
    · omega
    · have := bulk_mem h; omega
theorem bulk_pos {H : Type} (d : DataW H) : 1 ≤ Rows.uptoBulk d := by
 cases d with
 | lit l => cases l <;> simp [Rows.uptoBulk]
 | _ => simp [Rows.uptoBulk]
theorem bulk_len {H : Type} : ∀ (l : List (DataW H)), l.length ≤ Rows.uptoBulkAll l
  | [] => by simp
  | a :: l => by
    have h1 := bulk_pos a
    have h2 := bulk_len l
    simp only [Rows.uptoBulkAll, List.length_cons]; omega
theorem bulk_sum {H : Type} {α : Type} {f : α → Nat} : ∀ {xs : List α} {l : List (DataW H)}, xs.length = l.length → (∀ (i : Nat) (x : α) (d : DataW H), xs[i]? = some x → l[i]? = some d → f x ≤ Rows.uptoBulk d) → (xs.map f).sum ≤ Rows.uptoBulkAll l
  | [], l, _, _ => Nat.zero_le _
  | x :: xs, [], h, _ => by simp at h
  | x :: xs, d :: l, h, hx => by
    have h1 := hx 0 x d rfl rfl
    have h2 := bulk_sum (f := f) (xs := xs) (l := l) (by simpa using h) (fun i y e h3 h4 => hx (i + 1) y e h3 h4)
    simp only [List.map_cons, List.sum_cons, Rows.uptoBulkAll]; omega
def Dec.slice {P : Program} {t e : TypeId} {sz : Nat} {α : Type} (ht : P.underlying t = some (.slice e)) (hc : P.cellsOf e = sz) (h0 : 0 < sz) (de : Dec P e α) : Dec P t (List α) where
  ds xs := [.vec sz (xs.map de.ds)]
  wf N xs := xs.length < N ∧ ∀ x ∈ xs, de.wf N x
  up m n xs h hx := ⟨by omega, fun x hm => de.up m n x h (hx.2 x hm)⟩
  lim f := de.lim (f - 1)
  wt xs := (xs.map de.wt).sum
  ok {H enc w fuel cs d ps} hq h := by
    rcases DataW.trod_slice ht h with h1 | ⟨a, len, cap, elems, rest, n, hfu, rfl, hx, hb, hl, hm, hlen, hel, hsp, hns⟩
    · obtain ⟨rfl, h2⟩ := h1
      cases h2
      exact ⟨[], .one (.empty _ _ _), ⟨by simp [Rows.uptoBulk], by simp⟩, Nat.zero_le _⟩
    · have key : ∀ i, i < len → ∃ x, ∃ cs' : List Value, ∃ y, elems[i]? = some y ∧ w.cells? 0 (a.add (i * sz)) sz = some cs' ∧ RDs w cs' (de.ds x) ∧ de.wf (Rows.uptoBulk y.1) x ∧ de.wt x ≤ Rows.uptoBulk y.1 := fun i hi => by
        have h1 := hel i hi
        have h2 : elems[i]? = some (elems[i]'(by omega)) := List.getElem?_eq_getElem _
        rw [h2, hc, Option.bind_eq_some_iff] at h1
        obtain ⟨cs', h3, h4⟩ := h1
        obtain ⟨x, h5, h6, h7⟩ := de.ok (d := (elems[i]'(by omega)).1) (ps := (elems[i]'(by omega)).2) (by have := hq; rw [hfu] at this; exact this) h4
        exact ⟨x, cs', _, h2, h3, h5, h6, h7⟩
      obtain ⟨xs, hxl, hxs⟩ := choose_list len key
      cases hx
      refine ⟨xs, .one ?_, ⟨?_, fun x hx => ?_⟩, ?_⟩
      · by_cases hne : xs = []
        · subst hne
          simp at hxl
          rw [← hxl]
          exact .empty _ _ _
        · have hpos : 0 < len := by
            cases xs with
            | nil => exact absurd rfl hne
            | cons x l => rw [← hxl]; simp
          have hs : a.spot = none := by
            obtain ⟨x, cs', y, _, h3, _⟩ := key 0 hpos
            obtain ⟨h4, h5⟩ := cells_at h3
            have h6 := h5 0 h0
            have h7 : cs'[0]? = some (cs'[0]'(by omega)) := List.getElem?_eq_getElem _
            rw [h7] at h6
            simp only [Addr.add, Nat.zero_mul, if_true] at h6
            exact spot_none h6
          have hadd : ∀ i j, (a.add (i * sz)).add j = ⟨a.block, a.off + i * sz + j, none⟩ := fun i j => by
            cases a with
            | mk b o s =>
              simp only at hs; subst hs
              unfold Addr.add
              by_cases h1 : i * sz = 0 <;> by_cases h2 : j = 0 <;> simp [h1, h2]
          have hat : ∀ (i j : Nat) (x : List D) (d : D), (xs.map de.ds)[i]? = some x → x[j]? = some d → ∃ v, w.cell? ⟨a.block, a.off + i * sz + j, none⟩ = some v ∧ RD (fun b => b < w.heap.size) w d v := fun i j x d h1 h2 => by
            simp only [List.getElem?_map, Option.map_eq_some_iff] at h1
            obtain ⟨x', h1, rfl⟩ := h1
            obtain ⟨cs', y, _, h3, h4, _⟩ := hxs i x' h1
            obtain ⟨h5, h6⟩ := cells_at h3
            have hj : j < sz := by
              have := (List.getElem?_eq_some_iff.1 h2).1
              rw [← h4.1, h5] at this; exact this
            have h7 : cs'[j]? = some (cs'[j]'(by omega)) := List.getElem?_eq_getElem _
            have h8 := h6 j hj
            rw [hadd, h7] at h8
            exact ⟨_, h8, h4.2 j _ d h7 h2⟩
          have hal : a = ⟨a.block, a.off, none⟩ := by cases a; simp only at hs; subst hs; rfl
          have hlen' : len = (xs.map de.ds).length := by simp [hxl]
          rw [hal, hlen']
          refine RD.vec sz (xs.map de.ds) a.block a.off cap (fun i j => (w.cell? ⟨a.block, a.off + i * sz + j, none⟩).getD undef) (by simpa using hne) (by rw [← hlen']; exact hl) ?_ ?_ ?_ ?_
          · obtain ⟨x, cs', y, _, h3, _⟩ := key 0 hpos
            obtain ⟨h4, h5⟩ := cells_at h3
            have h6 := h5 0 h0
            have h7 : cs'[0]? = some (cs'[0]'(by omega)) := List.getElem?_eq_getElem _
            rw [h7, hadd] at h6
            apply Decidable.byContradiction; intro hn
            unfold World.cell? at h6
            rw [Array.getElem?_eq_none (by simp only at hn ⊢; omega)] at h6
            cases h6
          · intro x hx
            simp only [List.mem_map] at hx
            obtain ⟨x', hx', rfl⟩ := hx
            obtain ⟨i, hi⟩ := List.getElem?_of_mem hx'
            obtain ⟨cs', y, _, h3, h4, _⟩ := hxs i x' hi
            rw [← h4.1]; exact (cells_at h3).1
          · intro i j x d h1 h2
            obtain ⟨v, h3, _⟩ := hat i j x d h1 h2
            rw [h3]; rfl
          · intro i j x d h1 h2
            obtain ⟨v, h3, h4⟩ := hat i j x d h1 h2
            simp only [h3, Option.getD_some]; exact h4
      · have h1 := bulk_len (elems.map (·.1))
        simp only [Rows.uptoBulk, List.length_map] at h1 ⊢; omega
      · obtain ⟨i, hi⟩ := List.getElem?_of_mem hx
        obtain ⟨cs', y, h2, _, _, h4, _⟩ := hxs i x hi
        refine de.up _ _ _ ?_ h4
        have := bulk_mem (x := y.1) (l := elems.map (·.1)) (List.mem_map.2 ⟨y, List.mem_of_getElem? h2, rfl⟩)
        simp only [Rows.uptoBulk]; omega
      · have := bulk_sum (f := de.wt) (xs := xs) (l := elems.map (·.1)) (by simp; omega) (fun i x d h1 h2 => by
          obtain ⟨cs', y, h3, _, _, _, h4⟩ := hxs i x h1
          rw [List.getElem?_map, h3] at h2
          cases h2; exact h4)
        simp only [Rows.uptoBulk]; omega
end
end Go.Proofs.YtpelfildfidnbaaGreatDoor
