/- Part 3 of a proof: W41, V29, W42, V50, V51, V52, V53, V40, V41, V54, V55, V20, V60, V80, V61, V62, V63, V64, V65, V66, V67, V81, V85, V89, V88, A61, V92, V68, V69, V86, V17, V87, V93, V106, A69, V107, A45, A46, A47, A48, A49, A50, A51, A52, A53, A54, A55, A56, A57, A58, A59, A60, A66, W121, A65, A70, A71, A72, W122, L8, A73, W123, W124. -/
import Derived.Lib.TrailingZeros
import Derived.Lib.Repeat
import Derived.Lib.ItoaLen
import Derived.Lib.Bytealg
import Derived.Sort.Walk0
import Derived.Lib.Replace
import Derived.Lib.Join
import Derived.Shelf.SortM.Plain
import Derived.Shelf.SortM.SortNone
import Derived.Laws.LoneSync
import Derived.Defers
import Derived.Laws.CopyRow
import Derived.Shelf.Spec.SlicesInsertGrow
import Derived.Test.YtpelfildfidnbaaGreatDoorMCMergesMatch2
set_option linter.unusedVariables false
set_option linter.unusedSimpArgs false
set_option maxRecDepth 100000
set_option maxHeartbeats 4000000
namespace Go.Proofs.YtpelfildfidnbaaGreatDoor
section
open Go
open Go.RowKit
attribute [local irreducible] thenK blockK W
attribute [local irreducible] rangeB rangeR pathB nameB valueB visit visits checkP
theorem part_r {x : Int} {n v : List UInt8} {m : Int} : partP x n v m = if decide (x < 1) || decide (x > 8) then 1
 else if (((!(decide (x ≥ 2) && decide (x ≤ 5)) && !(n == [])) || (!((decide (x ≥ 2) && decide (x ≤ 5)) && x != 4) && !(v == []))) || (!decide (x ≥ 6) && decide (m > 0))) || (x == 6 && m != 1) then 2
 else if !(decide (x ≥ 2) && decide (x ≤ 5)) then 0
 else if !(if (x == 3 || x == 4) then pathB n else nameB n) then 5
 else if !valueB v then 2
 else if x == 5 then (rangeR v).2 else 0 := by rw [← range_eq]; rfl
theorem value_nil : valueB [] = true := by unfold valueB; simp
theorem pc_partError (x : Int) (n v : List UInt8) (xs : List (List D)) (hn : n.length < 4294967000) (hv : v.length < 4294967000) :
  PureCall Tryz.prog J 177 [.agg [.d (.int .i64 x), .d (.str n), .d (.str v), .d (.vec 4 xs)]] (.one (.d (.int .i64 (partP x n v (xs.length : Int))))) := by
 refine PureCall.of_body tOk (fn := Tryz.f177) Tryz.func177 (by kernel_rfl) rfl (Nat.le_of_ble_eq_true rfl) (fun E => ?_)
 iterate 18 first|refine Yp rfl ?_|apply Yb|refine S.box rfl rfl rfl rfl ?_|apply Y1|apply Y3|apply Yn|apply Ys
 refine W.cond rfl (fun c1=>?_) fun c1=>?_
 ·skip
  obtain rfl : x = 1 := by simpa using c1
  apply Yk
  iterate 42 first|refine S.pickOr tOk zOk rfl rfl tg ?_|refine S.pickAndG tOk zOk rfl rfl rfl tg tg ?_|refine S.pickAnd tOk zOk rfl rfl tg ?_|refine Yg rfl rfl tg ?_|refine Yp rfl ?_|apply Yw|apply Y1|apply Yn|apply Ys
  refine W.cond rfl (fun c2=>?_) fun c2=>?_
  ·skip
   apply Y1
   refine Yp rfl ?_
   apply Yn
   apply Yt
   apply Yu
   exact Yz rfl rfl rfl (by clear E; rw [part_r]; first | (simp_all [value_nil]; done) | (simp only [beq_eq_false_iff_ne, ne_eq] at *; rw [if_pos (by simp; omega)]; rfl))
  iterate 18 first|refine S.pickOr tOk zOk rfl rfl tg ?_|refine Yp rfl ?_|refine Yg rfl rfl tg ?_|apply Yk|apply Y1|apply Y3|apply Ys|apply Yn
  refine S.callG rfl rfl rfl rfl tg rfl rfl (fun h => pc_outref2_NameOf n (by omega)) ?_
  iterate 11 first|refine S.pickAndG tOk zOk rfl rfl rfl tg tg ?_|refine S.pickAnd tOk zOk rfl rfl tg ?_|refine Yg rfl rfl tg ?_|refine Yp rfl ?_
  refine S.callG rfl rfl rfl rfl tg rfl rfl (fun h => pc_outref2_PathOf n (by omega)) ?_
  refine Yg rfl rfl tg ?_
  refine S.pickAndG tOk zOk rfl rfl rfl tg tg ?_
  refine S.pickOr tOk zOk rfl rfl tg ?_
  apply Yn
  refine W.cond rfl (fun c3=>?_) fun c3=>?_
  ·skip
   apply Y1
   refine Yp rfl ?_
   apply Yn
   apply Yt
   apply Yu
   exact Yz rfl rfl rfl (by clear E; rw [part_r]; first | (simp_all [value_nil]; done) | (simp only [beq_eq_false_iff_ne, ne_eq] at *; rw [if_pos (by simp; omega)]; rfl))
  iterate 6 first|refine Yp rfl ?_|apply Yk|apply Y1|apply Ys|apply Yn
  refine S.call rfl rfl rfl rfl rfl (pc_outref2_ValueOf v (by omega)) ?_
  refine Yp rfl ?_
  apply Yn
  refine W.cond rfl (fun c4=>?_) fun c4=>?_
  ·skip
   apply Y1
   refine Yp rfl ?_
   apply Yn
   apply Yt
   apply Yu
   exact Yz rfl rfl rfl (by clear E; rw [part_r]; first | (simp_all [value_nil]; done) | (simp only [beq_eq_false_iff_ne, ne_eq] at *; rw [if_pos (by simp; omega)]; rfl))
  iterate 8 first|refine Yp rfl ?_|apply Yk|apply Y1|apply Yn|apply Ys
  refine W.cond rfl (fun c5=>?_) fun c5=>?_
  ·skip
   apply Y1
   iterate 2 refine Yp rfl ?_
   refine S.call rfl rfl rfl rfl rfl (pc_outref2_ReadRange v hv) ?_
   iterate 12 first|refine Yp rfl ?_|apply Yu|apply Yt|refine S.store tOk rfl rfl rfl rfl rfl rfl rfl rfl ?_|refine S.alloc tOk rfl rfl rfl rfl ?_|apply Y3|apply Yn
   exact Yz rfl rfl rfl (by clear E; rw [part_r]; first | (simp_all [value_nil]; done) | (simp only [beq_eq_false_iff_ne, ne_eq] at *; rw [if_pos (by simp; omega)]; rfl))
  apply Yk
  apply Y3
  refine Yp rfl ?_
  apply Yn
  apply Yt
  exact Yz rfl rfl rfl (by clear E; rw [part_r]; first | (simp_all [value_nil]; done) | (simp only [beq_eq_false_iff_ne, ne_eq] at *; rw [if_pos (by simp; omega)]; rfl))
 apply Ys
 apply Y1
 iterate 2 refine Yp rfl ?_
 apply Yn
 refine W.cond rfl (fun c6=>?_) fun c6=>?_
 ·skip
  obtain rfl : x = 2 := by simpa using c6
  apply Yk
  apply Yn
  refine W.cond rfl (fun c7=>?_) fun c7=>?_
  ·skip
   apply Yr
   iterate 44 first|refine S.pickOr tOk zOk rfl rfl tg ?_|refine S.pickAndG tOk zOk rfl rfl rfl tg tg ?_|refine S.pickAnd tOk zOk rfl rfl tg ?_|refine Yg rfl rfl tg ?_|refine Yp rfl ?_|apply Yw|apply Y1|apply Yn|apply Ys
   refine W.cond rfl (fun c8=>?_) fun c8=>?_
   ·skip
    apply Y1
    refine Yp rfl ?_
    apply Yn
    apply Yt
    apply Yu
    exact Yz rfl rfl rfl (by clear E; rw [part_r]; first | (simp_all [value_nil]; done) | (simp only [beq_eq_false_iff_ne, ne_eq] at *; rw [if_pos (by simp; omega)]; rfl))
   iterate 18 first|refine S.pickOr tOk zOk rfl rfl tg ?_|refine Yp rfl ?_|refine Yg rfl rfl tg ?_|apply Yk|apply Y1|apply Y3|apply Ys|apply Yn
   refine S.callG rfl rfl rfl rfl tg rfl rfl (fun h => pc_outref2_NameOf n (by omega)) ?_
   iterate 11 first|refine S.pickAndG tOk zOk rfl rfl rfl tg tg ?_|refine S.pickAnd tOk zOk rfl rfl tg ?_|refine Yg rfl rfl tg ?_|refine Yp rfl ?_
   refine S.callG rfl rfl rfl rfl tg rfl rfl (fun h => pc_outref2_PathOf n (by omega)) ?_
   refine Yg rfl rfl tg ?_
   refine S.pickAndG tOk zOk rfl rfl rfl tg tg ?_
   refine S.pickOr tOk zOk rfl rfl tg ?_
   apply Yn
   refine W.cond rfl (fun c9=>?_) fun c9=>?_
   ·skip
    apply Y1
    refine Yp rfl ?_
    apply Yn
    apply Yt
    apply Yu
    exact Yz rfl rfl rfl (by clear E; rw [part_r]; first | (simp_all [value_nil]; done) | (simp only [beq_eq_false_iff_ne, ne_eq] at *; rw [if_pos (by simp; omega)]; rfl))
   iterate 6 first|refine Yp rfl ?_|apply Yk|apply Y1|apply Ys|apply Yn
   refine S.call rfl rfl rfl rfl rfl (pc_outref2_ValueOf v (by omega)) ?_
   refine Yp rfl ?_
   apply Yn
   refine W.cond rfl (fun c10=>?_) fun c10=>?_
   ·skip
    apply Y1
    refine Yp rfl ?_
    apply Yn
    apply Yt
    apply Yu
    exact Yz rfl rfl rfl (by clear E; rw [part_r]; first | (simp_all [value_nil]; done) | (simp only [beq_eq_false_iff_ne, ne_eq] at *; rw [if_pos (by simp; omega)]; rfl))
   iterate 8 first|refine Yp rfl ?_|apply Yk|apply Y1|apply Yn|apply Ys
   refine W.cond rfl (fun c11=>?_) fun c11=>?_
   ·skip
    apply Y1
    iterate 2 refine Yp rfl ?_
    refine S.call rfl rfl rfl rfl rfl (pc_outref2_ReadRange v hv) ?_
    iterate 12 first|refine Yp rfl ?_|apply Yu|apply Yt|refine S.store tOk rfl rfl rfl rfl rfl rfl rfl rfl ?_|refine S.alloc tOk rfl rfl rfl rfl ?_|apply Y3|apply Yn
    exact Yz rfl rfl rfl (by clear E; rw [part_r]; first | (simp_all [value_nil]; done) | (simp only [beq_eq_false_iff_ne, ne_eq] at *; rw [if_pos (by simp; omega)]; rfl))
   apply Yk
   apply Y3
   refine Yp rfl ?_
   apply Yn
   apply Yt
   exact Yz rfl rfl rfl (by clear E; rw [part_r]; first | (simp_all [value_nil]; done) | (simp only [beq_eq_false_iff_ne, ne_eq] at *; rw [if_pos (by simp; omega)]; rfl))
  exact absurd c7 (by rw [c6]; simp)
 apply Y1
 iterate 2 refine Yp rfl ?_
 apply Yn
 refine W.cond rfl (fun c12=>?_) fun c12=>?_
 ·skip
  obtain rfl : x = 3 := by simpa using c12
  apply Yk
  apply Yn
  refine W.cond rfl (fun c13=>?_) fun c13=>?_
  ·skip
   apply Yr
   iterate 44 first|refine S.pickOr tOk zOk rfl rfl tg ?_|refine S.pickAndG tOk zOk rfl rfl rfl tg tg ?_|refine S.pickAnd tOk zOk rfl rfl tg ?_|refine Yg rfl rfl tg ?_|refine Yp rfl ?_|apply Yw|apply Y1|apply Yn|apply Ys
   refine W.cond rfl (fun c14=>?_) fun c14=>?_
   ·skip
    apply Y1
    refine Yp rfl ?_
    apply Yn
    apply Yt
    apply Yu
    exact Yz rfl rfl rfl (by clear E; rw [part_r]; first | (simp_all [value_nil]; done) | (simp only [beq_eq_false_iff_ne, ne_eq] at *; rw [if_pos (by simp; omega)]; rfl))
   iterate 18 first|refine S.pickOr tOk zOk rfl rfl tg ?_|refine Yp rfl ?_|refine Yg rfl rfl tg ?_|apply Yk|apply Y1|apply Y3|apply Ys|apply Yn
   refine S.callG rfl rfl rfl rfl tg rfl rfl (fun h => pc_outref2_NameOf n (by omega)) ?_
   iterate 11 first|refine S.pickAndG tOk zOk rfl rfl rfl tg tg ?_|refine S.pickAnd tOk zOk rfl rfl tg ?_|refine Yg rfl rfl tg ?_|refine Yp rfl ?_
   refine S.callG rfl rfl rfl rfl tg rfl rfl (fun h => pc_outref2_PathOf n (by omega)) ?_
   refine Yg rfl rfl tg ?_
   refine S.pickAndG tOk zOk rfl rfl rfl tg tg ?_
   refine S.pickOr tOk zOk rfl rfl tg ?_
   apply Yn
   refine W.cond rfl (fun c15=>?_) fun c15=>?_
   ·skip
    apply Y1
    refine Yp rfl ?_
    apply Yn
    apply Yt
    apply Yu
    exact Yz rfl rfl rfl (by clear E; rw [part_r]; first | (simp_all [value_nil]; done) | (simp only [beq_eq_false_iff_ne, ne_eq] at *; rw [if_pos (by simp; omega)]; rfl))
   iterate 6 first|refine Yp rfl ?_|apply Yk|apply Y1|apply Ys|apply Yn
   refine S.call rfl rfl rfl rfl rfl (pc_outref2_ValueOf v (by omega)) ?_
   refine Yp rfl ?_
   apply Yn
   refine W.cond rfl (fun c16=>?_) fun c16=>?_
   ·skip
    apply Y1
    refine Yp rfl ?_
    apply Yn
    apply Yt
    apply Yu
    exact Yz rfl rfl rfl (by clear E; rw [part_r]; first | (simp_all [value_nil]; done) | (simp only [beq_eq_false_iff_ne, ne_eq] at *; rw [if_pos (by simp; omega)]; rfl))
   iterate 8 first|refine Yp rfl ?_|apply Yk|apply Y1|apply Yn|apply Ys
   refine W.cond rfl (fun c17=>?_) fun c17=>?_
   ·skip
    apply Y1
    iterate 2 refine Yp rfl ?_
    refine S.call rfl rfl rfl rfl rfl (pc_outref2_ReadRange v hv) ?_
    iterate 12 first|refine Yp rfl ?_|apply Yu|apply Yt|refine S.store tOk rfl rfl rfl rfl rfl rfl rfl rfl ?_|refine S.alloc tOk rfl rfl rfl rfl ?_|apply Y3|apply Yn
    exact Yz rfl rfl rfl (by clear E; rw [part_r]; first | (simp_all [value_nil]; done) | (simp only [beq_eq_false_iff_ne, ne_eq] at *; rw [if_pos (by simp; omega)]; rfl))
   apply Yk
   apply Y3
   refine Yp rfl ?_
   apply Yn
   apply Yt
   exact Yz rfl rfl rfl (by clear E; rw [part_r]; first | (simp_all [value_nil]; done) | (simp only [beq_eq_false_iff_ne, ne_eq] at *; rw [if_pos (by simp; omega)]; rfl))
  exact absurd c13 (by rw [c12]; simp)
 apply Yr
 iterate 2 refine Yp rfl ?_
 apply Yn
 refine W.cond rfl (fun c18=>?_) fun c18=>?_
 ·skip
  obtain rfl : x = 5 := by simpa using c18
  apply Yr
  iterate 44 first|refine S.pickOr tOk zOk rfl rfl tg ?_|refine S.pickAndG tOk zOk rfl rfl rfl tg tg ?_|refine S.pickAnd tOk zOk rfl rfl tg ?_|refine Yg rfl rfl tg ?_|refine Yp rfl ?_|apply Yw|apply Y1|apply Yn|apply Ys
  refine W.cond rfl (fun c19=>?_) fun c19=>?_
  ·skip
   apply Y1
   refine Yp rfl ?_
   apply Yn
   apply Yt
   apply Yu
   exact Yz rfl rfl rfl (by clear E; rw [part_r]; first | (simp_all [value_nil]; done) | (simp only [beq_eq_false_iff_ne, ne_eq] at *; rw [if_pos (by simp; omega)]; rfl))
  iterate 18 first|refine S.pickOr tOk zOk rfl rfl tg ?_|refine Yp rfl ?_|refine Yg rfl rfl tg ?_|apply Yk|apply Y1|apply Y3|apply Ys|apply Yn
  refine S.callG rfl rfl rfl rfl tg rfl rfl (fun h => pc_outref2_NameOf n (by omega)) ?_
  iterate 11 first|refine S.pickAndG tOk zOk rfl rfl rfl tg tg ?_|refine S.pickAnd tOk zOk rfl rfl tg ?_|refine Yg rfl rfl tg ?_|refine Yp rfl ?_
  refine S.callG rfl rfl rfl rfl tg rfl rfl (fun h => pc_outref2_PathOf n (by omega)) ?_
  refine Yg rfl rfl tg ?_
  refine S.pickAndG tOk zOk rfl rfl rfl tg tg ?_
  refine S.pickOr tOk zOk rfl rfl tg ?_
  apply Yn
  refine W.cond rfl (fun c20=>?_) fun c20=>?_
  ·skip
   apply Y1
   refine Yp rfl ?_
   apply Yn
   apply Yt
   apply Yu
   exact Yz rfl rfl rfl (by clear E; rw [part_r]; first | (simp_all [value_nil]; done) | (simp only [beq_eq_false_iff_ne, ne_eq] at *; rw [if_pos (by simp; omega)]; rfl))
  iterate 6 first|refine Yp rfl ?_|apply Yk|apply Y1|apply Ys|apply Yn
  refine S.call rfl rfl rfl rfl rfl (pc_outref2_ValueOf v (by omega)) ?_
  refine Yp rfl ?_
  apply Yn
  refine W.cond rfl (fun c21=>?_) fun c21=>?_
  ·skip
   apply Y1
   refine Yp rfl ?_
   apply Yn
   apply Yt
   apply Yu
   exact Yz rfl rfl rfl (by clear E; rw [part_r]; first | (simp_all [value_nil]; done) | (simp only [beq_eq_false_iff_ne, ne_eq] at *; rw [if_pos (by simp; omega)]; rfl))
  iterate 8 first|refine Yp rfl ?_|apply Yk|apply Y1|apply Yn|apply Ys
  refine W.cond rfl (fun c22=>?_) fun c22=>?_
  ·skip
   apply Y1
   iterate 2 refine Yp rfl ?_
   refine S.call rfl rfl rfl rfl rfl (pc_outref2_ReadRange v hv) ?_
   iterate 12 first|refine Yp rfl ?_|apply Yu|apply Yt|refine S.store tOk rfl rfl rfl rfl rfl rfl rfl rfl ?_|refine S.alloc tOk rfl rfl rfl rfl ?_|apply Y3|apply Yn
   exact Yz rfl rfl rfl (by clear E; rw [part_r]; first | (simp_all [value_nil]; done) | (simp only [beq_eq_false_iff_ne, ne_eq] at *; rw [if_pos (by simp; omega)]; rfl))
  apply Yk
  apply Y3
  refine Yp rfl ?_
  apply Yn
  apply Yt
  exact Yz rfl rfl rfl (by clear E; rw [part_r]; first | (simp_all [value_nil]; done) | (simp only [beq_eq_false_iff_ne, ne_eq] at *; rw [if_pos (by simp; omega)]; rfl))
 apply Y1
 iterate 2 refine Yp rfl ?_
 apply Yn
 refine W.cond rfl (fun c23=>?_) fun c23=>?_
 ·skip
  obtain rfl : x = 4 := by simpa using c23
  apply Yr
  iterate 43 first|refine S.pickOr tOk zOk rfl rfl tg ?_|refine S.pickAndG tOk zOk rfl rfl rfl tg tg ?_|refine S.pickAnd tOk zOk rfl rfl tg ?_|refine Yg rfl rfl tg ?_|refine Yp rfl ?_|apply Yw|apply Y1|apply Yn|apply Ys
  refine W.cond rfl (fun c24=>?_) fun c24=>?_
  ·skip
   apply Y1
   refine Yp rfl ?_
   apply Yn
   apply Yt
   apply Yu
   exact Yz rfl rfl rfl (by clear E; rw [part_r]; first | (simp_all [value_nil]; done) | (simp only [beq_eq_false_iff_ne, ne_eq] at *; rw [if_pos (by simp; omega)]; rfl))
  iterate 18 first|refine S.pickOr tOk zOk rfl rfl tg ?_|refine Yp rfl ?_|refine Yg rfl rfl tg ?_|apply Yk|apply Y1|apply Y3|apply Ys|apply Yn
  refine S.callG rfl rfl rfl rfl tg rfl rfl (fun h => pc_outref2_NameOf n (by omega)) ?_
  iterate 11 first|refine S.pickAndG tOk zOk rfl rfl rfl tg tg ?_|refine S.pickAnd tOk zOk rfl rfl tg ?_|refine Yg rfl rfl tg ?_|refine Yp rfl ?_
  refine S.callG rfl rfl rfl rfl tg rfl rfl (fun h => pc_outref2_PathOf n (by omega)) ?_
  refine Yg rfl rfl tg ?_
  refine S.pickAndG tOk zOk rfl rfl rfl tg tg ?_
  refine S.pickOr tOk zOk rfl rfl tg ?_
  apply Yn
  refine W.cond rfl (fun c25=>?_) fun c25=>?_
  ·skip
   apply Y1
   refine Yp rfl ?_
   apply Yn
   apply Yt
   apply Yu
   exact Yz rfl rfl rfl (by clear E; rw [part_r]; first | (simp_all [value_nil]; done) | (simp only [beq_eq_false_iff_ne, ne_eq] at *; rw [if_pos (by simp; omega)]; rfl))
  iterate 6 first|refine Yp rfl ?_|apply Yk|apply Y1|apply Ys|apply Yn
  refine S.call rfl rfl rfl rfl rfl (pc_outref2_ValueOf v (by omega)) ?_
  refine Yp rfl ?_
  apply Yn
  refine W.cond rfl (fun c26=>?_) fun c26=>?_
  ·skip
   apply Y1
   refine Yp rfl ?_
   apply Yn
   apply Yt
   apply Yu
   exact Yz rfl rfl rfl (by clear E; rw [part_r]; first | (simp_all [value_nil]; done) | (simp only [beq_eq_false_iff_ne, ne_eq] at *; rw [if_pos (by simp; omega)]; rfl))
  iterate 8 first|refine Yp rfl ?_|apply Yk|apply Y1|apply Yn|apply Ys
  refine W.cond rfl (fun c27=>?_) fun c27=>?_
  ·skip
   apply Y1
   iterate 2 refine Yp rfl ?_
   refine S.call rfl rfl rfl rfl rfl (pc_outref2_ReadRange v hv) ?_
   iterate 12 first|refine Yp rfl ?_|apply Yu|apply Yt|refine S.store tOk rfl rfl rfl rfl rfl rfl rfl rfl ?_|refine S.alloc tOk rfl rfl rfl rfl ?_|apply Y3|apply Yn
   exact Yz rfl rfl rfl (by clear E; rw [part_r]; first | (simp_all [value_nil]; done) | (simp only [beq_eq_false_iff_ne, ne_eq] at *; rw [if_pos (by simp; omega)]; rfl))
  apply Yk
  apply Y3
  refine Yp rfl ?_
  apply Yn
  apply Yt
  exact Yz rfl rfl rfl (by clear E; rw [part_r]; first | (simp_all [value_nil]; done) | (simp only [beq_eq_false_iff_ne, ne_eq] at *; rw [if_pos (by simp; omega)]; rfl))
 apply Ys
 apply Y1
 iterate 2 refine Yp rfl ?_
 apply Yn
 refine W.cond rfl (fun c28=>?_) fun c28=>?_
 ·skip
  obtain rfl : x = 6 := by simpa using c28
  apply Yk
  apply Yn
  refine W.cond rfl (fun c29=>?_) fun c29=>?_
  ·skip
   apply Yr
   iterate 43 first|refine S.pickOr tOk zOk rfl rfl tg ?_|refine S.pickAndG tOk zOk rfl rfl rfl tg tg ?_|refine S.pickAnd tOk zOk rfl rfl tg ?_|refine Yg rfl rfl tg ?_|refine Yp rfl ?_|apply Yw|apply Y1|apply Yn|apply Ys
   refine W.cond rfl (fun c30=>?_) fun c30=>?_
   ·skip
    apply Y1
    refine Yp rfl ?_
    apply Yn
    apply Yt
    apply Yu
    exact Yz rfl rfl rfl (by clear E; rw [part_r]; first | (simp_all [value_nil]; done) | (simp only [beq_eq_false_iff_ne, ne_eq] at *; rw [if_pos (by simp; omega)]; rfl))
   iterate 18 first|refine S.pickOr tOk zOk rfl rfl tg ?_|refine Yp rfl ?_|refine Yg rfl rfl tg ?_|apply Yk|apply Y1|apply Y3|apply Ys|apply Yn
   refine S.callG rfl rfl rfl rfl tg rfl rfl (fun h => pc_outref2_NameOf n (by omega)) ?_
   iterate 11 first|refine S.pickAndG tOk zOk rfl rfl rfl tg tg ?_|refine S.pickAnd tOk zOk rfl rfl tg ?_|refine Yg rfl rfl tg ?_|refine Yp rfl ?_
   refine S.callG rfl rfl rfl rfl tg rfl rfl (fun h => pc_outref2_PathOf n (by omega)) ?_
   refine Yg rfl rfl tg ?_
   refine S.pickAndG tOk zOk rfl rfl rfl tg tg ?_
   refine S.pickOr tOk zOk rfl rfl tg ?_
   apply Yn
   refine W.cond rfl (fun c31=>?_) fun c31=>?_
   ·skip
    apply Y1
    refine Yp rfl ?_
    apply Yn
    apply Yt
    apply Yu
    exact Yz rfl rfl rfl (by clear E; rw [part_r]; first | (simp_all [value_nil]; done) | (simp only [beq_eq_false_iff_ne, ne_eq] at *; rw [if_pos (by simp; omega)]; rfl))
   iterate 6 first|refine Yp rfl ?_|apply Yk|apply Y1|apply Ys|apply Yn
   refine S.call rfl rfl rfl rfl rfl (pc_outref2_ValueOf v (by omega)) ?_
   refine Yp rfl ?_
   apply Yn
   refine W.cond rfl (fun c32=>?_) fun c32=>?_
   ·skip
    apply Y1
    refine Yp rfl ?_
    apply Yn
    apply Yt
    apply Yu
    exact Yz rfl rfl rfl (by clear E; rw [part_r]; first | (simp_all [value_nil]; done) | (simp only [beq_eq_false_iff_ne, ne_eq] at *; rw [if_pos (by simp; omega)]; rfl))
   iterate 8 first|refine Yp rfl ?_|apply Yk|apply Y1|apply Yn|apply Ys
   refine W.cond rfl (fun c33=>?_) fun c33=>?_
   ·skip
    apply Y1
    iterate 2 refine Yp rfl ?_
    refine S.call rfl rfl rfl rfl rfl (pc_outref2_ReadRange v hv) ?_
    iterate 12 first|refine Yp rfl ?_|apply Yu|apply Yt|refine S.store tOk rfl rfl rfl rfl rfl rfl rfl rfl ?_|refine S.alloc tOk rfl rfl rfl rfl ?_|apply Y3|apply Yn
    exact Yz rfl rfl rfl (by clear E; rw [part_r]; first | (simp_all [value_nil]; done) | (simp only [beq_eq_false_iff_ne, ne_eq] at *; rw [if_pos (by simp; omega)]; rfl))
   apply Yk
   apply Y3
   refine Yp rfl ?_
   apply Yn
   apply Yt
   exact Yz rfl rfl rfl (by clear E; rw [part_r]; first | (simp_all [value_nil]; done) | (simp only [beq_eq_false_iff_ne, ne_eq] at *; rw [if_pos (by simp; omega)]; rfl))
  exact absurd c29 (by rw [c28]; simp)
 apply Y1
 iterate 2 refine Yp rfl ?_
 apply Yn
 refine W.cond rfl (fun c34=>?_) fun c34=>?_
 ·skip
  obtain rfl : x = 7 := by simpa using c34
  apply Yk
  apply Yn
  refine W.cond rfl (fun c35=>?_) fun c35=>?_
  ·skip
   apply Yr
   iterate 43 first|refine S.pickOr tOk zOk rfl rfl tg ?_|refine S.pickAndG tOk zOk rfl rfl rfl tg tg ?_|refine S.pickAnd tOk zOk rfl rfl tg ?_|refine Yg rfl rfl tg ?_|refine Yp rfl ?_|apply Yw|apply Y1|apply Yn|apply Ys
   refine W.cond rfl (fun c36=>?_) fun c36=>?_
   ·skip
    apply Y1
    refine Yp rfl ?_
    apply Yn
    apply Yt
    apply Yu
    exact Yz rfl rfl rfl (by clear E; rw [part_r]; first | (simp_all [value_nil]; done) | (simp only [beq_eq_false_iff_ne, ne_eq] at *; rw [if_pos (by simp; omega)]; rfl))
   iterate 18 first|refine S.pickOr tOk zOk rfl rfl tg ?_|refine Yp rfl ?_|refine Yg rfl rfl tg ?_|apply Yk|apply Y1|apply Y3|apply Ys|apply Yn
   refine S.callG rfl rfl rfl rfl tg rfl rfl (fun h => pc_outref2_NameOf n (by omega)) ?_
   iterate 11 first|refine S.pickAndG tOk zOk rfl rfl rfl tg tg ?_|refine S.pickAnd tOk zOk rfl rfl tg ?_|refine Yg rfl rfl tg ?_|refine Yp rfl ?_
   refine S.callG rfl rfl rfl rfl tg rfl rfl (fun h => pc_outref2_PathOf n (by omega)) ?_
   refine Yg rfl rfl tg ?_
   refine S.pickAndG tOk zOk rfl rfl rfl tg tg ?_
   refine S.pickOr tOk zOk rfl rfl tg ?_
   apply Yn
   refine W.cond rfl (fun c37=>?_) fun c37=>?_
   ·skip
    apply Y1
    refine Yp rfl ?_
    apply Yn
    apply Yt
    apply Yu
    exact Yz rfl rfl rfl (by clear E; rw [part_r]; first | (simp_all [value_nil]; done) | (simp only [beq_eq_false_iff_ne, ne_eq] at *; rw [if_pos (by simp; omega)]; rfl))
   iterate 6 first|refine Yp rfl ?_|apply Yk|apply Y1|apply Ys|apply Yn
   refine S.call rfl rfl rfl rfl rfl (pc_outref2_ValueOf v (by omega)) ?_
   refine Yp rfl ?_
   apply Yn
   refine W.cond rfl (fun c38=>?_) fun c38=>?_
   ·skip
    apply Y1
    refine Yp rfl ?_
    apply Yn
    apply Yt
    apply Yu
    exact Yz rfl rfl rfl (by clear E; rw [part_r]; first | (simp_all [value_nil]; done) | (simp only [beq_eq_false_iff_ne, ne_eq] at *; rw [if_pos (by simp; omega)]; rfl))
   iterate 8 first|refine Yp rfl ?_|apply Yk|apply Y1|apply Yn|apply Ys
   refine W.cond rfl (fun c39=>?_) fun c39=>?_
   ·skip
    apply Y1
    iterate 2 refine Yp rfl ?_
    refine S.call rfl rfl rfl rfl rfl (pc_outref2_ReadRange v hv) ?_
    iterate 12 first|refine Yp rfl ?_|apply Yu|apply Yt|refine S.store tOk rfl rfl rfl rfl rfl rfl rfl rfl ?_|refine S.alloc tOk rfl rfl rfl rfl ?_|apply Y3|apply Yn
    exact Yz rfl rfl rfl (by clear E; rw [part_r]; first | (simp_all [value_nil]; done) | (simp only [beq_eq_false_iff_ne, ne_eq] at *; rw [if_pos (by simp; omega)]; rfl))
   apply Yk
   apply Y3
   refine Yp rfl ?_
   apply Yn
   apply Yt
   exact Yz rfl rfl rfl (by clear E; rw [part_r]; first | (simp_all [value_nil]; done) | (simp only [beq_eq_false_iff_ne, ne_eq] at *; rw [if_pos (by simp; omega)]; rfl))
  exact absurd c35 (by rw [c34]; simp)
 apply Yr
 iterate 2 refine Yp rfl ?_
 apply Yn
 refine W.cond rfl (fun c40=>?_) fun c40=>?_
 ·skip
  obtain rfl : x = 8 := by simpa using c40
  apply Yr
  iterate 43 first|refine S.pickOr tOk zOk rfl rfl tg ?_|refine S.pickAndG tOk zOk rfl rfl rfl tg tg ?_|refine S.pickAnd tOk zOk rfl rfl tg ?_|refine Yg rfl rfl tg ?_|refine Yp rfl ?_|apply Yw|apply Y1|apply Yn|apply Ys
  refine W.cond rfl (fun c41=>?_) fun c41=>?_
  ·skip
   apply Y1
   refine Yp rfl ?_
   apply Yn
   apply Yt
   apply Yu
   exact Yz rfl rfl rfl (by clear E; rw [part_r]; first | (simp_all [value_nil]; done) | (simp only [beq_eq_false_iff_ne, ne_eq] at *; rw [if_pos (by simp; omega)]; rfl))
  iterate 18 first|refine S.pickOr tOk zOk rfl rfl tg ?_|refine Yp rfl ?_|refine Yg rfl rfl tg ?_|apply Yk|apply Y1|apply Y3|apply Ys|apply Yn
  refine S.callG rfl rfl rfl rfl tg rfl rfl (fun h => pc_outref2_NameOf n (by omega)) ?_
  iterate 11 first|refine S.pickAndG tOk zOk rfl rfl rfl tg tg ?_|refine S.pickAnd tOk zOk rfl rfl tg ?_|refine Yg rfl rfl tg ?_|refine Yp rfl ?_
  refine S.callG rfl rfl rfl rfl tg rfl rfl (fun h => pc_outref2_PathOf n (by omega)) ?_
  refine Yg rfl rfl tg ?_
  refine S.pickAndG tOk zOk rfl rfl rfl tg tg ?_
  refine S.pickOr tOk zOk rfl rfl tg ?_
  apply Yn
  refine W.cond rfl (fun c42=>?_) fun c42=>?_
  ·skip
   apply Y1
   refine Yp rfl ?_
   apply Yn
   apply Yt
   apply Yu
   exact Yz rfl rfl rfl (by clear E; rw [part_r]; first | (simp_all [value_nil]; done) | (simp only [beq_eq_false_iff_ne, ne_eq] at *; rw [if_pos (by simp; omega)]; rfl))
  iterate 6 first|refine Yp rfl ?_|apply Yk|apply Y1|apply Ys|apply Yn
  refine S.call rfl rfl rfl rfl rfl (pc_outref2_ValueOf v (by omega)) ?_
  refine Yp rfl ?_
  apply Yn
  refine W.cond rfl (fun c43=>?_) fun c43=>?_
  ·skip
   apply Y1
   refine Yp rfl ?_
   apply Yn
   apply Yt
   apply Yu
   exact Yz rfl rfl rfl (by clear E; rw [part_r]; first | (simp_all [value_nil]; done) | (simp only [beq_eq_false_iff_ne, ne_eq] at *; rw [if_pos (by simp; omega)]; rfl))
  iterate 8 first|refine Yp rfl ?_|apply Yk|apply Y1|apply Yn|apply Ys
  refine W.cond rfl (fun c44=>?_) fun c44=>?_
  ·skip
   apply Y1
   iterate 2 refine Yp rfl ?_
   refine S.call rfl rfl rfl rfl rfl (pc_outref2_ReadRange v hv) ?_
   iterate 12 first|refine Yp rfl ?_|apply Yu|apply Yt|refine S.store tOk rfl rfl rfl rfl rfl rfl rfl rfl ?_|refine S.alloc tOk rfl rfl rfl rfl ?_|apply Y3|apply Yn
   exact Yz rfl rfl rfl (by clear E; rw [part_r]; first | (simp_all [value_nil]; done) | (simp only [beq_eq_false_iff_ne, ne_eq] at *; rw [if_pos (by simp; omega)]; rfl))
  apply Yk
  apply Y3
  refine Yp rfl ?_
  apply Yn
  apply Yt
  exact Yz rfl rfl rfl (by clear E; rw [part_r]; first | (simp_all [value_nil]; done) | (simp only [beq_eq_false_iff_ne, ne_eq] at *; rw [if_pos (by simp; omega)]; rfl))
 apply Y1
 refine Yp rfl ?_
 apply Yn
 apply Yt
 apply Yv
 apply Yu
 exact Yz rfl rfl rfl (by clear E; rw [part_r]; first | (simp_all [value_nil]; done) | (simp only [beq_eq_false_iff_ne, ne_eq] at *; rw [if_pos (by simp; omega)]; rfl))
end
section
open Go
theorem visits_true {S : Type} {g : CT → S → Bool × S} : ∀ {l : List CT} {s : S}, (∀ c ∈ l, ∀ s, (g c s).1 = true) → (visits g l s).1 = true
  | [], s, h => rfl
  | c :: l, s, h => by
    unfold visits
    rw [if_pos (h c List.mem_cons_self s)]
    exact visits_true fun a ha => h a (List.mem_cons_of_mem _ ha)
theorem visit_true {S : Type} {f : CT → Int → S → Bool × S} (h : ∀ c lv s, (f c lv s).1 = true) : ∀ (n : Nat) (c : CT) (lv : Int) (s : S), c.w ≤ n → (visit f c lv s).1 = true
  | 0, c, lv, s, hn => by have := c.pos; omega
  | n + 1, c, lv, s, hn => by
    rw [visit_go (h c lv s)]
    exact visits_true fun a ha s => visit_true h n a (up1 lv) s (by have := CT.sz ha; omega)
def maxI (a b : Int) : Int := if a < b then b else a
def ce1 (c : CT) (lv : Int) (s : Int × Int) : Bool × (Int × Int) := (true, (up1 s.1, maxI s.2 lv))
def ce2 (c : CT) (lv : Int) (s : Int) : Bool × Int := (true, if s == 0 then c.part else s)
theorem ce1_t (c : CT) (lv : Int) (s : Int × Int) : (visit ce1 c lv s).1 = true := visit_true (fun _ _ _ => rfl) c.w c lv s (Nat.le_refl _)
theorem ce2_t (c : CT) (lv : Int) (s : Int) : (visit ce2 c lv s).1 = true := visit_true (fun _ _ _ => rfl) c.w c lv s (Nat.le_refl _)
def errR (c : CT) : Int :=
 if decide ((visit ce1 c 0 (0, 0)).2.1 > 100) then 4
 else firstB (visit ce2 c 0 0).2 (if decide ((visit ce1 c 0 (0, 0)).2.2 > 20) then 4 else 0)
end
section
open Go
open Go.RowKit
attribute [local irreducible] thenK blockK W
attribute [local irreducible] rangeB rangeR pathB nameB valueB visit visits checkP
theorem pc_ce1 (x : Int) (n v : List UInt8) (xs : List (List D)) (lv p d : Int) :
  HCall Tryz.prog J 175 ([.agg [.d (.int .i64 x), .d (.str n), .d (.str v), .d (.vec 4 xs)], .one (.d (.int .i64 lv)), .one (.ptr 0 0), .one (.ptr 1 0)]) ([[.d (.int .i64 p)], [.d (.int .i64 d)]]) ([]) ([]) (isH (.tup []) ([[.d (.int .i64 (up1 p))], [.d (.int .i64 (maxI d lv))]]) ([]) ([])) := by
 refine HCall.ofD tOk ⟨2, 0, 0⟩ (fn := Tryz.f175) Tryz.func175 (by kernel_rfl) rfl (Nat.le_of_ble_eq_true rfl) (fun E => ?_)
 iterate 11 first|refine Yp rfl ?_|refine S.store tOk rfl rfl rfl rfl rfl rfl rfl rfl ?_|refine S.box rfl rfl rfl rfl ?_|apply Y4|apply Y3|apply Y1
 exact ⟨_, rfl, rfl, LeG.refl _, rfl, rfl, rfl⟩
theorem pc_ce2 (x : Int) (n v : List UInt8) (xs : List (List D)) (hn : n.length < 4294967000) (hv : v.length < 4294967000) (lv e : Int) :
  HCall Tryz.prog J 176 ([.agg [.d (.int .i64 x), .d (.str n), .d (.str v), .d (.vec 4 xs)], .one (.d (.int .i64 lv)), .one (.ptr 0 0)]) ([[.d (.int .i64 e)]]) ([]) ([]) (isH (.tup []) ([[.d (.int .i64 (if e == 0 then partP x n v (xs.length : Int) else e))]]) ([]) ([])) := by
 refine HCall.ofD tOk ⟨1, 0, 0⟩ (fn := Tryz.f176) Tryz.func176 (by kernel_rfl) rfl (Nat.le_of_ble_eq_true rfl) (fun E => ?_)
 apply Y1
 refine S.box rfl rfl rfl rfl ?_
 apply Y3
 iterate 2 refine Yp rfl ?_
 apply Yn
 refine W.cond rfl (fun c1=>?_) fun c1=>?_
 ·skip
  apply Yr
  refine Yp rfl ?_
  refine S.call rfl rfl rfl rfl rfl (pc_partError x n v xs hn hv) ?_
  refine S.store tOk rfl rfl rfl rfl rfl rfl rfl rfl ?_
  exact ⟨_, rfl, rfl, LeG.refl _, (by rw [if_pos c1]; rfl), rfl, rfl⟩
 apply Yk
 exact ⟨_, rfl, rfl, LeG.refl _, (by rw [if_neg (Bool.eq_false_iff.1 c1)]; rfl), rfl, rfl⟩
theorem pc_parts1s (c : CT) (lv : Int) (p : Int) (d : Int) (hc : CtBig c) (ih : ∀ a ∈ c.l, ∀ (lv  : Int) (p : Int) (d : Int), CtBig a → HCall Tryz.prog J 174 [ctV a, .one (.d (.int .i64 lv)), .one (.clo 175 [.ptr 0 0, .ptr 1 0])] [[.d (.int .i64 p)], [.d (.int .i64 d)]] [] [] (isH (.tup []) [[.d (.int .i64 (visit ce1 a lv (p, d)).2.1)], [.d (.int .i64 (visit ce1 a lv (p, d)).2.2)]] [] [])) :
  HCall Tryz.prog J 174 ([ctV c, .one (.d (.int .i64 lv)), .one (.clo 175 [.ptr 0 0, .ptr 1 0])]) ([[.d (.int .i64 p)], [.d (.int .i64 d)]]) ([]) ([]) (isH (.tup []) ([[.d (.int .i64 (visit ce1 c lv (p, d)).2.1)], [.d (.int .i64 (visit ce1 c lv (p, d)).2.2)]]) ([]) ([])) := by
 have hbig := hc.ll
 have hf : (ce1 c lv (p, d)).1 = true := rfl
 unfold ctV
 rw [ds_map]
 have hlen : ((c.l.map CT.d).length : Int) = (c.l.length : Int) := by rw [List.length_map]
 refine HCall.ofD tOk ⟨2, 0, 0⟩ (fn := Tryz.f174) Tryz.func174 (by kernel_rfl) rfl (Nat.le_of_ble_eq_true rfl) (fun E => ?_)
 apply Y1
 refine S.box rfl rfl rfl rfl ?_
 apply Y3
 iterate 3 refine Yp rfl ?_
 refine S.hcallD rfl rfl rfl rfl ((pc_ce1 c.k c.n c.v _ lv p d).fd [0, 1] [] [] rfl) ?_
 apply Y3
 iterate 4 refine Yp rfl ?_
 apply Yn
 apply Yb
 refine W.loop (fun k st => ∃ i : Nat, ∃ p1 : Int, ∃ d1 : Int, i ≤ c.l.length ∧ visits (fun a => visit ce1 a (up1 lv)) (c.l.take i) (ce1 c lv (p, d)).2 = (true, (p1, d1)) ∧ k = c.l.length - i ∧ ∃ t b2 r2 m2, st = ⟨t, [[.d (.int .i64 p1)], [.d (.int .i64 d1)], [.d (.int .i64 c.k), .d (.str c.n), .d (.str c.v), .d (.vec 4 (c.l.map CT.d))]] ++ b2, [] ++ r2, [] ++ m2⟩ ∧ holdsL t [(1, .one (.d (.int .i64 lv))), (2, .one (.clo 175 [.ptr 0 0, .ptr 1 0])), (13, .one (.d (.vec 4 (c.l.map CT.d)))), (14, .one (.d (.int .i64 ((c.l.map CT.d).length : Int)))), (15, .one (.d (.int .i64 (i : Int))))]) (c.l.length) ⟨0, _, _, Nat.zero_le _, visits_nil, rfl, _, _, _, _, rfl, rfl, rfl, rfl, rfl, rfl, trivial⟩ ?_
 rintro k0 _ ⟨i, p1, d1, f0_0, f0_1, rfl, t0, bb0, rr0, mm0, rfl, hh0⟩
 refine W.keepR _ _ _ _ _ _ _ hh0 rfl ?_
 apply Y1
 refine Yp rfl ?_
 apply Yn
 apply Ys
 refine W.cond rfl (fun c1=>?_) fun c1=>?_
 ·skip
  have hi := row_lt c1
  apply Yk
  apply Yn
  apply Ys
  apply Yb
  apply Y1
  refine YE rfl (row_ok hi) (getD_map_ct hi) rfl ?_
  iterate 8 first|refine Yp rfl ?_|refine S.store tOk rfl rfl rfl rfl rfl rfl rfl rfl ?_|refine S.alloc tOk rfl rfl rfl rfl ?_|apply Y4
  refine S.hcallD rfl rfl rfl rfl ((ih (c.l.getD i CT.z) (mem_ct hi) (up1 lv) p1 d1 (hc.l _ (mem_ct hi))).fd [0, 1] [] [] rfl) ?_
  apply Yw
  apply Y4
  iterate 2 refine Yp rfl ?_
  refine loop_n (c.l.length - (i + 1)) (by omega) ⟨i + 1, _, _, hi, visit_next hi f0_1 (ce1_t _ _ _), rfl, _, _, _, _, rfl, rfl, rfl, rfl, rfl, inc_i64 (by omega), trivial⟩
 have hi := row_ge c1
 have hv := visit_all hf hi f0_1
 apply Yq
 apply Ye
 apply Ye
 apply Yx
 exact ⟨_, rfl, rfl, LeG.refl _, (by rw [hv]; rfl), rfl, rfl⟩
theorem pc_parts1 : ∀ (n : Nat) (c : CT), c.w ≤ n → ∀ (lv : Int) (p : Int) (d : Int), CtBig c → HCall Tryz.prog J 174 [ctV c, .one (.d (.int .i64 lv)), .one (.clo 175 [.ptr 0 0, .ptr 1 0])] [[.d (.int .i64 p)], [.d (.int .i64 d)]] [] [] (isH (.tup []) [[.d (.int .i64 (visit ce1 c lv (p, d)).2.1)], [.d (.int .i64 (visit ce1 c lv (p, d)).2.2)]] [] [])
 | 0, c, h => by have := c.pos; omega
 | n + 1, c, h => fun lv p d hc => pc_parts1s c lv p d hc (fun a ha => pc_parts1 n a (by have := CT.sz ha; omega))
theorem pc_parts2s (c : CT) (lv : Int) (e : Int) (hc : CtBig c) (ih : ∀ a ∈ c.l, ∀ (lv  : Int) (e : Int), CtBig a → HCall Tryz.prog J 174 [ctV a, .one (.d (.int .i64 lv)), .one (.clo 176 [.ptr 0 0])] [[.d (.int .i64 e)]] [] [] (isH (.tup []) [[.d (.int .i64 (visit ce2 a lv e).2)]] [] [])) :
  HCall Tryz.prog J 174 ([ctV c, .one (.d (.int .i64 lv)), .one (.clo 176 [.ptr 0 0])]) ([[.d (.int .i64 e)]]) ([]) ([]) (isH (.tup []) ([[.d (.int .i64 (visit ce2 c lv e).2)]]) ([]) ([])) := by
 have hbig := hc.ll
 have hf : (ce2 c lv e).1 = true := rfl
 unfold ctV
 rw [ds_map]
 have hlen : ((c.l.map CT.d).length : Int) = (c.l.length : Int) := by rw [List.length_map]
 have hcl2 := pc_ce2 c.k c.n c.v (c.l.map CT.d) hc.n hc.v lv e
 rw [hlen] at hcl2
 refine HCall.ofD tOk ⟨1, 0, 0⟩ (fn := Tryz.f174) Tryz.func174 (by kernel_rfl) rfl (Nat.le_of_ble_eq_true rfl) (fun E => ?_)
 apply Y1
 refine S.box rfl rfl rfl rfl ?_
 apply Y3
 iterate 3 refine Yp rfl ?_
 refine S.hcallD rfl rfl rfl rfl (hcl2.fd [0] [] [] rfl) ?_
 apply Y3
 iterate 4 refine Yp rfl ?_
 apply Yn
 apply Yb
 refine W.loop (fun k st => ∃ i : Nat, ∃ e1 : Int, i ≤ c.l.length ∧ visits (fun a => visit ce2 a (up1 lv)) (c.l.take i) (ce2 c lv e).2 = (true, e1) ∧ k = c.l.length - i ∧ ∃ t b2 r2 m2, st = ⟨t, [[.d (.int .i64 e1)], [.d (.int .i64 c.k), .d (.str c.n), .d (.str c.v), .d (.vec 4 (c.l.map CT.d))]] ++ b2, [] ++ r2, [] ++ m2⟩ ∧ holdsL t [(1, .one (.d (.int .i64 lv))), (2, .one (.clo 176 [.ptr 0 0])), (13, .one (.d (.vec 4 (c.l.map CT.d)))), (14, .one (.d (.int .i64 ((c.l.map CT.d).length : Int)))), (15, .one (.d (.int .i64 (i : Int))))]) (c.l.length) ⟨0, _, Nat.zero_le _, visits_nil, rfl, _, _, _, _, rfl, rfl, rfl, rfl, rfl, rfl, trivial⟩ ?_
 rintro k0 _ ⟨i, e1, f0_0, f0_1, rfl, t0, bb0, rr0, mm0, rfl, hh0⟩
 refine W.keepR _ _ _ _ _ _ _ hh0 rfl ?_
 apply Y1
 refine Yp rfl ?_
 apply Yn
 apply Ys
 refine W.cond rfl (fun c1=>?_) fun c1=>?_
 ·skip
  have hi := row_lt c1
  apply Yk
  apply Yn
  apply Ys
  apply Yb
  apply Y1
  refine YE rfl (row_ok hi) (getD_map_ct hi) rfl ?_
  iterate 8 first|refine Yp rfl ?_|refine S.store tOk rfl rfl rfl rfl rfl rfl rfl rfl ?_|refine S.alloc tOk rfl rfl rfl rfl ?_|apply Y4
  refine S.hcallD rfl rfl rfl rfl ((ih (c.l.getD i CT.z) (mem_ct hi) (up1 lv) e1 (hc.l _ (mem_ct hi))).fd [0] [] [] rfl) ?_
  apply Yw
  apply Y4
  iterate 2 refine Yp rfl ?_
  refine loop_n (c.l.length - (i + 1)) (by omega) ⟨i + 1, _, hi, visit_next hi f0_1 (ce2_t _ _ _), rfl, _, _, _, _, rfl, rfl, rfl, rfl, rfl, inc_i64 (by omega), trivial⟩
 have hi := row_ge c1
 have hv := visit_all hf hi f0_1
 apply Yq
 apply Ye
 apply Ye
 apply Yx
 exact ⟨_, rfl, rfl, LeG.refl _, (by rw [hv]; rfl), rfl, rfl⟩
theorem pc_parts2 : ∀ (n : Nat) (c : CT), c.w ≤ n → ∀ (lv : Int) (e : Int), CtBig c → HCall Tryz.prog J 174 [ctV c, .one (.d (.int .i64 lv)), .one (.clo 176 [.ptr 0 0])] [[.d (.int .i64 e)]] [] [] (isH (.tup []) [[.d (.int .i64 (visit ce2 c lv e).2)]] [] [])
 | 0, c, h => by have := c.pos; omega
 | n + 1, c, h => fun lv e hc => pc_parts2s c lv e hc (fun a ha => pc_parts2 n a (by have := CT.sz ha; omega))
theorem err_1 {c : CT} (h : decide ((visit ce1 c 0 (0, 0)).2.1 > 100) = true) : errR c = 4 := if_pos h
theorem err_0 {c : CT} (h : decide ((visit ce1 c 0 (0, 0)).2.1 > 100) = false) : errR c = firstB (visit ce2 c 0 0).2 (if decide ((visit ce1 c 0 (0, 0)).2.2 > 20) then 4 else 0) := if_neg (by rw [h]; simp)
theorem pc_CondErr (c : CT) (hc : CtBig c) :
  PureCall Tryz.prog J 118 [ctV c] (.one (.d (.int .i64 (errR c)))) := by
 refine PureCall.of_body tOk (fn := Tryz.f118) Tryz.func118 (by kernel_rfl) rfl (Nat.le_of_ble_eq_true rfl) (fun E => ?_)
 apply Y1
 iterate 9 first|refine Yp rfl ?_|refine S.store tOk rfl rfl rfl rfl rfl rfl rfl rfl ?_|refine S.alloc tOk rfl rfl rfl rfl ?_|refine S.box rfl rfl rfl rfl ?_|apply Y3
 refine S.makeFunc rfl rfl rfl ?_
 refine S.hcallD rfl rfl rfl rfl ((pc_parts1 c.w c (Nat.le_refl _) 0 0 0 hc).fd [1, 2] [] [] rfl) ?_
 iterate 6 first|refine Yp rfl ?_|apply Y1|apply Yn|apply Ys
 refine W.cond rfl (fun c1=>?_) fun c1=>?_
 ·skip
  apply Y1
  refine Yp rfl ?_
  apply Yn
  apply Yt
  apply Yu
  exact Yz rfl rfl rfl (by rw [err_1 c1]; rfl)
 apply Yk
 apply Y3
 refine S.alloc tOk rfl rfl rfl rfl ?_
 refine S.store tOk rfl rfl rfl rfl rfl rfl rfl rfl ?_
 apply Y3
 refine Yp rfl ?_
 refine S.makeFunc rfl rfl rfl ?_
 refine S.hcallD rfl rfl rfl rfl ((pc_parts2 c.w c (Nat.le_refl _) 0 0 hc).fd [3] [] [] rfl) ?_
 apply Yn
 apply Ys
 refine W.regionD mixed (by kernel_rfl) ?_
 iterate 3 refine Ym rfl rfl ?_
 refine D.call rfl rfl rfl rfl rfl (pc_outref2_When _ 4) ?_
 refine D.slice tOk rfl rfl ?_
 refine D.call rfl rfl rfl rfl rfl (pc_first2 (visit ce2 c 0 0).2 (if decide ((visit ce1 c 0 (0, 0)).2.2 > 20) then 4 else 0)) ?_
 refine Ym rfl rfl ?_
 apply Yn
 apply Yt
 exact Yz rfl rfl rfl (by rw [err_0 c1])
end
section
open Go
theorem wrap_u64 (x : Int) : IntKind.u64.wrap x = x % 18446744073709551616 := rfl
def hexD : List UInt8 := [48, 49, 50, 51, 52, 53, 54, 55, 56, 57, 97, 98, 99, 100, 101, 102]
end
end Go.Proofs.YtpelfildfidnbaaGreatDoor
namespace Go.Proofs.YtpelfildfidnbaaGreatDoor
section
open Go
mutual
def CT.pt : CT → Int → List (CT × Int)
  | .mk k n v l, lv => (.mk k n v l, lv) :: CT.pts l (up1 lv)
def CT.pts : List CT → Int → List (CT × Int)
  | [], _ => []
  | c :: l, lv => c.pt lv ++ CT.pts l lv
end
theorem pt_eq (c : CT) (lv : Int) : c.pt lv = (c, lv) :: CT.pts c.l (up1 lv) := by cases c; rfl
theorem pts_len : ∀ (n : Nat) (l : List CT) (lv : Int), CT.ws l ≤ n → (CT.pts l lv).length = CT.ws l
  | n, [], lv, h => rfl
  | 0, c :: l, lv, h => by
    have h1 : CT.ws (c :: l) = c.w + CT.ws l := rfl
    have := c.pos; omega
  | n + 1, c :: l, lv, h => by
    have h1 : CT.ws (c :: l) = c.w + CT.ws l := rfl
    have h2 := c.pos
    have h3 : c.w = CT.ws c.l + 1 := by cases c; rfl
    show (c.pt lv ++ CT.pts l lv).length = _
    rw [pt_eq, List.length_append, List.length_cons, pts_len n l lv (by omega), pts_len n c.l _ (by omega)]
    omega
theorem pt_len (c : CT) (lv : Int) : (c.pt lv).length = c.w := by
 have h3 : c.w = CT.ws c.l + 1 := by cases c; rfl
 rw [pt_eq, List.length_cons, pts_len _ c.l _ (Nat.le_refl _), h3]
def runs {S : Type} (f : CT → Int → S → Bool × S) : List (CT × Int) → S → Bool × S
 | [], s => (true, s)
 | (c, lv) :: L, s => if (f c lv s).1 then runs f L (f c lv s).2 else (false, (f c lv s).2)
theorem runs_app {S : Type} {f : CT → Int → S → Bool × S} : ∀ (A B : List (CT × Int)) (s : S), runs f (A ++ B) s = if (runs f A s).1 then runs f B (runs f A s).2 else (false, (runs f A s).2)
  | [], B, s => rfl
  | (c, lv) :: A, B, s => by
    have e : ∀ L : List (CT × Int), runs f ((c, lv) :: L) s = if (f c lv s).1 then runs f L (f c lv s).2 else (false, (f c lv s).2) := fun L => rfl
    rw [List.cons_append, e, e]
    cases h : (f c lv s).1 with
    | true => rw [if_pos rfl, if_pos rfl]; exact runs_app A B _
    | false => simp
theorem visits_runs {S : Type} {f : CT → Int → S → Bool × S} : ∀ (n : Nat) (l : List CT) (lv : Int) (s : S), CT.ws l ≤ n → visits (fun a => visit f a lv) l s = runs f (CT.pts l lv) s
  | n, [], lv, s, h => rfl
  | 0, c :: l, lv, s, h => by
    have h1 : CT.ws (c :: l) = c.w + CT.ws l := rfl
    have := c.pos; omega
  | n + 1, c :: l, lv, s, h => by
    have h1 : CT.ws (c :: l) = c.w + CT.ws l := rfl
    have h2 := c.pos
    have h3 : c.w = CT.ws c.l + 1 := by cases c; rfl
    have hc : ∀ s, visit f c lv s = runs f (c.pt lv) s := fun s => by
      rw [visit_eq, pt_eq, visits_runs n c.l _ _ (by omega)]; rfl
    show (if (visit f c lv s).1 then visits (fun a => visit f a lv) l (visit f c lv s).2 else (false, (visit f c lv s).2)) = runs f (c.pt lv ++ CT.pts l lv) s
    rw [runs_app, hc, visits_runs n l lv _ (by omega)]
theorem visit_runs {S : Type} {f : CT → Int → S → Bool × S} (c : CT) (lv : Int) (s : S) : visit f c lv s = runs f (c.pt lv) s := by
 rw [visit_eq, pt_eq, visits_runs _ c.l _ _ (Nat.le_refl _)]; rfl
theorem up1_of {n : Nat} (h : n < 4000000000) : up1 (n : Int) = ((n + 1 : Nat) : Int) := by
 unfold up1
 rw [IntKind.wrap_i64]; omega
def deepB (L : List (CT × Int)) : Bool := L.any fun p => decide (p.2 > 20)
theorem run_ce1 : ∀ (L : List (CT × Int)) (n : Nat) (d : Int), n + L.length < 4000000000 → (runs ce1 L ((n : Int), d)).2.1 = ((n + L.length : Nat) : Int) ∧ decide ((runs ce1 L ((n : Int), d)).2.2 > 20) = (decide (d > 20) || deepB L)
  | [], n, d, h => by
    refine ⟨rfl, ?_⟩
    show decide (d > 20) = (decide (d > 20) || false)
    rw [Bool.or_false]
  | (c, lv) :: L, n, d, h => by
    have hl : ((c, lv) :: L).length = L.length + 1 := rfl
    rw [hl] at h
    have h1 : runs ce1 ((c, lv) :: L) ((n : Int), d) = runs ce1 L (((n + 1 : Nat) : Int), maxI d lv) := by
      show runs ce1 L (up1 (n : Int), maxI d lv) = _
      rw [up1_of (by omega)]
    have ih := run_ce1 L (n + 1) (maxI d lv) (by omega)
    rw [h1]
    refine ⟨ih.1.trans (by rw [hl]; congr 1; omega), ih.2.trans ?_⟩
    have : decide (maxI d lv > 20) = (decide (d > 20) || decide (lv > 20)) := by
      unfold maxI; split <;> simp <;> omega
    rw [this]
    show _ = (decide (d > 20) || (decide (lv > 20) || deepB L))
    rw [Bool.or_assoc]
theorem run_cc1 : ∀ (L : List (CT × Int)) (n : Nat) (b : Bool), n ≤ 100 → (n + L.length ≤ 100 → runs cc1 L ((n : Int), b) = (true, (((n + L.length : Nat) : Int), b || deepB L))) ∧ (100 < n + L.length → (runs cc1 L ((n : Int), b)).2.1 = 101)
  | [], n, b, h => by
    refine ⟨fun _ => ?_, fun h2 => by simp at h2; omega⟩
    show (true, ((n : Int), b)) = (true, ((n : Int), b || false))
    rw [Bool.or_false]
  | (c, lv) :: L, n, b, h => by
    have hl : ((c, lv) :: L).length = L.length + 1 := rfl
    have h1 : runs cc1 ((c, lv) :: L) ((n : Int), b) = if decide (((n + 1 : Nat) : Int) ≤ 100) then runs cc1 L (((n + 1 : Nat) : Int), b || decide (lv > 20)) else (false, (((n + 1 : Nat) : Int), b || decide (lv > 20))) := by
      show (if decide (up1 (n : Int) ≤ 100) then runs cc1 L (up1 (n : Int), b || decide (lv > 20)) else (false, (up1 (n : Int), b || decide (lv > 20)))) = _
      rw [up1_of (by omega)]
    rw [h1, hl]
    by_cases h2 : n + 1 ≤ 100
    · rw [if_pos (by simp; omega)]
      have ih := run_cc1 L (n + 1) (b || decide (lv > 20)) h2
      refine ⟨fun h3 => (ih.1 (by omega)).trans ?_, fun h3 => ih.2 (by omega)⟩
      show (true, _, (b || decide (lv > 20)) || deepB L) = (true, _, b || (decide (lv > 20) || deepB L))
      rw [Bool.or_assoc]
      have : n + 1 + L.length = n + (L.length + 1) := by omega
      rw [this]
    · rw [if_neg (by simp; omega)]
      refine ⟨fun h3 => by omega, fun _ => ?_⟩
      show ((n + 1 : Nat) : Int) = 101
      omega
theorem run_ce2_old : ∀ (L : List (CT × Int)) (e : Int), (e == 0) = false → (runs ce2 L e).2 = e
  | [], e, h => rfl
  | (c, lv) :: L, e, h => by
    show (runs ce2 L (if e == 0 then c.part else e)).2 = e
    rw [h]; exact run_ce2_old L e h
theorem run_2 : ∀ (L : List (CT × Int)), (runs ce2 L 0).2 = (runs cc2 L 0).2
  | [] => rfl
  | (c, lv) :: L => by
    show (runs ce2 L c.part).2 = (if c.part == 0 then runs cc2 L c.part else (false, c.part)).2
    cases h : (c.part == 0) with
    | true =>
      have h0 : c.part = 0 := by simpa using h
      rw [h0]; exact run_2 L
    | false => exact run_ce2_old L _ h
theorem errs_eq {c : CT} (h : c.w < 3000000000) : errR c = checkP c := by
  unfold errR checkP
  rw [visit_runs, visit_runs, visit_runs, visit_runs]
  have hl := pt_len c 0
  have h1 := run_ce1 (c.pt 0) 0 0 (by omega)
  have h2 := run_cc1 (c.pt 0) 0 false (by omega)
  simp only [Int.ofNat_zero, Int.natCast_zero, show ((0 : Nat) : Int) = 0 from rfl, Nat.zero_add] at h1 h2
  rw [h1.1, h1.2, hl, run_2]
  rw [hl] at h2
  by_cases h3 : c.w ≤ 100
  · have h4 := h2.1 h3
    rw [h4]
    have : decide (((c.w : Nat) : Int) > 100) = false := by simp; omega
    rw [this]
    unfold firstB
    show (if false then _ else _) = _
    cases hp : ((runs cc2 (c.pt 0) 0).2 == 0) with
    | true =>
      have hp0 : (runs cc2 (c.pt 0) 0).2 = 0 := by simpa using hp
      cases hd : deepB (c.pt 0) <;> simp [hp0]
    | false =>
      simp at hp
      simp [hp]
  · have h4 := h2.2 (by omega)
    rw [h4]
    have : decide (((c.w : Nat) : Int) > 100) = true := by simp; omega
    rw [this]; rfl
end
section
open Go
structure Ofr where
 n : List UInt8
 v : Ver
 sm : List UInt8
 f : List Sp
 nw : Bool
 w : CT
 b : Int
 s : Int
 g : Int
 hd : Bool
 ur : Bool
 bk : Bool
def ofrD (o : Ofr) : List D := [.str o.n, .int .i64 o.v.a, .int .i64 o.v.b, .int .i64 o.v.c, .str o.v.e, .str o.sm, .vec 10 (o.f.map spD), .bool o.nw, .int .i64 o.w.k, .str o.w.n, .str o.w.v, .vec 4 (CT.ds o.w.l), .int .i64 o.b, .int .i64 o.s, .int .i64 o.g, .bool o.hd, .bool o.ur, .bool o.bk]
abbrev ofrV (o : Ofr) : V := .agg [.d (.str o.n), .d (.int .i64 o.v.a), .d (.int .i64 o.v.b), .d (.int .i64 o.v.c), .d (.str o.v.e), .d (.str o.sm), .d (.vec 10 (o.f.map spD)), .d (.bool o.nw), .d (.int .i64 o.w.k), .d (.str o.w.n), .d (.str o.w.v), .d (.vec 4 (CT.ds o.w.l)), .d (.int .i64 o.b), .d (.int .i64 o.s), .d (.int .i64 o.g), .d (.bool o.hd), .d (.bool o.ur), .d (.bool o.bk)]
def hexCh (c : UInt8) : Bool := (decide ((c.toNat : Int) ≥ 48) && decide ((c.toNat : Int) ≤ 57)) || (decide ((c.toNat : Int) ≥ 97) && decide ((c.toNat : Int) ≤ 102))
def isSumB (s : List UInt8) : Bool := if s.all hexCh then (s.length : Int) == 16 else false
theorem hexCh_eq (c : UInt8) : hexCh c = hexD.contains c := by
 have h : ∀ n : Fin 256, hexCh (UInt8.ofNat n.val) = hexD.contains (UInt8.ofNat n.val) := by decide +kernel
 have := h ⟨c.toNat, c.toNat_lt⟩
 simpa using this
theorem isSum_eq (s : List UInt8) : isSumB s = ((s.length : Int) == 16 && ofB s hexD) := by
 have h : s.all hexCh = ofB s hexD := by
  unfold ofB
  congr 1
  funext c
  exact hexCh_eq c
 unfold isSumB
 rw [h]
 cases ofB s hexD <;> simp
def offerE (o : Ofr) : Int :=
 if !nameB o.n then 5 else if o.v.check != 0 then o.v.check else if !isSumB o.sm then 2 else if rangeE o.f != 0 then rangeE o.f else if checkP o.w != 0 then checkP o.w
 else if (outsideB o.b 0 1099511627776 || outsideB o.s 0 1000) || outsideB o.g 0 1000 then 3 else 0
def sumOk (s : List UInt8) : Bool := (s.length : Int) == 16 && ofB s hexD
def offerR (o : Ofr) : Int := firstNe [if !nameB o.n then 5 else 0, o.v.check, if !sumOk o.sm then 2 else 0, rangeE o.f, errR o.w, if (!inB o.b 0 1099511627776 || !inB o.s 0 1000) || !inB o.g 0 1000 then 3 else 0]
theorem out_in (n l h : Int) : outsideB n l h = !inB n l h := by
 unfold outsideB inB
 by_cases h1 : n < l <;> by_cases h2 : n > h <;> simp [h1, h2] <;> omega
theorem firstNe_c (x : Int) (l : List Int) : firstNe (x :: l) = if x != 0 then x else firstNe l := by
 unfold firstNe
 rw [List.find?_cons]
 cases h : (x != 0) <;> simp [h]
theorem offer_eq {o : Ofr} (h : o.w.w < 3000000000) : offerR o = offerE o := by
 unfold offerR offerE
 rw [errs_eq h, out_in, out_in, out_in]
 simp only [firstNe_c]
 have hs : sumOk o.sm = isSumB o.sm := (isSum_eq o.sm).symm
 rw [hs]
 cases nameB o.n with
 | false => rfl
 | true =>
  show (if (0 : Int) != 0 then _ else _) = _
  rw [if_neg (by simp)]
  show (if o.v.check != 0 then o.v.check else _) = (if o.v.check != 0 then o.v.check else _)
  congr 1
  cases isSumB o.sm with
  | false => rfl
  | true =>
   show (if (0 : Int) != 0 then _ else _) = _
   rw [if_neg (by simp)]
   show (if rangeE o.f != 0 then _ else _) = (if rangeE o.f != 0 then _ else _)
   congr 1
   show (if checkP o.w != 0 then _ else _) = (if checkP o.w != 0 then _ else _)
   congr 1
   generalize ((!inB o.b 0 1099511627776 || !inB o.s 0 1000) || !inB o.g 0 1000) = q
   cases q <;> rfl
end
section
open Go
structure OfrOk (o : Ofr) : Prop where
 n : o.n.length ≤ 2000000
 v : VerOk o.v
 e : o.v.e.length ≤ 2000000
 sm : o.sm.length ≤ 2000000
 fl : o.f.length ≤ 2000000
 fs : ∀ s ∈ o.f, SpLen s
 w : CtBig o.w
 ww : o.w.w < 3000000000
end
end Go.Proofs.YtpelfildfidnbaaGreatDoor
namespace Go.Proofs.YtpelfildfidnbaaGreatDoor
section
open Go
abbrev L8 := List UInt8
end
end Go.Proofs.YtpelfildfidnbaaGreatDoor
namespace Go.Proofs.YtpelfildfidnbaaGreatDoor
section
open Go
theorem mem_getD {α : Type} {l : List α} {i : Nat} {d : α} (hi : i < l.length) : l.getD i d ∈ l := by
 rw [List.getD_eq_getElem?_getD, List.getElem?_eq_getElem hi]; exact List.getElem_mem hi
end
end Go.Proofs.YtpelfildfidnbaaGreatDoor
namespace Go.Proofs.YtpelfildfidnbaaGreatDoor
section
open Go Go.Sort
theorem cb_lt : ∀ (a b : L8), Lib.compareBytes a b < 0 ↔ a < b
  | [], [] => by simp [Lib.compareBytes]
  | [], _ :: _ => by simp [Lib.compareBytes]
  | _ :: _, [] => by simp [Lib.compareBytes]
  | a :: l, b :: m => by
    have ih := cb_lt l m
    rw [List.cons_lt_cons_iff]
    by_cases h1 : a < b
    · simp [Lib.compareBytes, h1]
    · by_cases h2 : b < a
      · have hne : a ≠ b := fun e => by rw [e] at h2; exact UInt8.lt_irrefl _ h2
        simp [Lib.compareBytes, h1, h2, hne]
      · have he : a = b := UInt8.le_antisymm (UInt8.not_lt.1 h2) (UInt8.not_lt.1 h1)
        simp only [Lib.compareBytes, h1, h2, if_false, false_or, he, true_and, UInt8.lt_irrefl]
        exact ih
end
end Go.Proofs.YtpelfildfidnbaaGreatDoor
namespace Go.Proofs.YtpelfildfidnbaaGreatDoor
section
open Go
def errsN (n : Nat) (f : Nat → Int) : Int := firstNe ((List.range n).map f)
def OkTo (f : Nat → Int) (i : Nat) : Prop := ∀ j, j < i → f j = 0
theorem ok_0 (f : Nat → Int) : OkTo f 0 := fun j h => absurd h (Nat.not_lt_zero _)
theorem ok_s {f : Nat → Int} {i : Nat} (h : OkTo f i) (hi : f i = 0) : OkTo f (i + 1) := fun j hj => by
  rcases Nat.lt_or_ge j i with h1 | h1
  · exact h j h1
  · obtain rfl : j = i := by omega
    exact hi
theorem ok_take {n : Nat} {f : Nat → Int} {i : Nat} (h : OkTo f i) : (((List.range n).map f).take i).all (· == 0) = true := by
 rw [List.all_eq_true]
 intro x hx
 obtain ⟨j, hj, he⟩ := List.getElem_of_mem hx
 simp only [List.length_take, List.length_map, List.length_range] at hj
 simp only [List.getElem_take, List.getElem_map, List.getElem_range] at he
 rw [← he, h j (by omega)]; rfl
theorem errs_hit {n : Nat} {f : Nat → Int} {i : Nat} {e : Int} (hi : i < n) (h : OkTo f i) (c : f i = e) (he : e ≠ 0) : errsN n f = e := by
 have hg : ((List.range n).map f).getD i 0 = e := by simp [List.getD_eq_getElem?_getD, hi, c]
 unfold errsN
 rw [firstNe_hit (by simpa using hi) (ok_take h) (by rw [hg]; exact he), hg]
theorem errs_none {n : Nat} {f : Nat → Int} {i : Nat} (hi : n ≤ i) (h : OkTo f i) : errsN n f = 0 := firstNe_none (by simpa using hi) (ok_take h)
theorem errs_ok {n : Nat} {f : Nat → Int} (h : errsN n f = 0) : OkTo f n := fun j hj => by
 have := firstNe_zero h
 exact this (f j) (List.mem_map.2 ⟨j, List.mem_range.2 hj, rfl⟩)
end
section
open Go
def Ofr.z : Ofr := ⟨[], ⟨0, 0, 0, []⟩, [], [], false, CT.z, 0, 0, 0, false, false, false⟩
structure Fed where
 ch : List UInt8
 se : Int
 ti : Int
 of : List Ofr
def Fed.z : Fed := ⟨[], 0, 0, []⟩
def fedD (f : Fed) : List D := [.str f.ch, .int .i64 f.se, .int .i64 f.ti, .vec 18 (f.of.map ofrD)]
def cmpO (a b : Ofr) : Int := if Lib.compareBytes a.n b.n != 0 then Lib.compareBytes a.n b.n else orderB a.v b.v
def cmpR (a b : Ofr) : Int := if !(a.n == b.n) then Lib.compareBytes a.n b.n else compareR a.v b.v
theorem offer_0 {o : Ofr} (h : offerE o = 0) : o.v.check = 0 := by
 unfold offerE at h
 split at h
 ·skip
  cases h
 ·skip
  split at h
  ·skip
   rename_i h2; rw [h] at h2; cases h2
  ·skip
   rename_i h2; simpa using h2
theorem cmp_OR {a b : Ofr} (ha : offerE a = 0) (hb : offerE b = 0) : cmpR a b = cmpO a b := by
 unfold cmpR cmpO
 by_cases h : a.n = b.n
 ·skip
  rw [h, bytes_refl, if_neg (by simp), if_neg (by simp), compare_eq (offer_0 ha) (offer_0 hb)]
 ·skip
  have h1 : (a.n == b.n) = false := beq_eq_false_iff_ne.2 h
  have h2 : (Lib.compareBytes a.n b.n != 0) = true := by
   rw [bne_iff_ne]
   intro h3; exact h (bytes_0 h3)
  rw [h1, h2]; rfl
def ofAt (l : List Ofr) (i : Nat) : Int :=
 if offerE (l.getD i Ofr.z) != 0 then offerE (l.getD i Ofr.z) else if decide ((i : Int) > 0) && decide (cmpO (l.getD (i - 1) Ofr.z) (l.getD i Ofr.z) ≥ 0) then 7 else 0
def ofsE (l : List Ofr) : Int := errsN l.length (ofAt l)
def fedE (f : Fed) : Int := if !nameB f.ch then 5 else if outsideB f.se 1 1099511627776 || outsideB f.ti 0 1099511627776 then 3 else if decide ((f.of.length : Int) > 500) then 4 else ofsE f.of
theorem oa_e {l : List Ofr} {i : Nat} (h : (offerE (l.getD i Ofr.z) != 0) = true) : ofAt l i = offerE (l.getD i Ofr.z) := if_pos h
theorem oa_7 {l : List Ofr} {i : Nat} (h : (offerE (l.getD i Ofr.z) != 0) = false) (h2 : (decide ((i : Int) > 0) && decide (cmpO (l.getD (i - 1) Ofr.z) (l.getD i Ofr.z) ≥ 0)) = true) : ofAt l i = 7 := by unfold ofAt; rw [if_neg (Bool.eq_false_iff.1 h), if_pos h2]
theorem oa_0 {l : List Ofr} {i : Nat} (h : (offerE (l.getD i Ofr.z) != 0) = false) (h2 : (decide ((i : Int) > 0) && decide (cmpO (l.getD (i - 1) Ofr.z) (l.getD i Ofr.z) ≥ 0)) = false) : ofAt l i = 0 := by unfold ofAt; rw [if_neg (Bool.eq_false_iff.1 h), if_neg (Bool.eq_false_iff.1 h2)]
theorem of_hit {l : List Ofr} {i : Nat} {e : Int} (hi : i < l.length) (h : OkTo (ofAt l) i) (c : ofAt l i = e) (he : e ≠ 0) : ofsE l = e := by unfold ofsE; exact errs_hit hi h c he
theorem of_none {l : List Ofr} {i : Nat} (hi : l.length ≤ i) (h : OkTo (ofAt l) i) : ofsE l = 0 := by unfold ofsE; exact errs_none hi h
theorem oa_ok {l : List Ofr} {i : Nat} (h : ofAt l i = 0) : offerE (l.getD i Ofr.z) = 0 := by
 by_cases h1 : offerE (l.getD i Ofr.z) = 0
 ·skip
  exact h1
 ·skip
  rw [oa_e (by simpa using h1)] at h; exact h
section
variable {f : Fed}
theorem fe_5 (h : (!nameB f.ch) = true) : fedE f = 5 := if_pos h
variable (h : (!nameB f.ch) = false)
include h
theorem fe_3 (h2 : (outsideB f.se 1 1099511627776 || outsideB f.ti 0 1099511627776) = true) : fedE f = 3 := by unfold fedE; rw [if_neg (Bool.eq_false_iff.1 h), if_pos h2]
variable (h2 : (outsideB f.se 1 1099511627776 || outsideB f.ti 0 1099511627776) = false)
include h2
theorem fe_4 (h3 : decide (((f.of.map ofrD).length : Int) > 500) = true) : fedE f = 4 := by rw [List.length_map] at h3; unfold fedE; rw [if_neg (Bool.eq_false_iff.1 h), if_neg (Bool.eq_false_iff.1 h2), if_pos h3]
theorem fe_o (h3 : decide (((f.of.map ofrD).length : Int) > 500) = false) : fedE f = ofsE f.of := by rw [List.length_map] at h3; unfold fedE; rw [if_neg (Bool.eq_false_iff.1 h), if_neg (Bool.eq_false_iff.1 h2), if_neg (Bool.eq_false_iff.1 h3)]
end
theorem fed_ok {f : Fed} (h : fedE f = 0) : f.of.length ≤ 500 ∧ ∀ o ∈ f.of, offerE o = 0 := by
 unfold fedE at h
 split at h
 ·skip
  cases h
 ·skip
  split at h
  ·skip
   cases h
  ·skip
   split at h
   ·skip
    cases h
   ·skip
    rename_i h3
    have h4 : ∀ i, i < f.of.length → ofAt f.of i = 0 := errs_ok h
    refine ⟨by simp at h3; omega, fun o ho => ?_⟩
    obtain ⟨i, hi, rfl⟩ := List.getElem_of_mem ho
    have := oa_ok (h4 i hi)
    simpa [List.getD_eq_getElem?_getD, hi] using this
def srch (φ : Nat → Int) : Nat → Nat → Nat → Nat
 | 0, i, _ => i
 | u + 1, i, j => if i < j then (if φ ((i + j) / 2) < 0 then srch φ u ((i + j) / 2 + 1) j else srch φ u i ((i + j) / 2)) else i
theorem sr_end {φ : Nat → Int} {u i j : Nat} (h : j ≤ i) : srch φ u i j = i := by
 cases u with
 | zero => rfl
 | succ u => unfold srch; rw [if_neg (by omega)]
theorem sr_lo {φ : Nat → Int} {u i j r : Nat} (hu : j - i ≤ u) (hij : i < j) (hc : decide (φ ((i + j) / 2) < 0) = true) (h : srch φ u i j = r) : srch φ (u - 1) ((i + j) / 2 + 1) j = r := by
 obtain ⟨u, rfl⟩ : ∃ k, u = k + 1 := ⟨u - 1, by omega⟩
 rw [← h]
 conv => rhs; unfold srch
 rw [if_pos hij, if_pos (of_decide_eq_true hc)]; rfl
theorem sr_hi {φ : Nat → Int} {u i j r : Nat} (hu : j - i ≤ u) (hij : i < j) (hc : decide (φ ((i + j) / 2) < 0) = false) (h : srch φ u i j = r) : srch φ (u - 1) i ((i + j) / 2) = r := by
 obtain ⟨u, rfl⟩ : ∃ k, u = k + 1 := ⟨u - 1, by omega⟩
 rw [← h]
 conv => rhs; unfold srch
 rw [if_pos hij, if_neg (of_decide_eq_false hc)]; rfl
theorem srch_le (φ : Nat → Int) : ∀ u i j, i ≤ j → srch φ u i j ≤ j
  | 0, i, j, h => h
  | u + 1, i, j, h => by
    unfold srch
    split
    · split
      · exact srch_le φ u _ _ (by omega)
      · exact Nat.le_trans (srch_le φ u _ _ (by omega)) (by omega)
    · exact h
def posO (φ : Ofr → Int) (l : List Ofr) : Nat := srch (fun k => φ (l.getD k Ofr.z)) l.length 0 l.length
def fndO (φ : Ofr → Int) (l : List Ofr) : Bool := if decide ((posO φ l : Int) < (l.length : Int)) then φ (l.getD (posO φ l) Ofr.z) == 0 else false
theorem pos_le (φ : Ofr → Int) (l : List Ofr) : posO φ l ≤ l.length := srch_le _ _ _ _ (Nat.zero_le _)
def insP (l : List Ofr) (o : Ofr) : List Ofr := if fndO (fun x => cmpO x o) l then l else l.take (posO (fun x => cmpO x o) l) ++ [o] ++ l.drop (posO (fun x => cmpO x o) l)
theorem ins_y {l : List Ofr} {o : Ofr} (h : (!fndO (fun x => cmpO x o) l) = false) : insP l o = l := if_pos (by simpa using h)
theorem ins_n {l : List Ofr} {o : Ofr} (h : (!fndO (fun x => cmpO x o) l) = true) : insP l o = l.take (posO (fun x => cmpO x o) l) ++ [o] ++ l.drop (posO (fun x => cmpO x o) l) := if_neg (by simpa using h)
theorem ins_rows {l : List Ofr} {o : Ofr} (h : (!fndO (fun x => cmpO x o) l) = true) : (l.map ofrD).take (posO (fun x => cmpO x o) l) ++ [ofrD o] ++ (l.map ofrD).drop (posO (fun x => cmpO x o) l) = (insP l o).map ofrD := by
 rw [ins_n h]; simp [List.map_take, List.map_drop]
theorem ins_mem {l : List Ofr} {o x : Ofr} (h : x ∈ insP l o) : x ∈ l ∨ x = o := by
 unfold insP at h
 split at h
 ·skip
  exact .inl h
 ·skip
  simp only [List.mem_append, List.mem_singleton] at h
  rcases h with (h | h) | h
  ·skip
   exact .inl (List.mem_of_mem_take h)
  ·skip
   exact .inr h
  ·skip
   exact .inl (List.mem_of_mem_drop h)
theorem ins_len (l : List Ofr) (o : Ofr) : (insP l o).length ≤ l.length + 1 := by
 unfold insP
 split
 ·skip
  omega
 ·skip
  simp only [List.length_append, List.length_take, List.length_drop, List.length_singleton]; omega
def insTo (l : List Ofr) (os : List Ofr) (j : Nat) : List Ofr := (os.take j).foldl insP l
theorem insTo_0 (l os : List Ofr) : insTo l os 0 = l := rfl
theorem insTo_s {l os : List Ofr} {j : Nat} (hj : j < os.length) : insP (insTo l os j) (os.getD j Ofr.z) = insTo l os (j + 1) := by unfold insTo; rw [take_getD (d := Ofr.z) hj, List.foldl_append]; rfl
theorem insTo_len (l os : List Ofr) : ∀ j, j ≤ os.length → (insTo l os j).length ≤ l.length + j
  | 0, _ => Nat.le_refl _
  | j + 1, hj => by
    rw [← insTo_s (by omega)]
    have h1 := ins_len (insTo l os j) (os.getD j Ofr.z)
    have h2 := insTo_len l os j (by omega)
    omega
theorem insTo_mem {l os : List Ofr} : ∀ {j : Nat}, j ≤ os.length → ∀ x ∈ insTo l os j, x ∈ l ∨ x ∈ os
  | 0, _, x, hx => .inl hx
  | j + 1, hj, x, hx => by
    rw [← insTo_s (by omega)] at hx
    rcases ins_mem hx with h | h
    · exact insTo_mem (by omega) x h
    · exact .inr (by rw [h]; exact mem_getD (d := Ofr.z) (by omega))
def mxI (a b : Int) : Int := if a < b then b else a
def mStep (out f : Fed) : Fed := ⟨out.ch, mxI out.se f.se, mxI out.ti f.ti, f.of.foldl insP out.of⟩
def mTo (l : List Fed) (i : Nat) : Fed := (l.take i).foldl mStep ⟨(l.getD 0 Fed.z).ch, 0, 0, []⟩
theorem mTo_0 (l : List Fed) : mTo l 0 = ⟨(l.getD 0 Fed.z).ch, 0, 0, []⟩ := rfl
theorem mTo_s {l : List Fed} {i : Nat} (hi : i < l.length) : mStep (mTo l i) (l.getD i Fed.z) = mTo l (i + 1) := by unfold mTo; rw [take_getD (d := Fed.z) hi, List.foldl_append]; rfl
theorem m_end (os l : List Ofr) : insTo l os os.length = os.foldl insP l := by unfold insTo; rw [List.take_length]
def badF (l : List Fed) : Int := firstNe (l.map fedE)
def mrgP (l : List Fed) : Fed × Int :=
 if (l.length : Int) == 0 then (Fed.z, 9) else if decide ((l.length : Int) > 20) then (Fed.z, 4) else if badF l != 0 then (Fed.z, badF l) else if decide (((mTo l l.length).of.length : Int) > 500) then (Fed.z, 4) else (mTo l l.length, 0)
structure FedsOk (l : List Fed) : Prop where
 n : ∀ f ∈ l, f.of.length ≤ 500
 o : ∀ f ∈ l, ∀ o ∈ f.of, offerE o = 0
theorem feds_ok {l : List Fed} (h : badF l = 0) : FedsOk l := by
 have h1 := firstNe_zero h
 exact ⟨fun f hf => (fed_ok (h1 _ (List.mem_map.2 ⟨f, hf, rfl⟩))).1, fun f hf => (fed_ok (h1 _ (List.mem_map.2 ⟨f, hf, rfl⟩))).2⟩
theorem mTo_len {l : List Fed} (h : FedsOk l) : ∀ i, i ≤ l.length → (mTo l i).of.length ≤ 500 * i
  | 0, _ => Nat.le_refl _
  | i + 1, hi => by
    rw [← mTo_s (by omega)]
    have h1 := mTo_len h i (by omega)
    have h2 := h.n _ (mem_getD (d := Fed.z) (show i < l.length by omega))
    have h3 := insTo_len (mTo l i).of (l.getD i Fed.z).of _ (Nat.le_refl _)
    rw [m_end] at h3
    show ((l.getD i Fed.z).of.foldl insP (mTo l i).of).length ≤ _
    omega
theorem mTo_mem {l : List Fed} : ∀ {i : Nat}, i ≤ l.length → ∀ o ∈ (mTo l i).of, ∃ f ∈ l, o ∈ f.of
  | 0, _, o, ho => absurd ho (by simp [mTo_0])
  | i + 1, hi, o, ho => by
    rw [← mTo_s (by omega)] at ho
    have ho : o ∈ (l.getD i Fed.z).of.foldl insP (mTo l i).of := ho
    rw [← m_end] at ho
    rcases insTo_mem (Nat.le_refl _) o ho with h | h
    · exact mTo_mem (by omega) o h
    · exact ⟨_, mem_getD (d := Fed.z) (by omega), h⟩
section
variable {l : List Fed}
theorem mp_9 (h : ((l.map fedD).length : Int) == 0) : mrgP l = (Fed.z, 9) := by rw [List.length_map] at h; exact if_pos h
variable (h : (((l.map fedD).length : Int) == 0) = false)
include h
theorem mp_4 (h2 : decide (((l.map fedD).length : Int) > 20) = true) : mrgP l = (Fed.z, 4) := by rw [List.length_map] at h h2; unfold mrgP; rw [if_neg (Bool.eq_false_iff.1 h), if_pos h2]
variable (h2 : decide (((l.map fedD).length : Int) > 20) = false)
include h2
theorem mp_e {e : Int} (he : badF l = e) (h3 : e ≠ 0) : mrgP l = (Fed.z, e) := by
 rw [List.length_map] at h h2; unfold mrgP
 rw [if_neg (Bool.eq_false_iff.1 h), if_neg (Bool.eq_false_iff.1 h2), he, if_pos (by simpa using h3)]
variable (h3 : badF l = 0)
include h3
theorem mp_l (h4 : decide (((mTo l l.length).of.length : Int) > 500) = true) : mrgP l = (Fed.z, 4) := by
 rw [List.length_map] at h h2; unfold mrgP
 rw [if_neg (Bool.eq_false_iff.1 h), if_neg (Bool.eq_false_iff.1 h2), h3, if_neg (by decide), if_pos h4]
theorem mp_o (h4 : decide (((mTo l l.length).of.length : Int) > 500) = false) : mrgP l = (mTo l l.length, 0) := by
 rw [List.length_map] at h h2; unfold mrgP
 rw [if_neg (Bool.eq_false_iff.1 h), if_neg (Bool.eq_false_iff.1 h2), h3, if_neg (by decide), if_neg (Bool.eq_false_iff.1 h4)]
end
theorem bf_hit {l : List Fed} {i : Nat} {e : Int} (hi : i < l.length) (h : ((l.map fedE).take i).all (· == 0) = true) (c : fedE (l.getD i Fed.z) = e) (he : e ≠ 0) : badF l = e := by
 have hg : (l.map fedE).getD i 0 = e := by simp [List.getD_eq_getElem?_getD, hi] at c ⊢; exact c
 unfold badF
 rw [firstNe_hit (by simpa using hi) h (by rw [hg]; exact he), hg]
theorem bf_next {l : List Fed} {i : Nat} (hi : i < l.length) (h : ((l.map fedE).take i).all (· == 0) = true) (c : fedE (l.getD i Fed.z) = 0) : ((l.map fedE).take (i + 1)).all (· == 0) = true :=
 all_take_succ (d := 0) (by simpa using hi) h (by simp [List.getD_eq_getElem?_getD, hi] at c ⊢; exact c)
theorem bf_none {l : List Fed} {i : Nat} (hi : l.length ≤ i) (h : ((l.map fedE).take i).all (· == 0) = true) : badF l = 0 := firstNe_none (by simpa using hi) h
def wantTo (l : List Fed) (i : Nat) : Int := firstNe ([if (l.length : Int) == 0 then 9 else 0, if decide ((l.length : Int) > 20) then 4 else 0] ++ (l.take i).map fedE)
theorem want_s {l : List Fed} {i : Nat} (hi : i < l.length) : firstNe [wantTo l i, fedE (l.getD i Fed.z)] = wantTo l (i + 1) := by
 unfold wantTo
 rw [take_getD (d := Fed.z) hi, List.map_append, ← List.append_assoc]
 generalize [if (l.length : Int) == 0 then (9 : Int) else 0, if decide ((l.length : Int) > 20) then 4 else 0] ++ (l.take i).map fedE = q
 show firstNe [firstNe q, _] = firstNe (q ++ [_])
 unfold firstNe
 rw [List.find?_append]
 cases h : q.find? (· != 0) with
 | none => simp [List.find?_cons]
 | some x =>
  have h1 := List.find?_some h
  simp only [Option.getD_some, Option.some_or, List.find?_cons]
  rw [h1]; rfl
theorem want_mrg (l : List Fed) (h : wantTo l l.length ≠ 0) : mrgP l = (Fed.z, wantTo l l.length) := by
 have e : wantTo l l.length = if (l.length : Int) == 0 then 9 else if decide ((l.length : Int) > 20) then 4 else badF l := by
  unfold wantTo
  rw [List.take_length]
  show firstNe (_ :: _ :: l.map fedE) = _
  rw [firstNe_c, firstNe_c]
  cases ((l.length : Int) == 0) <;> cases decide ((l.length : Int) > 20) <;> rfl
 rw [e] at h ⊢
 unfold mrgP
 split
 ·skip
  rfl
 ·skip
  rename_i h1
  rw [if_neg h1] at h
  split
  ·skip
   rfl
  ·skip
   rename_i h2
   rw [if_neg h2] at h
   rw [if_pos (by simpa using h)]
theorem want_ok (l : List Fed) (h : wantTo l l.length = 0) : ((l.length : Int) == 0) = false ∧ decide ((l.length : Int) > 20) = false ∧ badF l = 0 := by
 unfold wantTo at h
 rw [List.take_length] at h
 have h1 := firstNe_zero h
 have a := h1 _ List.mem_cons_self
 have b := h1 _ (List.mem_cons_of_mem _ List.mem_cons_self)
 refine ⟨?_, ?_, ?_⟩
 ·skip
  cases hq : ((l.length : Int) == 0) with
  | false => rfl
  | true => rw [hq] at a; cases a
 ·skip
  cases hq : decide ((l.length : Int) > 20) with
  | false => rfl
  | true => rw [hq] at b; cases b
 ·skip
  unfold badF
  refine firstNe_none (i := (l.map fedE).length) (Nat.le_refl _) (List.all_eq_true.2 fun x hx => ?_)
  rw [List.take_length] at hx
  have := h1 x (by simp only [List.mem_append]; exact .inr hx)
  rw [this]; rfl
end
section
open Go Go.RowKit
inductive LeC : C → C → Prop where
 | refl (c : C) : LeC c c
 | nil (sz : Nat) : LeC (.d .nilsl) (.d (.vec sz []))
inductive LeCs : List C → List C → Prop where
 | nil : LeCs [] []
 | cons {a b : C} {l m : List C} (h : LeC a b) (t : LeCs l m) : LeCs (a :: l) (b :: m)
theorem LeC.rc {a b : C} (h : LeC a b) {g : Gh} {s : Sh} {w : World} {v : Value} (hx : RC g s w a v) : RC g s w b v := by
 cases h with
 | refl => exact hx
 | nil sz =>
  cases hx with | d _ _ h1 =>
  cases h1
  exact .d _ _ (.empty _ _ _)
theorem LeCs.at {l m : List C} (h : LeCs l m) : l.length = m.length ∧ ∀ (i : Nat) (c : C), m[i]? = some c → ∃ a, l[i]? = some a ∧ LeC a c := by
 induction h with
 | nil => exact ⟨rfl, fun i c h => by simp at h⟩
 | cons h _ ih =>
  refine ⟨by simp [ih.1], fun i c hc => ?_⟩
  cases i with
  | zero => simp at hc; subst hc; exact ⟨_, rfl, h⟩
  | succ i => exact ih.2 i c (by simpa using hc)
theorem LeV.agg {l m : List C} (h : LeCs l m) : LeV (.agg l) (.agg m) := fun im w v hv => by
 cases hv with | agg _ vs hl hx =>
 obtain ⟨h1, h2⟩ := h.at
 refine .agg _ _ (hl.trans h1) (fun i c v hc hv => ?_)
 obtain ⟨a, ha, hac⟩ := h2 i c hc
 exact hac.rc (hx i a v ha hv)
end
section
open Go
theorem name_nil : nameB [] = false := by decide
def lsO (p o : Ofr) : Bool := Op.bytesLess o.n p.n || (o.n == p.n && decide (compareR p.v o.v ≥ 0))
theorem ls_eq {p o : Ofr} (hp : offerE p = 0) (ho : offerE o = 0) : lsO p o = decide (cmpO p o ≥ 0) := by
  unfold lsO cmpO
  rw [bytesLess_eq]
  by_cases h : p.n = o.n
  · have h0 : ¬ o.n < p.n := by rw [h]; exact List.lt_irrefl _
    rw [h, bytes_refl, if_neg (by simp), compare_eq (offer_0 hp) (offer_0 ho)]
    rw [h] at h0
    simp [h0]
  · have h1 : (o.n == p.n) = false := beq_eq_false_iff_ne.2 (fun e => h e.symm)
    have h2 : Lib.compareBytes p.n o.n ≠ 0 := fun h3 => h (bytes_0 h3)
    have h3 := cb_lt o.n p.n
    have h4 := cmpBytes_neg p.n o.n
    rw [h1, if_pos (by simpa using h2), Bool.false_and, Bool.or_false]
    rw [decide_eq_decide, ← h3, h4]
    omega
theorem ls_at {l : List Ofr} {i : Nat} (hi : i < l.length) (h : OkTo (ofAt l) i) (he : (offerE (l.getD i Ofr.z) != 0) = false) (h0 : decide ((i : Int) > 0) = true) : lsO (l.getD (i - 1) Ofr.z) (l.getD i Ofr.z) = (decide ((i : Int) > 0) && decide (cmpO (l.getD (i - 1) Ofr.z) (l.getD i Ofr.z) ≥ 0)) := by
 have hi0 : 0 < i := by have := of_decide_eq_true h0; omega
 rw [h0, Bool.true_and, ls_eq (oa_ok (h (i - 1) (by omega))) (by simpa using he)]
theorem ls_no {l : List Ofr} {i : Nat} (h0 : decide ((i : Int) > 0) = false) : (decide ((i : Int) > 0) && decide (cmpO (l.getD (i - 1) Ofr.z) (l.getD i Ofr.z) ≥ 0)) = false := by rw [h0, Bool.false_and]
def preE (f : Fed) : Int := firstNe [if !nameB f.ch then 5 else 0, if !inB f.se 1 1099511627776 || !inB f.ti 0 1099511627776 then 3 else 0, if decide (((f.of.map ofrD).length : Int) > 500) then 4 else 0]
theorem pre_e {f : Fed} (h : (preE f != 0) = true) : fedE f = preE f := by
 unfold preE at h ⊢
 simp only [firstNe_c, List.length_map] at h ⊢
 unfold fedE
 rw [out_in, out_in]
 cases h1 : !nameB f.ch <;> cases h2 : (!inB f.se 1 1099511627776 || !inB f.ti 0 1099511627776) <;> cases h3 : decide ((f.of.length : Int) > 500) <;> simp [h1, h2, h3, firstNe] at h ⊢
theorem pre_0 {f : Fed} (h : (preE f != 0) = false) : fedE f = ofsE f.of := by
 unfold preE at h
 simp only [firstNe_c, List.length_map] at h
 unfold fedE
 rw [out_in, out_in]
 cases h1 : !nameB f.ch <;> cases h2 : (!inB f.se 1 1099511627776 || !inB f.ti 0 1099511627776) <;> cases h3 : decide ((f.of.length : Int) > 500) <;> simp [h1, h2, h3, firstNe] at h ⊢
structure FedA (f : Fed) : Prop where
 c : f.ch.length ≤ 2000000
 n : f.of.length ≤ 2000000
 o : ∀ o ∈ f.of, OfrOk o
abbrev fedV (f : Fed) : V := .agg [.d (.str f.ch), .d (.int .i64 f.se), .d (.int .i64 f.ti), .d (.vec 18 (f.of.map ofrD))]
theorem le_fz {e : Int} {x : Fed × Int} (h : x = (Fed.z, e)) : LeV (.tup [.agg [.d (.str []), .d (.int .i64 0), .d (.int .i64 0), .d .nilsl], .one (.d (.int .i64 e))]) (.tup [fedV x.1, .one (.d (.int .i64 x.2))]) := by
 subst h
 exact LeV.tup2 (LeV.agg (.cons (.refl _) (.cons (.refl _) (.cons (.refl _) (.cons (.nil 18) .nil))))) (LeV.refl _)
theorem le_nf : LeV (.agg [.d (.str []), .d (.int .i64 0), .d (.int .i64 0), .d .nilsl]) (fedV Fed.z) := LeV.agg (.cons (.refl _) (.cons (.refl _) (.cons (.refl _) (.cons (.nil 18) .nil))))
theorem m_next {l : List Fed} {i : Nat} {x : Fed} {y : List Ofr} (hi : i < l.length) (hx : x = mTo l i) {n : Nat} (hn : (l.getD i Fed.z).of.length ≤ n) (hn2 : n ≤ (l.getD i Fed.z).of.length) (hy : y = insTo x.of (l.getD i Fed.z).of n) : (⟨x.ch, mxI x.se (l.getD i Fed.z).se, mxI x.ti (l.getD i Fed.z).ti, y⟩ : Fed) = mTo l (i + 1) := by
 rw [← mTo_s hi, ← hx, hy]
 have : n = (l.getD i Fed.z).of.length := by omega
 rw [this, m_end]; rfl
section
variable {l : List Fed} {i j : Nat} {x : Fed} {y : List Ofr}
theorem y_len (h : FedsOk l) (hl : decide (((l.map fedD).length : Int) > 20) = false) (hi : i < l.length) (hx : x = mTo l i) (hj : j ≤ (l.getD i Fed.z).of.length) (hy : y = insTo x.of (l.getD i Fed.z).of j) : y.length ≤ 20000 := by
 have h0 : l.length ≤ 20 := by rw [List.length_map] at hl; have := of_decide_eq_false hl; omega
 have h1 := mTo_len h i (by omega)
 have h2 := h.n _ (mem_getD (d := Fed.z) hi)
 have h3 := insTo_len x.of (l.getD i Fed.z).of j hj
 rw [hx] at h3
 rw [hy, hx]
 omega
theorem y_mem (hi : i < l.length) (hx : x = mTo l i) (hj : j ≤ (l.getD i Fed.z).of.length) (hy : y = insTo x.of (l.getD i Fed.z).of j) : ∀ o ∈ y, ∃ f ∈ l, o ∈ f.of := fun o ho => by
 rw [hy] at ho
 rcases insTo_mem hj o ho with h | h
 ·skip
  rw [hx] at h; exact mTo_mem (by omega) o h
 ·skip
  exact ⟨_, mem_getD (d := Fed.z) hi, h⟩
end
theorem x_len {l : List Fed} (h : FedsOk l) (hl : decide (((l.map fedD).length : Int) > 20) = false) : (mTo l l.length).of.length ≤ 20000 := by
 have h0 : l.length ≤ 20 := by rw [List.length_map] at hl; have := of_decide_eq_false hl; omega
 have h1 := mTo_len h l.length (Nat.le_refl _)
 omega
theorem fed_pos {l : List Fed} (h : (((l.map fedD).length : Int) == 0) = false) : 0 < l.length := by
 rcases Nat.eq_zero_or_pos l.length with h0 | h0
 ·skip
  rw [List.length_map, h0] at h; cases h
 ·skip
  exact h0
abbrev ctR (a : CT) : List D := [.int .i64 a.k, .str a.n, .str a.v, .vec 4 (CT.ds a.l)]
theorem ct_row {l : List CT} {i : Nat} (h : i < l.length) : (l.map CT.d).getD (0 + ((i : Int)).toNat) [] = ctR (l.getD i CT.z) := by
 rw [Nat.zero_add, Int.toNat_natCast]
 show _ = [_, _, _, _]
 rw [← ct_d]
 simp [List.getD_eq_getElem?_getD, h]
theorem ct_set {l : List CT} {i : Nat} (h : i < l.length) : (l.map CT.d).set (0 + ((i : Int)).toNat) (putD ((l.map CT.d).getD (0 + ((i : Int)).toNat) []) 0 (ctR (l.getD i CT.z))) = l.map CT.d := by
 rw [ct_row h]
 show (l.map CT.d).set (0 + ((i : Int)).toNat) (ctR (l.getD i CT.z)) = _
 rw [← ct_row h, Nat.zero_add, Int.toNat_natCast]
 have hl : i < (l.map CT.d).length := by simpa using h
 rw [List.getD_eq_getElem?_getD, List.getElem?_eq_getElem hl]
 exact List.set_getElem_self hl
end
end Go.Proofs.YtpelfildfidnbaaGreatDoor
namespace Go.Proofs.YtpelfildfidnbaaGreatDoor
section
open Go Go.RowKit
section
variable {J : Inv} {k0 : Lens} {E : Env J k0} {P : Program} {T : TypeId → Option TI} {n : Nat} {t : Nat → V} {b : List (List C)} {r : List (Option RowO)} {m : List (List (DV × DV))} {ops : Array Oper} {l : List Oper}
  {K : St → Prop} {i : Nat} {ty : TypeId} {pos : String} {after : Array Edge}
theorem run_eqNil0 {w : World} {t0 e : TypeId} (d : Nat) (a : Option Addr) (j c : Nat) (h : P.underlying t0 = some (.slice e)) : (Op.equalIn (d + 1) t0 (.slice a j c) (.slice none 0 0)).run P w = .ok a.isNone w := by
 cases a <;> simp [Op.equalIn, run_underlying h]
theorem run_eqNil {w : World} {t0 e : TypeId} {x y : Operand} (a : Option Addr) (j c : Nat) (h : P.underlying t0 = some (.slice e)) :
  ((do eqGuard .eql t0 x y (.slice a j c) (.slice none 0 0); Go.binOp .eql t0 (.slice a j c) (.slice none 0 0)) : Sem Value).run P w = .ok (.bool a.isNone) w := by
 have h1 : (eqGuard .eql t0 x y (.slice a j c) (.slice none 0 0)).run P w = .ok () w := rfl
 have h2 : (Op.equal t0 (.slice a j c) (.slice none 0 0)).run P w = .ok a.isNone w := run_eqNil0 9999 a j c h
 simp only [Sem.run_bind, h1, Result.andThen_ok]
 unfold Go.binOp
 simp only [Sem.run_bind, h2, Result.andThen_ok, Sem.run_pure]
theorem S.eqNil (hT : TabOk P T) {t0 t1 e : TypeId} {ti : TI} {x y : Operand} {sz : Nat} {xs : List (List D)} (hti : T t0 = some ti) (hd : ti.desc = .slice e) (hx : opd n ⟨t, b, r, m⟩ x = (true, .one (.d (.vec sz xs)))) (hy : y = .const (.slice none 0 0))
    (k : ∀ q : Bool, (q = true → xs = []) → WL E P n ops l K ⟨upd t i (.one (.d (.bool q))), b, r, m⟩) : WL E P n ops (⟨some i, .binOp .eql t0 x y t1, ty, pos, after, none⟩ :: l) K ⟨t, b, r, m⟩ := by
  subst hy
  intro g a w rel next Q hn
  have hw : Region.wanted (⟨some i, .binOp .eql t0 x (.const (.slice none 0 0)) t1, ty, pos, after, none⟩ : Oper) (yielded ops a.tmps) = true := by simp [Region.wanted]
  rw [if_pos hw]
  have hv := opd_ok rel hx rfl
  have h1 := (hT t0 ti hti).1
  rw [hd] at h1
  have hsl : ∃ A j c, a.eval x = .slice A j c ∧ (A.isNone = true → xs = []) := by
    generalize a.eval x = xv at hv
    cases hv with | one _ _ hv => cases hv with | d _ _ hv => cases hv with
      | empty A c => exact ⟨_, _, _, rfl, fun _ => rfl⟩
      | vec b' o c u hne hc hb hsz hcell hrd => exact ⟨_, _, _, rfl, fun h => by cases h⟩
  obtain ⟨A, j, c, he, hn0⟩ := hsl
  have hex : (execOp a.eval (⟨some i, .binOp .eql t0 x (.const (.slice none 0 0)) t1, ty, pos, after, none⟩ : Oper)).run P w = .ok (.value (.bool A.isNone)) w := by
    show ((do let v ← ((do eqGuard .eql t0 x (.const (.slice none 0 0)) (a.eval x) (.slice none 0 0); Go.binOp .eql t0 (a.eval x) (.slice none 0 0)) : Sem Value); Pure.pure (Next.value v)) : Sem Next).run P w = _
    rw [he, Sem.run_bind, run_eqNil A j c h1]
    simp only [Result.andThen_ok, Sem.run_pure]
  unfold Oper.wp
  rw [hex]
  exact hn _ g _ _ (k A.isNone hn0) (rel.put_same (some i) (.one _ _ (.d _ _ (.bool _))))
end
end
end Go.Proofs.YtpelfildfidnbaaGreatDoor
namespace Go.Proofs.YtpelfildfidnbaaGreatDoor
section
open Go Go.RowKit
section
variable {J : Inv} {k0 : Lens} {E : Env J k0} {P : Program} {T : TypeId → Option TI} {n : Nat} {t : Nat → V} {b : List (List C)} {r : List (Option RowO)} {m : List (List (DV × DV))} {ops : Array Oper} {l : List Oper}
  {K : St → Prop} {i : Nat} {ty : TypeId} {pos : String} {after : Array Edge}
theorem forceL_self {α : Type} : ∀ l : List α, forceL l = some l
 | [] => rfl
 | c :: l => by unfold forceL; rw [forceL_self l]
theorem Rel.freezeRow {g : Gh} {a : Act} {w : World} (rel : Rel E n g ⟨t, b, r, m⟩ a w) {ri : Nat} {q : RowO} (ks : List Nat) (hq : r[ri]? = some (some q)) (hk : ∀ k ∈ ks, t k = .one (.row ri q.ver 0 q.xs.length)) :
    ∃ g', Rel E n g' ⟨updL t ks (.one (.d (.vec q.sz q.xs))), b, r.set ri none, m⟩ a w := by
  have hr : ri < r.length := (List.getElem?_eq_some_iff.1 hq).1
  have hlive : ∀ x, (⟨updL t ks (.one (.d (.vec q.sz q.xs))), b, r.set ri none, m⟩ : St).live x → (⟨t, b, r, m⟩ : St).live x ∧ x ≠ .r ri := fun x hx => by
    cases x with
    | b l => exact ⟨hx, by simp⟩
    | m l => exact ⟨hx, by simp⟩
    | r l =>
      obtain ⟨o, ho, hal⟩ := hx
      have ho : (r.set ri none)[l]? = some (some o) := ho
      by_cases e : ri = l
      · subst e; simp [List.getElem?_set, hr] at ho
      · exact ⟨⟨o, by simpa [List.getElem?_set, e] using ho, hal⟩, fun h => e (by injection h with h; exact h.symm)⟩
  have ho : (⟨t, b, r, m⟩ : St).r[ri]? = some (some q) := hq
  have hrl : q.al = true → (⟨t, b, r, m⟩ : St).live (.r ri) := fun h => ⟨q, hq, h⟩
  have ext : Ext g (⟨t, b, r, m⟩ : St).sh w ⟨fun x => g.im x ∨ (q.al = true ∧ x = g.at_ (.r ri)), g.at_, g.off, g.cap⟩ (⟨updL t ks (.one (.d (.vec q.sz q.xs))), b, r.set ri none, m⟩ : St).sh w := by
    refine ⟨fun _ h => .inl h, fun _ _ => rfl, Nat.le_refl _, Nat.le_refl _, by simp [St.sh], fun _ _ => rfl, fun _ _ => rfl, fun k al ver sz' len hk' hh => ?_⟩
    by_cases e : ri = k
    · subst e; simp [St.sh, List.getElem?_set, hr] at hh
    · exact ⟨al, ver, sz', len, by simpa [St.sh, List.getElem?_set, e] using hh, Nat.le_refl _, fun _ => ⟨rfl, rfl, Nat.le_refl _, rfl, rfl, rfl⟩⟩
  refine ⟨⟨fun x => g.im x ∨ (q.al = true ∧ x = g.at_ (.r ri)), g.at_, g.off, g.cap⟩, rel.below, rel.ext.trans ext, fun x hx => ?_, fun x hx => ?_, fun x hx => rel.own x (hlive x hx).1, ⟨fun x hx => rel.heap.lt x (hlive x hx).1, fun x hx => ?_, fun x y hx hy => rel.heap.inj x y (hlive x hx).1 (hlive y hy).1, fun k cs hk' => ?_, fun k o hk' => ?_, fun k es hk' => ?_⟩, rel.size, rel.defers, fun j hj => ?_⟩
  · rcases hx with h | ⟨h1, h2⟩
    · exact rel.imlt x h
    · rw [h2]; exact rel.heap.lt _ (hrl h1)
  · rcases hx with h | ⟨h1, h2⟩
    · exact rel.imold x h
    · rw [h2]; exact .inr (rel.own _ (hrl h1))
  · rintro (h | ⟨h1, h2⟩)
    · exact rel.heap.new x (hlive x hx).1 h
    · exact (hlive x hx).2 (rel.heap.inj x _ (hlive x hx).1 (hrl h1) h2)
  · obtain ⟨vs, ty, h1, h2, h3⟩ := rel.heap.box k cs hk'
    exact ⟨vs, ty, h1, h2, fun j c v hc hv => (h3 j c v hc hv).mono ext⟩
  · have hk' : (r.set ri none)[k]? = some (some o) := hk'
    by_cases e : ri = k
    · subst e; simp [List.getElem?_set, hr] at hk'
    · have h1 := rel.heap.row k o (by simpa [List.getElem?_set, e] using hk')
      by_cases hal : o.al = true
      · rw [if_pos hal] at h1 ⊢
        obtain ⟨vs, t', q1, q2, q3, q4, q5, q6⟩ := h1
        exact ⟨vs, t', q1, q2, q3, q4, q5, fun i j x d v p1 p2 p3 => (q6 i j x d v p1 p2 p3).mono ext.im ext.same⟩
      · rw [if_neg hal] at h1 ⊢; exact h1
  · obtain ⟨arr, clock, h1, h2, h3⟩ := rel.heap.map k es hk'
    exact ⟨arr, clock, h1, h2, fun i x e hx he => ⟨(h3 i x e hx he).1.mono ext, (h3 i x e hx he).2.mono ext⟩⟩
  · rcases updL_or t (.one (.d (.vec q.sz q.xs))) ks j with ⟨h1, h2⟩ | h1
    · have hup : (⟨updL t ks (.one (.d (.vec q.sz q.xs))), b, r.set ri none, m⟩ : St).t j = .one (.d (.vec q.sz q.xs)) := h1
      rw [hup]
      have hv := rel.tmps j hj
      have e1 : (⟨t, b, r, m⟩ : St).t j = .one (.row ri q.ver 0 q.xs.length) := hk j h2
      rw [e1] at hv
      obtain ⟨flat, hown, hnil, hblk, hcells, hrows⟩ := row_form rel ho hv
      refine .one _ _ (.d _ _ ?_)
      rcases hown.2 with ⟨hv2, h0⟩ | ⟨bb, cap, cur, hv2, hb2, hc2, hn2, hm2, hs2, ht2⟩
      · rw [hv2, List.length_eq_zero_iff.1 h0]; exact .empty _ _ _
      · have hal : q.al = true := by
          cases hh : q.al with
          | true => rfl
          | false => have := hnil.2 hh; rw [this] at hv2; cases hv2
        have hbb : bb = g.at_ (.r ri) := by have := hblk hal; rw [hv2] at this; exact Option.some.inj this
        by_cases hne : q.xs = []
        · rw [hv2, hne]; exact .empty _ _ _
        · rw [hv2]
          have hat : ∀ (i j : Nat) (x : List D) (d : D), q.xs[i]? = some x → x[j]? = some d → ∃ v, w.cell? ⟨bb, 0 + i * q.sz + j, none⟩ = some v ∧ RD (fun x => g.im x ∨ (q.al = true ∧ x = g.at_ (.r ri))) w d v := fun i j x d p1 p2 => by
            have hj' : j < q.sz := by
              have h3 := (List.getElem?_eq_some_iff.1 p2).1
              rw [hrows x (List.mem_of_getElem? p1)] at h3; exact h3
            have hi := (List.getElem?_eq_some_iff.1 p1).1
            have hk2 : i * q.sz + j < q.xs.length * q.sz := by
              have := Nat.mul_le_mul_right q.sz (show i + 1 ≤ q.xs.length from hi)
              rw [Nat.add_mul, Nat.one_mul] at this; omega
            have hf : flat[i * q.sz + j]? = some (flat[i * q.sz + j]'(by rw [hown.1]; exact hk2)) := List.getElem?_eq_getElem _
            refine ⟨_, ?_, (hcells i j x d _ p1 p2 hf).mono (fun _ h => .inl h) (fun _ _ => rfl)⟩
            have hf2 : (cur.toList.take (q.xs.length * q.sz))[i * q.sz + j]? = some (flat[i * q.sz + j]'(by rw [hown.1]; exact hk2)) := by rw [ht2]; exact hf
            rw [List.getElem?_take, if_pos hk2] at hf2
            simp only [Nat.zero_add, World.cell?, hc2, Option.isSome_none, Bool.false_eq_true, if_false]
            simpa using hf2
          exact RD.vec q.sz q.xs bb 0 cap (fun i j => (w.cell? ⟨bb, 0 + i * q.sz + j, none⟩).getD undef) hne hn2 (.inr ⟨hal, hbb⟩) hrows
            (fun i j x d p1 p2 => by obtain ⟨v, h3, _⟩ := hat i j x d p1 p2; rw [h3]; rfl)
            (fun i j x d p1 p2 => by obtain ⟨v, h3, h4⟩ := hat i j x d p1 p2; simp only [h3, Option.getD_some]; exact h4)
    · have hup : (⟨updL t ks (.one (.d (.vec q.sz q.xs))), b, r.set ri none, m⟩ : St).t j = t j := h1
      rw [hup]
      exact (rel.tmps j hj).mono ext
theorem Step.weak {o : Oper} {K K' : St → Prop} {s : St} (h : Step E P n ops o K s) (hk : ∀ s g a w, K s → Rel E n g s a w → ∃ g' s', K' s' ∧ Rel E n g' s' a w) : Step E P n ops o K' s :=
 fun g a w rel next Q hn => h g a w rel next Q (fun s' g' a' w' h1 h2 => by
  obtain ⟨g2, s2, h3, h4⟩ := hk s' g' a' w' h1 h2
  exact hn s2 g2 a' w' h3 h4)
end
end
end Go.Proofs.YtpelfildfidnbaaGreatDoor
namespace Go.Proofs.YtpelfildfidnbaaGreatDoor
section
open Go Go.RowKit
inductive LeVs : List V → List V → Prop where
 | nil : LeVs [] []
 | cons {a b : V} {xs ys : List V} : LeV a b → LeVs xs ys → LeVs (a :: xs) (b :: ys)
theorem LeVs.len {xs ys : List V} (h : LeVs xs ys) : xs.length = ys.length := by
 induction h with
 | nil => rfl
 | cons _ _ ih => simp [ih]
theorem LeVs.get {xs ys : List V} (h : LeVs xs ys) : ∀ {i : Nat} {u : V}, ys[i]? = some u → ∃ u', xs[i]? = some u' ∧ LeV u' u := by
 induction h with
 | nil => intro i u h; simp at h
 | cons h1 _ ih =>
  intro i u h
  cases i with
  | zero => simp at h; subst h; exact ⟨_, rfl, h1⟩
  | succ i => simp at h; simpa using ih h
theorem PureCall.le {P : Program} {J : Inv} {f : FuncId} {args args' : List V} {r : V} (pc : PureCall P J f args r) (h : LeVs args' args) : PureCall P J f args' r :=
 ⟨pc.enter, fun im w vs hJ hi hl hx => pc.calls im w vs hJ hi (hl.trans h.len) (fun i u v hu hv => by
  obtain ⟨u', h1, h2⟩ := h.get hu
  exact h2 im w v (hx i u' v h1 hv))⟩
end
end Go.Proofs.YtpelfildfidnbaaGreatDoor
namespace Go.Proofs.YtpelfildfidnbaaGreatDoor
section
open Go Go.RowKit
variable {J : Inv} {k0 : Lens} {E : Env J k0} {P : Program} {T : TypeId → Option TI} {n : Nat} {t : Nat → V} {b : List (List C)} {r : List (Option RowO)} {m : List (List (DV × DV))} {ops : Array Oper} {l : List Oper} {K : St → Prop}
  {i : Nat} {ty : TypeId} {pos : String} {after : Array Edge}
theorem D.pureEGc (hT : TabOk P T) (hZ : ZeroOk T) {op : Op} {ok c : Bool} {v0 v1 v : V} {j : Nat} {want : Bool} (hcl : Nat.blt (cls op) 2 = true) (hg : guardV n ops t j want = some c)
  (he : evP T n ⟨bare t, b, r, m⟩ op = some (ok, v0)) (htg : allT c (tagsO t op.operands.toList)) (hok : c = true → ok = true) (hv : c = true → v0 = v1) (hf : forceV v1 = some v)
  (k : WD E P n ops l K ⟨upd t i (.when c v), b, r, m⟩) : WD E P n ops (⟨some i, op, ty, pos, after, some (j, want)⟩ :: l) K ⟨t, b, r, m⟩ := by
 cases c with
 | true => exact D.pureG hT hZ hcl hg he htg hok (hv rfl ▸ hf) k
 | false =>
  obtain rfl := forceV_eq hf
  have hlt : cls op < 2 := by simpa [Nat.blt_eq] using hcl
  exact ⟨.when false v1, b, .of (show cls op = 0 ∨ cls op = 1 by omega) (fun t' b1 ht hb => .of_runG (o := ⟨some i, op, ty, pos, after, some (j, want)⟩) rfl ((looks_guard (o := ⟨some i, op, ty, pos, after, some (j, want)⟩) rfl ht).trans hg) (fun hc => absurd hc (by decide))), k⟩
end
section
open Go
open Go.RowKit
attribute [local irreducible] thenK blockK W
attribute [local irreducible] rangeE checkP errR Ver.check visit visits offerE firstNe rangeB rangeR pathB nameB valueB orderB compareR fedE ofsE ofAt cmpO cmpR
theorem ofr_fl {o : Ofr} (ho : OfrOk o) : o.f.length ≤ 1000000000 := by have := ho.fl; omega
theorem dec_rowO {i : Nat} (h : decide ((i : Int) > 0) = true) (hi : i ≤ 2000000) : V.one (.d (.int .i64 (IntKind.i64.wrap ((i : Int) - 1)))) = V.one (.d (.int .i64 ((i - 1 : Nat) : Int))) := by
 have h1 : 0 < i := by simpa using h
 rw [wrap_i64 (by omega) (by omega), show ((i : Int) - 1) = ((i - 1 : Nat) : Int) by omega]
theorem pc_feed_outside (n l h : Int) :
  PureCall Tryz.prog J 114 [.one (.d (.int .i64 n)), .one (.d (.int .i64 l)), .one (.d (.int .i64 h))] (.one (.d (.bool (outsideB n l h)))) := by
 refine PureCall.of_body tOk (fn := Tryz.f114) Tryz.func114 (by kernel_rfl) rfl (Nat.le_of_ble_eq_true rfl) (fun E => ?_)
 iterate 14 first|refine S.pickOr tOk zOk rfl rfl tg ?_|refine Yp rfl ?_|refine Yg rfl rfl tg ?_|apply Yt|apply Y3|apply Y1|apply Yn
 exact ⟨_, rfl, rfl, LeV.refl _⟩
theorem pc_isSum (s : List UInt8) (hs : s.length ≤ 4294967000) :
  PureCall Tryz.prog J 171 [.one (.d (.str s))] (.one (.d (.bool (isSumB s)))) := by
 refine PureCall.of_body tOk (fn := Tryz.f171) Tryz.func171 (by kernel_rfl) rfl (Nat.le_of_ble_eq_true rfl) (fun E => ?_)
 iterate 8 first|refine Yp rfl ?_|apply Yb|apply Y1|apply Yn|apply Ys
 refine W.loop (fun k st => ∃ i : Nat, i ≤ s.length ∧ (s.take i).all hexCh = true ∧ k = s.length - i ∧ ∃ t b2 r2 m2, st = ⟨t, [] ++ b2, [] ++ r2, [] ++ m2⟩ ∧ holdsL t [(0, .one (.d (.str s))), (3, .one (.d (.int .i64 (i : Int))))]) (s.length) ⟨0, Nat.zero_le _, by simp, rfl, _, _, _, _, rfl, rfl, rfl, trivial⟩ ?_
 rintro k0 _ ⟨i, f0_0, f0_1, rfl, t0, bb0, rr0, mm0, rfl, hh0⟩
 refine W.keepR _ _ _ _ _ _ _ hh0 rfl ?_
 apply Ys
 apply Y1
 iterate 4 refine Yp rfl ?_
 apply Yn
 refine W.cond rfl (fun c1=>?_) fun c1=>?_
 ·skip
  have hi : i < s.length := by simpa using c1
  iterate 7 first|refine Yp rfl ?_|apply Yb|apply Yk|apply Y1|apply Ys|apply Yn
  refine YP rfl (str_ok hi) rfl ?_
  iterate 4 first|refine Yg rfl rfl tg ?_|refine Yp rfl ?_
  refine YG rfl rfl tg (fun h => str_ok hi) rfl ?_
  iterate 5 first|refine S.pickAnd tOk zOk rfl rfl tg ?_|refine Yg rfl rfl tg ?_|refine Yp rfl ?_
  refine YG rfl rfl tg (fun h => str_ok hi) rfl ?_
  iterate 4 refine Yg rfl rfl tg ?_
  refine YG rfl rfl tg (fun h => str_ok hi) rfl ?_
  refine Yg rfl rfl tg ?_
  refine S.pickAndG tOk zOk rfl rfl rfl tg tg ?_
  refine S.pickOr tOk zOk rfl rfl tg ?_
  refine Yp rfl ?_
  apply Yn
  refine W.cond rfl (fun c2=>?_) fun c2=>?_
  ·skip
   have hf : hexCh (s.getD i 0) = false := by
    have h : (!(hexCh (s.getD i 0))) = true := c2
    simpa using h
   iterate 9 first|apply Yu|apply Yv|apply Yt|refine Yp rfl ?_|apply Y1|apply Yn
   exact Yz rfl rfl rfl (by rw [isSumB, all_false_of (d := 0) hi hf]; rfl)
  have hg : hexCh (s.getD i 0) = true := by
   have h : (!(hexCh (s.getD i 0))) = false := c2
   simpa using h
  apply Yk
  apply Yw
  apply Y4
  iterate 3 refine Yp rfl ?_
  refine loop_n (s.length - (i + 1)) (by omega) ⟨i + 1, hi, all_take_succ (d := 0) hi f0_1 hg, rfl, _, _, _, _, rfl, rfl, inc_i64 (by omega), trivial⟩
 have hi : s.length ≤ i := by simpa using c1
 iterate 11 first|refine Yp rfl ?_|apply Ye|apply Yt|apply Yx|apply Yq|apply Y3|apply Yn
 exact Yz rfl rfl rfl (by rw [isSumB, all_of_take hi f0_1]; rfl)
theorem pc_offerFault (o : Ofr) (ho : OfrOk o) :
  PureCall Tryz.prog J 115 [ofrV o] (.one (.d (.int .i64 (offerE o)))) := by
 refine PureCall.of_body tOk (fn := Tryz.f115) Tryz.func115 (by kernel_rfl) rfl (Nat.le_of_ble_eq_true rfl) (fun E => ?_)
 iterate 8 first|refine Yp rfl ?_|refine S.box rfl rfl rfl rfl ?_|apply Y1|apply Ys|apply Yn
 refine S.call rfl rfl rfl rfl rfl (pc_ver_IsName o.n (by have := ho.n; omega)) ?_
 refine Yp rfl ?_
 apply Yn
 refine W.cond rfl (fun c1=>?_) fun c1=>?_
 ·skip
  apply Y1
  refine Yp rfl ?_
  apply Yn
  apply Yt
  apply Yu
  exact Yz rfl rfl rfl (by (try simp only [List.toList_toArray, Int.toNat_zero] at c1); simp only [offerE, c1, Bool.false_eq_true, if_false, if_true, reduceIte] <;> rfl)
 apply Yk
 apply Yn
 apply Ys
 apply Y1
 iterate 2 refine Yp rfl ?_
 refine S.call rfl rfl rfl rfl rfl (pc_ver_Check o.v (by have := ho.e; omega)) ?_
 iterate 5 first|refine Yp rfl ?_|apply Y3|apply Yn
 refine W.cond rfl (fun c2=>?_) fun c2=>?_
 ·skip
  iterate 6 first|refine Yp rfl ?_|apply Yu|apply Yt|apply Y1|apply Yn
  exact Yz rfl rfl rfl (by (try simp only [List.toList_toArray, Int.toNat_zero] at c1 c2); simp only [offerE, c1, c2, Bool.false_eq_true, if_false, if_true, reduceIte] <;> rfl)
 apply Yk
 apply Yn
 apply Ys
 apply Y1
 iterate 2 refine Yp rfl ?_
 refine S.call rfl rfl rfl rfl rfl (pc_isSum o.sm (by have := ho.sm; omega)) ?_
 refine Yp rfl ?_
 apply Yn
 refine W.cond rfl (fun c3=>?_) fun c3=>?_
 ·skip
  apply Y1
  refine Yp rfl ?_
  apply Yn
  apply Yt
  apply Yu
  exact Yz rfl rfl rfl (by (try simp only [List.toList_toArray, Int.toNat_zero] at c1 c2 c3); simp only [offerE, c1, c2, c3, Bool.false_eq_true, if_false, if_true, reduceIte] <;> rfl)
 apply Yk
 apply Yn
 apply Ys
 apply Y1
 iterate 2 refine Yp rfl ?_
 refine S.call rfl rfl rfl rfl rfl (pc_ver_CheckRange o.f (ofr_fl ho) ho.fs) ?_
 iterate 5 first|refine Yp rfl ?_|apply Y3|apply Yn
 refine W.cond rfl (fun c4=>?_) fun c4=>?_
 ·skip
  iterate 6 first|refine Yp rfl ?_|apply Yu|apply Yt|apply Y1|apply Yn
  exact Yz rfl rfl rfl (by (try simp only [List.toList_toArray, Int.toNat_zero] at c1 c2 c3 c4); simp only [offerE, c1, c2, c3, c4, Bool.false_eq_true, if_false, if_true, reduceIte] <;> rfl)
 apply Yk
 apply Yn
 apply Ys
 apply Y1
 iterate 2 refine Yp rfl ?_
 refine S.call rfl rfl rfl rfl rfl (pc_ver_CheckCond o.w ho.w) ?_
 iterate 5 first|refine Yp rfl ?_|apply Y3|apply Yn
 refine W.cond rfl (fun c5=>?_) fun c5=>?_
 ·skip
  iterate 6 first|refine Yp rfl ?_|apply Yu|apply Yt|apply Y1|apply Yn
  exact Yz rfl rfl rfl (by (try simp only [List.toList_toArray, Int.toNat_zero] at c1 c2 c3 c4 c5); simp only [offerE, c1, c2, c3, c4, c5, Bool.false_eq_true, if_false, if_true, reduceIte] <;> rfl)
 apply Yk
 apply Yn
 apply Ys
 apply Y1
 iterate 2 refine Yp rfl ?_
 refine S.call rfl rfl rfl rfl rfl (pc_feed_outside _ _ _) ?_
 refine Yp rfl ?_
 iterate 2 refine Yg rfl rfl tg ?_
 refine S.callG rfl rfl rfl rfl tg rfl rfl (fun h => pc_feed_outside _ _ _) ?_
 refine S.pickOr tOk zOk rfl rfl tg ?_
 refine Yp rfl ?_
 iterate 2 refine Yg rfl rfl tg ?_
 refine S.callG rfl rfl rfl rfl tg rfl rfl (fun h => pc_feed_outside _ _ _) ?_
 refine S.pickOr tOk zOk rfl rfl tg ?_
 apply Yn
 refine W.cond rfl (fun c6=>?_) fun c6=>?_
 ·skip
  apply Y1
  refine Yp rfl ?_
  apply Yn
  apply Yt
  apply Yu
  exact Yz rfl rfl rfl (by (try simp only [List.toList_toArray, Int.toNat_zero] at c1 c2 c3 c4 c5 c6); simp only [offerE, c1, c2, c3, c4, c5, c6, Bool.false_eq_true, if_false, if_true, reduceIte] <;> rfl)
 apply Yk
 apply Y3
 refine Yp rfl ?_
 apply Yn
 apply Yt
 exact Yz rfl rfl rfl (by (try simp only [List.toList_toArray, Int.toNat_zero] at c1 c2 c3 c4 c5 c6); simp only [offerE, c1, c2, c3, c4, c5, c6, Bool.false_eq_true, if_false, if_true, reduceIte] <;> rfl)
theorem pc_OfferError (o : Ofr) (ho : OfrOk o) :
  PureCall Tryz.prog J 65 [ofrV o] (.one (.d (.int .i64 (offerE o)))) := by
 refine PureCall.of_body tOk (fn := Tryz.f65) Tryz.func65 (by kernel_rfl) rfl (Nat.le_of_ble_eq_true rfl) (fun E => ?_)
 iterate 11 first|refine Yp rfl ?_|refine Yg rfl rfl tg ?_|refine S.box rfl rfl rfl rfl ?_|apply Y3|apply Y1
 refine S.callG rfl rfl rfl rfl tg rfl rfl (fun h => pc_outref2_Of o.sm hexD (by decide) (by decide) (by have := ho.sm; omega)) ?_
 refine S.pickAnd tOk zOk rfl rfl tg ?_
 refine Yp rfl ?_
 apply Yn
 apply Ys
 refine W.regionD mixed (by kernel_rfl) ?_
 iterate 2 refine Ym rfl rfl ?_
 refine D.call rfl rfl rfl rfl rfl (pc_outref2_NameOf o.n (by have := ho.n; omega)) ?_
 refine Ym rfl rfl ?_
 refine D.call rfl rfl rfl rfl rfl (pc_outref2_When _ 5) ?_
 iterate 2 refine Ym rfl rfl ?_
 refine D.slice tOk rfl rfl ?_
 refine D.call rfl rfl rfl rfl rfl (pc_verr1 o.v (by have := ho.e; omega)) ?_
 iterate 2 refine Ym rfl rfl ?_
 refine D.call rfl rfl rfl rfl rfl (pc_outref2_When _ 2) ?_
 iterate 2 refine Ym rfl rfl ?_
 refine D.call rfl rfl rfl rfl rfl (pc_outref2_RangeError o.f (ofr_fl ho) ho.fs) ?_
 iterate 2 refine Ym rfl rfl ?_
 refine D.call rfl rfl rfl rfl rfl (pc_CondErr o.w ho.w) ?_
 iterate 2 refine Ym rfl rfl ?_
 refine D.call rfl rfl rfl rfl rfl (pc_outref2_In _ _ _) ?_
 iterate 4 first|refine Yy rfl rfl rfl tg ?_|refine Ym rfl rfl ?_
 refine D.callG rfl rfl rfl rfl tg rfl rfl (fun h => pc_outref2_In _ _ _) ?_
 refine Yy rfl rfl rfl tg ?_
 refine D.pickOr tOk zOk rfl rfl tg ?_
 refine Ym rfl rfl ?_
 iterate 2 refine Yy rfl rfl rfl tg ?_
 refine D.callG rfl rfl rfl rfl tg rfl rfl (fun h => pc_outref2_In _ _ _) ?_
 refine Yy rfl rfl rfl tg ?_
 refine D.pickOr tOk zOk rfl rfl tg ?_
 refine D.call rfl rfl rfl rfl rfl (pc_outref2_When _ 3) ?_
 refine D.slice tOk rfl rfl ?_
 refine D.call rfl rfl rfl rfl rfl (pc_outref2_First [if !nameB o.n then 5 else 0, o.v.check, if !sumOk o.sm then 2 else 0, rangeE o.f, errR o.w, if (!inB o.b 0 1099511627776 || !inB o.s 0 1000) || !inB o.g 0 1000 then 3 else 0] (by simp)) ?_
 refine Ym rfl rfl ?_
 apply Yn
 apply Yt
 exact Yz rfl rfl rfl (by show V.one (C.d (D.int .i64 (offerR o))) = _; rw [offer_eq ho.ww])
theorem pc_MergeNil  :
  PureCall Tryz.prog J 15 [.one (.d .nilsl)] (.tup [.agg [.d (.str []), .d (.int .i64 0), .d (.int .i64 0), .d .nilsl], .one (.d (.int .i64 9))]) := by
 refine PureCall.of_body tOk (fn := Tryz.f15) Tryz.func15 (by kernel_rfl) rfl (Nat.le_of_ble_eq_true rfl) (fun E => ?_)
 iterate 10 first|refine Yp rfl ?_|refine S.alloc tOk rfl rfl rfl rfl ?_|apply Y1|apply Yn|apply Ys
 refine W.condT rfl rfl ?_
 iterate 7 first|refine Yp rfl ?_|apply Yu|apply Yt|refine S.store tOk rfl rfl rfl rfl rfl rfl rfl rfl ?_|apply Y1|apply Yn
 exact ⟨_, rfl, rfl, LeV.refl _⟩
theorem pc_CheckZ  :
  PureCall Tryz.prog J 62 [.agg [.d (.str []), .d (.int .i64 0), .d (.int .i64 0), .d .nilsl]] (.one (.d (.int .i64 5))) := by
 refine PureCall.of_body tOk (fn := Tryz.f62) Tryz.func62 (by kernel_rfl) rfl (Nat.le_of_ble_eq_true rfl) (fun E => ?_)
 iterate 9 first|refine Yp rfl ?_|apply Yb|refine S.box rfl rfl rfl rfl ?_|apply Y1|apply Ys|apply Yn
 refine S.call rfl rfl rfl rfl rfl (pc_ver_IsName [] (by decide)) ?_
 iterate 2 refine Yp rfl ?_
 apply Yn
 refine W.cond rfl (fun c1=>?_) fun c1=>?_
 ·skip
  apply Y1
  refine Yp rfl ?_
  apply Yn
  apply Yt
  apply Yv
  apply Yu
  exact ⟨_, rfl, rfl, LeV.refl _⟩
 exact absurd c1 (by rw [name_nil]; decide)
theorem pc_outlaw2_feeds  :
  PureCall Tryz.prog J 19 [] (.one (.d (.bool true))) := by
 refine PureCall.of_body tOk (fn := Tryz.f19) Tryz.func19 (by kernel_rfl) rfl (Nat.le_of_ble_eq_true rfl) (fun E => ?_)
 apply Y1
 refine Yp rfl ?_
 apply Y3
 refine S.call rfl rfl rfl rfl rfl (pc_MergeNil) ?_
 iterate 11 first|refine Yp rfl ?_|refine Yg rfl rfl tg ?_|refine S.store tOk rfl rfl rfl rfl rfl rfl rfl rfl ?_|refine S.alloc tOk rfl rfl rfl rfl ?_|apply Y3
 refine S.callG rfl rfl rfl rfl tg rfl rfl (fun h => pc_CheckZ) ?_
 refine Yg rfl rfl tg ?_
 refine S.pickAnd tOk zOk rfl rfl tg ?_
 refine Yp rfl ?_
 apply Yn
 apply Yt
 exact ⟨_, rfl, rfl, LeV.refl _⟩
theorem pc_EqualCond (l : List CT) (hl : l.length ≤ 4294967000) (hc : ∀ a ∈ l, PureCall Tryz.prog J 128 [ctV a, ctV a] (.one (.d (.bool true)))) :
  PureCall Tryz.prog J 194 [.one (.d (.vec 4 (l.map CT.d))), .one (.d (.vec 4 (l.map CT.d))), .one (.d (.fn 128))] (.one (.d (.bool true))) := by
 refine PureCall.of_body tOk (fn := Tryz.f194) Tryz.func194 (by kernel_rfl) rfl (Nat.le_of_ble_eq_true rfl) (fun E => ?_)
 iterate 11 first|refine Yp rfl ?_|apply Y1|apply Yn|apply Ys
 refine W.cond rfl (fun c1=>?_) fun c1=>?_
 ·skip
  exact absurd c1 (by simp)
 iterate 9 first|refine Yp rfl ?_|apply Yb|apply Yk|apply Y1|apply Yn|apply Ys
 refine W.loop (fun k st => ∃ i : Nat, i ≤ l.length ∧ k = l.length - i ∧ ∃ t b2 r2 m2, st = ⟨t, [] ++ b2, [] ++ r2, [] ++ m2⟩ ∧ holdsL t [(1, .one (.d (.vec 4 (l.map CT.d)))), (2, .one (.d (.fn 128))), (15, .one (.d (.vec 4 (l.map CT.d)))), (16, .one (.d (.int .i64 ((l.map CT.d).length : Int)))), (17, .one (.d (.int .i64 (i : Int))))]) (l.length) ⟨0, Nat.zero_le _, rfl, _, _, _, _, rfl, rfl, rfl, rfl, rfl, rfl, trivial⟩ ?_
 rintro k0 _ ⟨i, f0_0, rfl, t0, bb0, rr0, mm0, rfl, hh0⟩
 refine W.keepR _ _ _ _ _ _ _ hh0 rfl ?_
 apply Y1
 refine Yp rfl ?_
 apply Yn
 apply Ys
 refine W.cond rfl (fun c2=>?_) fun c2=>?_
 ·skip
  have hi := row_lt c2
  apply Yk
  apply Yn
  apply Ys
  apply Yb
  apply Y1
  refine Yp rfl ?_
  refine YE rfl (row_ok hi) (getD_map_ct hi) rfl ?_
  iterate 7 first|refine Yp rfl ?_|refine S.store tOk rfl rfl rfl rfl rfl rfl rfl rfl ?_|refine S.alloc tOk rfl rfl rfl rfl ?_|apply Y3
  refine YE rfl (row_ok hi) (getD_map_ct hi) rfl ?_
  iterate 7 first|refine Yp rfl ?_|refine S.store tOk rfl rfl rfl rfl rfl rfl rfl rfl ?_|refine S.alloc tOk rfl rfl rfl rfl ?_|apply Y3
  refine S.call rfl rfl rfl rfl rfl (hc (l.getD i CT.z) (mem_ct hi)) ?_
  refine Yp rfl ?_
  apply Yn
  refine W.cond rfl (fun c3=>?_) fun c3=>?_
  ·skip
   exact absurd c3 (by simp)
  apply Yk
  apply Yw
  apply Y4
  iterate 2 refine Yp rfl ?_
  refine loop_n (l.length - (i + 1)) (by omega) ⟨i + 1, hi, rfl, _, _, _, _, rfl, rfl, rfl, rfl, rfl, inc_i64 (by omega), trivial⟩
 apply Yq
 apply Ye
 apply Ye
 apply Yx
 apply Y3
 refine Yp rfl ?_
 apply Yn
 apply Yt
 exact ⟨_, rfl, rfl, LeV.refl _⟩
theorem pc_sameS (c : CT) (hc : CtBig c) (ih : ∀ a ∈ c.l, PureCall Tryz.prog J 128 [ctV a, ctV a] (.one (.d (.bool true)))) :
  PureCall Tryz.prog J 128 [ctV c, ctV c] (.one (.d (.bool true))) := by
 have hl := hc.ll
 unfold ctV
 rw [ds_map]
 refine PureCall.of_body tOk (fn := Tryz.f128) Tryz.func128 (by kernel_rfl) rfl (Nat.le_of_ble_eq_true rfl) (fun E => ?_)
 iterate 29 first|refine S.pickAnd tOk zOk rfl rfl tg ?_|refine Yg rfl rfl tg ?_|refine Yp rfl ?_|refine S.box rfl rfl rfl rfl ?_|apply Y3|apply Y1
 refine S.callG rfl rfl rfl rfl tg rfl rfl (fun h => pc_EqualCond c.l (by omega) ih) ?_
 refine S.pickAnd tOk zOk rfl rfl tg ?_
 refine Yp rfl ?_
 apply Yn
 apply Yt
 exact Yz rfl rfl rfl (by simp)
theorem pc_same : ∀ (n : Nat) (c : CT), c.w ≤ n → CtBig c → PureCall Tryz.prog J 128 [ctV c, ctV c] (.one (.d (.bool true)))
 | 0, c, h => by have := c.pos; omega
 | n + 1, c, h => fun hc => pc_sameS c hc (fun a ha => pc_same n a (by have := CT.sz ha; omega) (hc.l a ha))
theorem pc_cmpO (a b : Ofr) (ha : OfrOk a) (hb : OfrOk b) :
  PureCall Tryz.prog J 63 [ofrV a, ofrV b] (.one (.d (.int .i64 (cmpO a b)))) := by
 refine PureCall.of_body tOk (fn := Tryz.f63) Tryz.func63 (by kernel_rfl) rfl (Nat.le_of_ble_eq_true rfl) (fun E => ?_)
 iterate 11 first|refine Yp rfl ?_|refine S.box rfl rfl rfl rfl ?_|apply Y1|apply Ys|apply Yn
 refine S.call rfl rfl rfl rfl rfl (pc_Compare a.n b.n) ?_
 iterate 5 first|refine Yp rfl ?_|apply Y3|apply Yn
 refine W.cond rfl (fun c1=>?_) fun c1=>?_
 ·skip
  iterate 6 first|refine Yp rfl ?_|apply Yu|apply Yt|apply Y1|apply Yn
  exact Yz rfl rfl rfl (by unfold cmpO; rw [if_pos c1])
 apply Yk
 apply Y3
 iterate 4 refine Yp rfl ?_
 refine S.call rfl rfl rfl rfl rfl (pc_ver_Order a.v b.v (by have := ha.e; omega) (by have := hb.e; omega)) ?_
 refine Yp rfl ?_
 apply Yn
 apply Yt
 exact Yz rfl rfl rfl (by unfold cmpO; rw [if_neg (Bool.eq_false_iff.1 c1)])
theorem pc_cmpR (a b : Ofr) (ha : OfrOk a) (hb : OfrOk b) :
  PureCall Tryz.prog J 22 [ofrV a, ofrV b] (.one (.d (.int .i64 (cmpR a b)))) := by
 refine PureCall.of_body tOk (fn := Tryz.f22) Tryz.func22 (by kernel_rfl) rfl (Nat.le_of_ble_eq_true rfl) (fun E => ?_)
 iterate 13 first|refine Yp rfl ?_|refine S.box rfl rfl rfl rfl ?_|apply Y1|apply Yn|apply Ys
 refine W.cond rfl (fun c1=>?_) fun c1=>?_
 ·skip
  apply Y1
  iterate 4 refine Yp rfl ?_
  refine S.call rfl rfl rfl rfl rfl (pc_Compare a.n b.n) ?_
  refine Yp rfl ?_
  apply Yn
  apply Yt
  apply Yu
  exact Yz rfl rfl rfl (by unfold cmpR; rw [if_pos (show (!(a.n == b.n)) = true from c1)])
 apply Yk
 apply Y3
 iterate 4 refine Yp rfl ?_
 refine S.call rfl rfl rfl rfl rfl (pc_outref2_CompareOf a.v b.v (by have := ha.e; omega) (by have := hb.e; omega)) ?_
 refine Yp rfl ?_
 apply Yn
 apply Yt
 exact Yz rfl rfl rfl (by unfold cmpR; rw [if_neg (Bool.eq_false_iff.1 (show (!(a.n == b.n)) = false from c1))])
theorem pc_fCheck (f : Fed) (hf : FedA f) :
  PureCall Tryz.prog J 62 [fedV f] (.one (.d (.int .i64 (fedE f)))) := by
 refine PureCall.of_body tOk (fn := Tryz.f62) Tryz.func62 (by kernel_rfl) rfl (Nat.le_of_ble_eq_true rfl) (fun E => ?_)
 iterate 9 first|refine Yp rfl ?_|apply Yb|refine S.box rfl rfl rfl rfl ?_|apply Y1|apply Ys|apply Yn
 refine S.call rfl rfl rfl rfl rfl (pc_ver_IsName f.ch (by have := hf.c; omega)) ?_
 iterate 2 refine Yp rfl ?_
 apply Yn
 refine W.cond rfl (fun c1=>?_) fun c1=>?_
 ·skip
  apply Y1
  refine Yp rfl ?_
  apply Yn
  apply Yt
  apply Yv
  apply Yu
  exact ⟨_, rfl, rfl, LeV.of_eq (congrArg (fun x => V.one (C.d (D.int .i64 x))) ((fe_5 c1).symm))⟩
 apply Y1
 iterate 2 refine Yp rfl ?_
 refine S.call rfl rfl rfl rfl rfl (pc_feed_outside _ _ _) ?_
 refine Yp rfl ?_
 iterate 2 refine Yg rfl rfl tg ?_
 refine S.callG rfl rfl rfl rfl tg rfl rfl (fun h => pc_feed_outside _ _ _) ?_
 refine S.pickOr tOk zOk rfl rfl tg ?_
 refine Yp rfl ?_
 apply Yn
 refine W.cond rfl (fun c2=>?_) fun c2=>?_
 ·skip
  apply Y1
  refine Yp rfl ?_
  apply Yn
  apply Yt
  apply Yv
  apply Yu
  exact ⟨_, rfl, rfl, LeV.of_eq (congrArg (fun x => V.one (C.d (D.int .i64 x))) ((fe_3 c1 c2).symm))⟩
 apply Y1
 iterate 5 refine Yp rfl ?_
 apply Yn
 refine W.cond rfl (fun c3=>?_) fun c3=>?_
 ·skip
  apply Y1
  refine Yp rfl ?_
  apply Yn
  apply Yt
  apply Yv
  apply Yu
  exact ⟨_, rfl, rfl, LeV.of_eq (congrArg (fun x => V.one (C.d (D.int .i64 x))) ((fe_4 c1 c2 c3).symm))⟩
 iterate 11 first|refine Yp rfl ?_|apply Yb|apply Yw|apply Yk|apply Y1|apply Yn|apply Ys
 refine W.loop (fun k st => ∃ i : Nat, i ≤ f.of.length ∧ OkTo (ofAt f.of) i ∧ k = f.of.length - i ∧ ∃ t b2 r2 m2, st = ⟨t, [[.d (.str f.ch), .d (.int .i64 f.se), .d (.int .i64 f.ti), .d (.vec 18 (f.of.map ofrD))]] ++ b2, [] ++ r2, [] ++ m2⟩ ∧ holdsL t [(1, .one (.ptr 0 0)), (26, .one (.d (.vec 18 (f.of.map ofrD)))), (27, .one (.d (.int .i64 ((f.of.map ofrD).length : Int)))), (28, .one (.d (.int .i64 (i : Int))))]) (f.of.length) ⟨0, Nat.zero_le _, ok_0 _, rfl, _, _, _, _, rfl, rfl, rfl, rfl, rfl, trivial⟩ ?_
 rintro k1 _ ⟨i, f1_0, f1_1, rfl, t1, bb1, rr1, mm1, rfl, hh1⟩
 refine W.keepR _ _ _ _ _ _ _ hh1 rfl ?_
 apply Y1
 refine Yp rfl ?_
 apply Yn
 apply Ys
 refine W.cond rfl (fun c4=>?_) fun c4=>?_
 ·skip
  have hi := row_lt (by assumption)
  have ho := hf.o _ (mem_getD (d := Ofr.z) hi)
  have hb := hf.n
  have hop : OfrOk (f.of.getD (i - 1) Ofr.z) := hf.o _ (mem_getD (d := Ofr.z) (by omega))
  apply Yk
  apply Yn
  apply Ys
  apply Yb
  apply Y1
  refine Yp rfl ?_
  refine YE rfl (row_ok hi) (row_at Ofr.z hi) rfl ?_
  iterate 8 first|refine Yp rfl ?_|refine S.store tOk rfl rfl rfl rfl rfl rfl rfl rfl ?_|refine S.alloc tOk rfl rfl rfl rfl ?_|apply Y1|apply Ys|apply Yn
  refine S.call rfl rfl rfl rfl rfl (pc_offerFault (f.of.getD i Ofr.z) ho) ?_
  iterate 5 first|refine Yp rfl ?_|apply Y3|apply Yn
  refine W.cond rfl (fun c5=>?_) fun c5=>?_
  ·skip
   have he : (offerE (f.of.getD i Ofr.z) != 0) = true := (by assumption)
   have hres := of_hit hi f1_1 (oa_e he) (by simpa using he)
   iterate 11 first|apply Yu|apply Yv|refine Yp rfl ?_|apply Yt|apply Y1|apply Yn
   exact ⟨_, rfl, rfl, LeV.of_eq (congrArg (fun x => V.one (C.d (D.int .i64 x))) (((fe_o c1 c2 c3).trans hres).symm))⟩
  have he : (offerE (f.of.getD i Ofr.z) != 0) = false := (by assumption)
  apply Yk
  apply Yn
  apply Ys
  refine W.regionD mixed (by kernel_rfl) ?_
  iterate 6 first|refine Yy rfl rfl rfl tg ?_|refine Ym rfl rfl ?_
  refine D.pureEGc tOk zOk rfl rfl rfl tg (fun _ => rfl) (fun h => dec_rowO h (by omega)) rfl ?_
  refine D.pureEGc tOk zOk rfl rfl rfl tg (fun _ => row_ok (show i - 1 < f.of.length by omega)) (fun _ => row_at Ofr.z (show i - 1 < f.of.length by omega)) rfl ?_
  iterate 2 refine Yy rfl rfl rfl tg ?_
  refine D.callG rfl rfl rfl rfl tg rfl rfl (fun h => pc_cmpO (f.of.getD (i - 1) Ofr.z) (f.of.getD i Ofr.z) hop ho) ?_
  refine Yy rfl rfl rfl tg ?_
  refine D.pickAnd tOk zOk rfl rfl tg ?_
  apply Yn
  refine W.cond rfl (fun c6=>?_) fun c6=>?_
  ·skip
   have hc : (decide ((i : Int) > 0) && decide (cmpO (f.of.getD (i - 1) Ofr.z) (f.of.getD i Ofr.z) ≥ 0)) = true := (by assumption)
   have hres := of_hit hi f1_1 (oa_7 he hc) (by decide)
   iterate 9 first|apply Yu|apply Yv|apply Yt|refine Yp rfl ?_|apply Y1|apply Yn
   exact ⟨_, rfl, rfl, LeV.of_eq (congrArg (fun x => V.one (C.d (D.int .i64 x))) (((fe_o c1 c2 c3).trans hres).symm))⟩
  have hc : (decide ((i : Int) > 0) && decide (cmpO (f.of.getD (i - 1) Ofr.z) (f.of.getD i Ofr.z) ≥ 0)) = false := (by assumption)
  apply Yk
  apply Yw
  apply Y4
  iterate 2 refine Yp rfl ?_
  refine loop_n (f.of.length - (i + 1)) (by omega) ⟨i + 1, hi, ok_s f1_1 (oa_0 he hc), rfl, _, _, _, _, rfl, rfl, rfl, rfl, inc_i64 (by omega), trivial⟩
 have hi := row_ge (by assumption)
 have hz := of_none hi f1_1
 apply Yq
 apply Ye
 apply Ye
 apply Yx
 apply Y3
 refine Yp rfl ?_
 apply Yn
 apply Yt
 exact ⟨_, rfl, rfl, LeV.of_eq (congrArg (fun x => V.one (C.d (D.int .i64 x))) (((fe_o c1 c2 c3).trans hz).symm))⟩
theorem pc_FeedError (f : Fed) (hf : FedA f) :
  PureCall Tryz.prog J 18 [fedV f] (.one (.d (.int .i64 (fedE f)))) := by
 refine PureCall.of_body tOk (fn := Tryz.f18) Tryz.func18 (by kernel_rfl) rfl (Nat.le_of_ble_eq_true rfl) (fun E => ?_)
 apply Y1
 refine S.box rfl rfl rfl rfl ?_
 refine Yp rfl ?_
 apply Yn
 apply Ys
 refine W.regionD mixed (by kernel_rfl) ?_
 iterate 2 refine Ym rfl rfl ?_
 refine D.call rfl rfl rfl rfl rfl (pc_outref2_NameOf f.ch (by have := hf.c; omega)) ?_
 refine Ym rfl rfl ?_
 refine D.call rfl rfl rfl rfl rfl (pc_outref2_When _ 5) ?_
 iterate 2 refine Ym rfl rfl ?_
 refine D.call rfl rfl rfl rfl rfl (pc_outref2_In _ _ _) ?_
 iterate 4 first|refine Yy rfl rfl rfl tg ?_|refine Ym rfl rfl ?_
 refine D.callG rfl rfl rfl rfl tg rfl rfl (fun h => pc_outref2_In _ _ _) ?_
 refine Yy rfl rfl rfl tg ?_
 refine D.pickOr tOk zOk rfl rfl tg ?_
 refine D.call rfl rfl rfl rfl rfl (pc_outref2_When _ 3) ?_
 iterate 4 refine Ym rfl rfl ?_
 refine D.call rfl rfl rfl rfl rfl (pc_outref2_When _ 4) ?_
 refine D.slice tOk rfl rfl ?_
 refine D.call rfl rfl rfl rfl rfl (pc_outref2_First [if !nameB f.ch then 5 else 0, if !inB f.se 1 1099511627776 || !inB f.ti 0 1099511627776 then 3 else 0, if decide (((f.of.map ofrD).length : Int) > 500) then 4 else 0] (by simp)) ?_
 refine Ym rfl rfl ?_
 iterate 6 first|refine Yp rfl ?_|apply Y1|apply Yn|apply Ys
 refine W.cond rfl (fun c1=>?_) fun c1=>?_
 ·skip
  have hp : (preE f != 0) = true := (by assumption)
  iterate 6 first|refine Yp rfl ?_|apply Yu|apply Yt|apply Y1|apply Yn
  exact ⟨_, rfl, rfl, LeV.of_eq (congrArg (fun x => V.one (C.d (D.int .i64 x))) ((pre_e hp).symm))⟩
 have hp : (preE f != 0) = false := (by assumption)
 iterate 9 first|refine Yp rfl ?_|apply Yk|apply Y1|apply Yn|apply Ys
 apply Yb
 refine W.loop (fun k st => ∃ i : Nat, i ≤ f.of.length ∧ OkTo (ofAt f.of) i ∧ k = f.of.length - i ∧ ∃ t b2 r2 m2, st = ⟨t, [[.d (.str f.ch), .d (.int .i64 f.se), .d (.int .i64 f.ti), .d (.vec 18 (f.of.map ofrD))]] ++ b2, [] ++ r2, [] ++ m2⟩ ∧ holdsL t [(1, .one (.ptr 0 0)), (35, .one (.d (.vec 18 (f.of.map ofrD)))), (36, .one (.d (.int .i64 ((f.of.map ofrD).length : Int)))), (37, .one (.d (.int .i64 (i : Int))))]) (f.of.length) ⟨0, Nat.zero_le _, ok_0 _, rfl, _, _, _, _, rfl, rfl, rfl, rfl, rfl, trivial⟩ ?_
 rintro k0 _ ⟨i, f0_0, f0_1, rfl, t0, bb0, rr0, mm0, rfl, hh0⟩
 refine W.keepR _ _ _ _ _ _ _ hh0 rfl ?_
 apply Y1
 refine Yp rfl ?_
 apply Yn
 apply Ys
 refine W.cond rfl (fun c2=>?_) fun c2=>?_
 ·skip
  have hi := row_lt (by assumption)
  have ho := hf.o _ (mem_getD (d := Ofr.z) hi)
  have hb := hf.n
  have hop : OfrOk (f.of.getD (i - 1) Ofr.z) := hf.o _ (mem_getD (d := Ofr.z) (by omega))
  apply Yk
  apply Yn
  apply Ys
  apply Yb
  apply Y1
  refine Yp rfl ?_
  refine YE rfl (row_ok hi) (row_at Ofr.z hi) rfl ?_
  iterate 8 first|refine Yp rfl ?_|refine S.store tOk rfl rfl rfl rfl rfl rfl rfl rfl ?_|refine S.alloc tOk rfl rfl rfl rfl ?_|apply Y1|apply Ys|apply Yn
  refine S.call rfl rfl rfl rfl rfl (pc_OfferError (f.of.getD i Ofr.z) ho) ?_
  iterate 5 first|refine Yp rfl ?_|apply Y3|apply Yn
  refine W.cond rfl (fun c3=>?_) fun c3=>?_
  ·skip
   have he : (offerE (f.of.getD i Ofr.z) != 0) = true := (by assumption)
   have hres := of_hit hi f0_1 (oa_e he) (by simpa using he)
   iterate 11 first|apply Yu|apply Yv|refine Yp rfl ?_|apply Yt|apply Y1|apply Yn
   exact ⟨_, rfl, rfl, LeV.of_eq (congrArg (fun x => V.one (C.d (D.int .i64 x))) (((pre_0 hp).trans hres).symm))⟩
  have he : (offerE (f.of.getD i Ofr.z) != 0) = false := (by assumption)
  apply Yk
  apply Y3
  iterate 2 refine Yp rfl ?_
  apply Yn
  refine W.cond rfl (fun c4=>?_) fun c4=>?_
  ·skip
   have h0 : decide ((i : Int) > 0) = true := (by assumption)
   apply Y1
   iterate 3 refine Yp rfl ?_
   refine YE rfl rfl (dec_rowO h0 (by omega)) rfl ?_
   refine YE rfl (row_ok (show i - 1 < f.of.length by omega)) (row_at Ofr.z (show i - 1 < f.of.length by omega)) rfl ?_
   iterate 20 first|refine Yg rfl rfl tg ?_|refine Yp rfl ?_|refine S.store tOk rfl rfl rfl rfl rfl rfl rfl rfl ?_|refine S.alloc tOk rfl rfl rfl rfl ?_|apply Y3
   refine S.callG rfl rfl rfl rfl tg rfl rfl (fun h => pc_outref2_CompareOf (f.of.getD (i - 1) Ofr.z).v (f.of.getD i Ofr.z).v (by have := hop.e; omega) (by have := ho.e; omega)) ?_
   refine Yg rfl rfl tg ?_
   refine S.pickAndG tOk zOk rfl rfl rfl tg tg ?_
   refine S.pickOr tOk zOk rfl rfl tg ?_
   apply Yn
   refine W.cond rfl (fun c5=>?_) fun c5=>?_
   ·skip
    have hc := (ls_at hi f0_1 he h0).symm.trans (by assumption : lsO (f.of.getD (i - 1) Ofr.z) (f.of.getD i Ofr.z) = true)
    have hres := of_hit hi f0_1 (oa_7 he hc) (by decide)
    iterate 9 first|apply Yu|apply Yv|apply Yt|refine Yp rfl ?_|apply Y1|apply Yn
    exact ⟨_, rfl, rfl, LeV.of_eq (congrArg (fun x => V.one (C.d (D.int .i64 x))) (((pre_0 hp).trans hres).symm))⟩
   have hc := (ls_at hi f0_1 he h0).symm.trans (by assumption : lsO (f.of.getD (i - 1) Ofr.z) (f.of.getD i Ofr.z) = false)
   iterate 5 first|refine Yp rfl ?_|apply Yw|apply Yk|apply Y4
   refine loop_n (f.of.length - (i + 1)) (by omega) ⟨i + 1, hi, ok_s f0_1 (oa_0 he hc), rfl, _, _, _, _, rfl, rfl, rfl, rfl, inc_i64 (by omega), trivial⟩
  have hc := ls_no (l := f.of) (i := i) (by assumption)
  apply Yk
  apply Yw
  apply Y4
  iterate 2 refine Yp rfl ?_
  refine loop_n (f.of.length - (i + 1)) (by omega) ⟨i + 1, hi, ok_s f0_1 (oa_0 he hc), rfl, _, _, _, _, rfl, rfl, rfl, rfl, inc_i64 (by omega), trivial⟩
 have hi := row_ge (by assumption)
 have hz := of_none hi f0_1
 apply Yq
 apply Ye
 apply Ye
 apply Yx
 apply Y3
 refine Yp rfl ?_
 apply Yn
 apply Yt
 exact ⟨_, rfl, rfl, LeV.of_eq (congrArg (fun x => V.one (C.d (D.int .i64 x))) (((pre_0 hp).trans hz).symm))⟩
theorem pc_SameOffer (o : Ofr) (ho : OfrOk o) :
  PureCall Tryz.prog J 75 [ofrV o, ofrV o] (.one (.d (.bool true))) := by
 refine PureCall.of_body tOk (fn := Tryz.f75) Tryz.func75 (by kernel_rfl) rfl (Nat.le_of_ble_eq_true rfl) (fun E => ?_)
 iterate 31 first|refine S.pickAnd tOk zOk rfl rfl tg ?_|refine Yg rfl rfl tg ?_|refine Yp rfl ?_|refine S.box rfl rfl rfl rfl ?_|apply Y3|apply Y1
 refine S.callG rfl rfl rfl rfl tg rfl rfl (fun _ => pc_Equal_Span o.f o.f (ofr_fl ho)) ?_
 iterate 13 first|refine S.pickAnd tOk zOk rfl rfl tg ?_|refine Yg rfl rfl tg ?_|refine Yp rfl ?_
 refine S.callG rfl rfl rfl rfl tg rfl rfl (fun _ => pc_same _ o.w (Nat.le_refl _) ho.w) ?_
 iterate 46 first|refine S.pickAnd tOk zOk rfl rfl tg ?_|refine Yg rfl rfl tg ?_|refine Yp rfl ?_|apply Yt|apply Yn
 exact Yz rfl rfl rfl (by simp)
theorem pc_EqualO (l : List Ofr) (hl : l.length ≤ 4000000) (hc : ∀ a ∈ l, OfrOk a) :
  PureCall Tryz.prog J 74 [.one (.d (.vec 18 (l.map ofrD))), .one (.d (.vec 18 (l.map ofrD))), .one (.d (.fn 75))] (.one (.d (.bool true))) := by
 refine PureCall.of_body tOk (fn := Tryz.f74) Tryz.func74 (by kernel_rfl) rfl (Nat.le_of_ble_eq_true rfl) (fun E => ?_)
 iterate 11 first|refine Yp rfl ?_|apply Y1|apply Yn|apply Ys
 refine W.cond rfl (fun c1=>?_) fun c1=>?_
 ·skip
  exact absurd c1 (by simp)
 iterate 9 first|refine Yp rfl ?_|apply Yb|apply Yk|apply Y1|apply Yn|apply Ys
 refine W.loop (fun k st => ∃ i : Nat, i ≤ l.length ∧ k = l.length - i ∧ ∃ t b2 r2 m2, st = ⟨t, [] ++ b2, [] ++ r2, [] ++ m2⟩ ∧ holdsL t [(1, .one (.d (.vec 18 (l.map ofrD)))), (2, .one (.d (.fn 75))), (15, .one (.d (.vec 18 (l.map ofrD)))), (16, .one (.d (.int .i64 ((l.map ofrD).length : Int)))), (17, .one (.d (.int .i64 (i : Int))))]) (l.length) ⟨0, Nat.zero_le _, rfl, _, _, _, _, rfl, rfl, rfl, rfl, rfl, rfl, trivial⟩ ?_
 rintro k0 _ ⟨i, f0_0, rfl, t0, bb0, rr0, mm0, rfl, hh0⟩
 refine W.keepR _ _ _ _ _ _ _ hh0 rfl ?_
 apply Y1
 refine Yp rfl ?_
 apply Yn
 apply Ys
 refine W.cond rfl (fun c2=>?_) fun c2=>?_
 ·skip
  have hi := row_lt c2
  apply Yk
  apply Yn
  apply Ys
  apply Yb
  apply Y1
  refine Yp rfl ?_
  refine YE rfl (row_ok hi) (row_at Ofr.z hi) rfl ?_
  iterate 7 first|refine Yp rfl ?_|refine S.store tOk rfl rfl rfl rfl rfl rfl rfl rfl ?_|refine S.alloc tOk rfl rfl rfl rfl ?_|apply Y3
  refine YE rfl (row_ok hi) (row_at Ofr.z hi) rfl ?_
  iterate 7 first|refine Yp rfl ?_|refine S.store tOk rfl rfl rfl rfl rfl rfl rfl rfl ?_|refine S.alloc tOk rfl rfl rfl rfl ?_|apply Y3
  refine S.call rfl rfl rfl rfl rfl (pc_SameOffer (l.getD i Ofr.z) (hc _ (mem_getD (d := Ofr.z) hi))) ?_
  refine Yp rfl ?_
  apply Yn
  refine W.cond rfl (fun c3=>?_) fun c3=>?_
  ·skip
   exact absurd c3 (by simp)
  apply Yk
  apply Yw
  apply Y4
  iterate 2 refine Yp rfl ?_
  refine loop_n (l.length - (i + 1)) (by omega) ⟨i + 1, hi, rfl, _, _, _, _, rfl, rfl, rfl, rfl, rfl, inc_i64 (by omega), trivial⟩
 apply Yq
 apply Ye
 apply Ye
 apply Yx
 apply Y3
 refine Yp rfl ?_
 apply Yn
 apply Yt
 exact ⟨_, rfl, rfl, LeV.refl _⟩
theorem pc_SameFeed (f : Fed) (hl : f.of.length ≤ 4000000) (hc : ∀ a ∈ f.of, OfrOk a) :
  PureCall Tryz.prog J 26 [fedV f, fedV f] (.one (.d (.bool true))) := by
 refine PureCall.of_body tOk (fn := Tryz.f26) Tryz.func26 (by kernel_rfl) rfl (Nat.le_of_ble_eq_true rfl) (fun E => ?_)
 iterate 29 first|refine S.pickAnd tOk zOk rfl rfl tg ?_|refine Yg rfl rfl tg ?_|refine Yp rfl ?_|refine S.box rfl rfl rfl rfl ?_|apply Y3|apply Y1
 refine S.callG rfl rfl rfl rfl tg rfl rfl (fun _ => pc_EqualO f.of hl hc) ?_
 refine S.pickAnd tOk zOk rfl rfl tg ?_
 refine Yp rfl ?_
 apply Yn
 apply Yt
 exact Yz rfl rfl rfl (by simp)
theorem pc_SameZ : PureCall Tryz.prog J 26 [fedV Fed.z, .agg [.d (.str []), .d (.int .i64 0), .d (.int .i64 0), .d .nilsl]] (.one (.d (.bool true))) := (pc_SameFeed Fed.z (by decide) (fun a ha => by cases ha)).le (.cons (LeV.refl _) (.cons le_nf .nil))
theorem pc_noFeed  :
  PureCall Tryz.prog J 20 [fedV Fed.z] (.one (.d (.bool true))) := by
 refine PureCall.of_body tOk (fn := Tryz.f20) Tryz.func20 (by kernel_rfl) rfl (Nat.le_of_ble_eq_true rfl) (fun E => ?_)
 iterate 6 first|refine Yp rfl ?_|refine S.box rfl rfl rfl rfl ?_|apply Y3|apply Y1
 refine S.call rfl rfl rfl rfl rfl (pc_SameZ) ?_
 refine Yp rfl ?_
 apply Yn
 apply Yt
 exact ⟨_, rfl, rfl, LeV.refl _⟩
end
section
open Go Go.RowKit
theorem S.appendV {J : Inv} {k0 : Lens} {E : Env J k0} {P : Program} {T : TypeId → Option TI} {n : Nat} {t : Nat → V} {b : List (List C)} {r : List (Option RowO)} {m : List (List (DV × DV))} {ops : Array Oper} {l : List Oper} {K : St → Prop} {i : Nat} {ty : TypeId} {pos : String} {after : Array Edge}
    (hT : TabOk P T) {tt e : TypeId} {ti ei : TI} {x y : Operand} {ri ver sz ln : Nat} {al : Bool} {te : TypeId} {xs news ys : List (List D)} {r' : List (Option RowO)} (hti : T tt = some ti) (hd : ti.desc = .slice e) (hei : T e = some ei)
    (hz : ei.zero.cells.size = ei.size) (hpos : Nat.blt 0 ei.size = true) (hby : Nat.ble ei.bytes 4096 = true) (hx : opd n ⟨t, b, r, m⟩ x = (true, .one (.row ri ver 0 ln))) (hy : opd n ⟨t, b, r, m⟩ y = (true, .one (.d (.vec sz news))))
    (hq : r[ri]? = some (some ⟨al, ver, sz, te, xs⟩)) (hln : ln = xs.length) (hsz : sz = ei.size) (hty : te = e) (hlen : xs.length + news.length ≤ 34359738368)
    (hys : xs ++ news = ys) (hr : forceL (r.set ri none) = some r')
    (k : WL E P n ops l K ⟨upd t i (.one (.d (.vec sz ys))), b, r', m⟩) : WL E P n ops (⟨some i, .call ⟨.builtin .append, #[x, y], #[tt, tt]⟩, ty, pos, after, none⟩ :: l) K ⟨t, b, r, m⟩ := by
  obtain rfl := forceL_eq hr
  have hlt : ri < r.length := (List.getElem?_eq_some_iff.1 hq).1
  refine Step.weak (K := fun s1 => s1 = ⟨upd t i (.one (.row ri (ver + 1) 0 ys.length)), b, r.set ri (some ⟨al || !news.isEmpty, ver + 1, sz, te, ys⟩), m⟩)
    (S.append (l := []) (r' := r.set ri (some ⟨al || !news.isEmpty, ver + 1, sz, te, ys⟩)) hT hti hd hei hz hpos hby hx hy hq hln hsz hty hlen rfl hys (forceL_self _) rfl) (fun s g a w hs rel => ?_)
  subst hs
  obtain ⟨g', rel'⟩ := rel.freezeRow (ri := ri) (q := ⟨al || !news.isEmpty, ver + 1, sz, te, ys⟩) [i] (by simp [hlt]) (fun k hk => by
    simp at hk; subst hk; simp [upd])
  refine ⟨g', _, ?_, rel'⟩
  have e : updL (upd t i (.one (.row ri (ver + 1) 0 ys.length))) [i] (.one (.d (.vec sz ys))) = upd t i (.one (.d (.vec sz ys))) := by
    funext j
    simp only [updL, upd]
    cases i.beq j <;> rfl
  simp only [List.set_set]
  rw [e]
  exact k
end
section
open Go Go.RowKit
def splR (l : List Value) (o : Nat) (cs : List Value) : List Value := l.take o ++ cs ++ l.drop (o + cs.length)
theorem splR_len {l : List Value} {o : Nat} {cs : List Value} (h : o + cs.length ≤ l.length) : (splR l o cs).length = l.length := by
 unfold splR; rw [List.length_append, List.length_append, List.length_take, List.length_drop]; omega
theorem row_alloc_new (w : World) (o : Obj) : (w.alloc o).heap[w.heap.size]? = some o := by
 show (w.heap.push o)[w.heap.size]? = _
 simp
theorem row_alloc_old (w : World) (o : Obj) {k : Nat} (h : k < w.heap.size) : (w.alloc o).heap[k]? = w.heap[k]? := by
 show (w.heap.push o)[k]? = _
 rw [Array.getElem?_push_lt h, Array.getElem?_eq_getElem h]
theorem shape_cells {w : World} {b : Nat} {cur : Array Value} {e : TypeId} (h : w.heap[b]? = some (.cells cur e (0, 0))) : w.shape? b = some (e, cur.size) := by simp [World.shape?, h]
theorem frozen_cells {w : World} {b : Nat} {cur : Array Value} {e : TypeId} (h : w.heap[b]? = some (.cells cur e (0, 0))) (o : Nat) : w.frozen? ⟨b, o, none⟩ = false := by simp [World.frozen?, h]
theorem cell_cells {w : World} {b : Nat} {cur : Array Value} {e : TypeId} {o : Nat} {v : Value} (h : w.heap[b]? = some (.cells cur e (0, 0))) (hv : cur[o]? = some v) : w.cell? ⟨b, o, none⟩ = some v := by simp [World.cell?, h, hv]
theorem run_copy_r {P : Program} (w : World) (dT sT ty elem : TypeId) (b o dLen dCap : Nat) (a : Addr) (sLen sCap : Nat) (cs : List Value) (cur : Array Value) (hg : w.heap[b]? = some (.cells cur elem (0, 0))) {sz : Nat}
  (hu : P.underlying dT = some (.slice elem)) (hs : ∀ w, (Go.sizeOf elem).run P w = .ok sz w) (hn : cs.length = Nat.min sLen dLen * sz)
  (hsrc : ∀ j v, cs[j]? = some v → w.cell? (a.add j) = some v) (hfit : o + cs.length ≤ cur.size) (h1 : ∀ v ∈ cs, v.oneCell' = true) :
  (Builtin.copy_ #[dT, sT] ty #[.slice (some ⟨b, o, none⟩) dLen dCap, .slice (some a) sLen sCap]).run P w = .ok (goInt (Nat.min sLen dLen)) (w.setRow b (splR cur.toList o cs).toArray) := by
 have hl := run_loadCells_list (P := P) w a cs hsrc
 have hst := run_storeCells_at P b o elem cs 0 cur w hg (by simpa using hfit) h1
 simp only [Nat.add_zero] at hst
 simp [Builtin.copy_, run_underlying hu, Builtin.lenOf, Builtin.firstCells, hs, ← hn, hl, hst, splR]
def InsOut (w : World) (e : TypeId) (sz n i : Nat) (cs vs : List Value) (b : Nat) (x : Ending) (w' : World) : Prop :=
 ∃ v', x = .returned v' ∧ w'.ownsRow 0 e sz v' (n + 1) (cs.take (i * sz) ++ vs ++ cs.drop (i * sz)) ∧ w.grownBy w' (some b) ∧ ∃ g cap, v' = .slice (some ⟨g, 0, none⟩) (n + 1) cap ∧ (g = b ∨ g = w.heap.size)
def InsEnd (w : World) (e : TypeId) (sz n : Nat) (cs vs : List Value) (v : Value) (x : Ending) (w' : World) : Prop :=
 ∃ v', x = .returned v' ∧ w'.ownsRow 0 e sz v' (n + 1) (cs ++ vs) ∧ w.grownBy w' v.ownBlock ∧ ∃ g cap, v' = .slice (some ⟨g, 0, none⟩) (n + 1) cap ∧ (v.ownBlock = some g ∨ g = w.heap.size)
theorem ins_pre {cur vcur : Array Value} {n i c sz : Nat} {cs vs : List Value} (hcur : cur.size = c * sz) (hnc : n ≤ c) (hcs : cur.toList.take (n * sz) = cs) (hvcur : sz ≤ vcur.size) (hvs : vcur.toList.take sz = vs) :
  cs.length = n * sz ∧ vs.length = sz ∧ (∀ (j : Nat) (v : Value), cs[j]? = some v → cur[j]? = some v) ∧ (∀ (j : Nat) (v : Value), vs[j]? = some v → vcur[j]? = some v) := by
 have h1 : n * sz ≤ c * sz := Nat.mul_le_mul_right _ hnc
 refine ⟨by rw [← hcs, List.length_take, Array.length_toList]; omega, by rw [← hvs, List.length_take, Array.length_toList]; omega, fun j v h => ?_, fun j v h => ?_⟩
 ·skip
  rw [← hcs, List.getElem?_take] at h
  split at h
  ·skip
   rw [← Array.getElem?_toList]; exact h
  ·skip
   cases h
 ·skip
  rw [← hvs, List.getElem?_take] at h
  split at h
  ·skip
   rw [← Array.getElem?_toList]; exact h
  ·skip
   cases h
theorem ins_list {l cs vs : List Value} {p q s : Nat} (hcs : l.take q = cs) (hq : q + s ≤ l.length) (hp : p ≤ q) (hv : vs.length = s) :
  (splR (splR l (p + s) (cs.drop p)) p vs).take (q + s) = cs.take p ++ vs ++ cs.drop p := by
 have hcl : cs.length = q := by rw [← hcs, List.length_take]; omega
 have hdl : (cs.drop p).length = q - p := by rw [List.length_drop, hcl]
 have e1 : splR l (p + s) (cs.drop p) = l.take (p + s) ++ cs.drop p ++ l.drop (q + s) := by
  unfold splR; rw [hdl, show p + s + (q - p) = q + s by omega]
 have e2 : (l.take (p + s) ++ cs.drop p ++ l.drop (q + s)).take p = cs.take p := by
  rw [List.append_assoc, List.take_append_of_le_length (by rw [List.length_take]; omega), List.take_take, ← hcs, List.take_take]
  congr 1; omega
 have e3 : (l.take (p + s) ++ cs.drop p ++ l.drop (q + s)).drop (p + s) = cs.drop p ++ l.drop (q + s) := by
  rw [List.append_assoc, List.drop_append_of_le_length (by rw [List.length_take]; omega), List.drop_eq_nil_of_le (by rw [List.length_take]; omega), List.nil_append]
 rw [e1]
 unfold splR
 rw [e2, hv, e3]
 have : (cs.take p ++ vs ++ (cs.drop p ++ l.drop (q + s))) = (cs.take p ++ vs ++ cs.drop p) ++ l.drop (q + s) := by simp
 rw [this, List.take_append_of_le_length (by simp only [List.length_append, List.length_take, List.length_drop]; omega)]
 exact List.take_of_length_le (by simp only [List.length_append, List.length_take, List.length_drop]; omega)
theorem ins_shift_out {w : World} {b n c i sz : Nat} {e : TypeId} {cs vs : List Value} {cur cur1 : Array Value} (hi : i < n) (hroom : n + 1 ≤ c) (hc : c ≤ maxLen) (hg : w.heap[b]? = some (.cells cur e (0, 0))) (hcur : cur.size = c * sz)
    (hcs : cur.toList.take (n * sz) = cs) (hcl : cs.length = n * sz) (hvl : vs.length = sz) (hc1 : cur1 = (splR cur.toList ((i + 1) * sz) (cs.drop (i * sz))).toArray) (hs1 : cur1.size = c * sz) :
    InsOut w e sz n i cs vs b (.returned (.slice (some ⟨b, 0, none⟩) (n + 1) c)) ((w.drew.setRow b cur1).setRow b (splR cur1.toList (i * sz) vs).toArray) := by
  have hm1 : i * sz ≤ n * sz := Nat.mul_le_mul_right _ (by omega)
  have hm2 : (n + 1) * sz ≤ c * sz := Nat.mul_le_mul_right _ hroom
  have hm3 : (i + 1) * sz = i * sz + sz := by rw [Nat.add_mul, Nat.one_mul]
  have hm4 : (n + 1) * sz = n * sz + sz := by rw [Nat.add_mul, Nat.one_mul]
  have hg1 : (w.drew.setRow b cur1).heap[b]? = some (.cells cur1 e (0, 0)) := setRow_heap w.drew b cur _ _ _ hg
  have hlen : (splR cur1.toList (i * sz) vs).length = c * sz := by
    rw [splR_len (by simp only [Array.length_toList]; omega), Array.length_toList, hs1]
  refine ⟨_, rfl, ⟨?_, .inr ⟨b, c, _, rfl, Nat.zero_le _, setRow_heap _ b cur1 _ _ _ hg1, hroom, hc, ?_, ?_⟩⟩, ⟨rfl, rfl, rfl, by simp, fun k _ hk => ?_⟩, b, c, rfl, .inl rfl⟩
  · simp only [List.length_append, List.length_take, List.length_drop, hcl, hvl]; omega
  · simpa using hlen
  · have e1 : cur1.toList = splR cur.toList (i * sz + sz) (cs.drop (i * sz)) := by rw [hc1, ← hm3]
    rw [hm4]
    show (splR cur1.toList (i * sz) vs).take _ = _
    rw [e1]
    exact ins_list hcs (by rw [Array.length_toList]; omega) hm1 hvl
  · have hne : k ≠ b := fun e => hk (by rw [e])
    rw [setRow_other _ b k _ hne, setRow_other _ b k _ hne]
    rfl
theorem ins_list2 {l cs vs : List Value} {p q s : Nat} (ht : l.take p = cs.take p) (hq : q + s ≤ l.length) (hp : p ≤ q) (hcl : cs.length = q) (hv : vs.length = s) :
  (splR (splR l p vs) (p + s) (cs.drop p)).take (q + s) = cs.take p ++ vs ++ cs.drop p := by
 have hdl : (cs.drop p).length = q - p := by rw [List.length_drop, hcl]
 have e1 : splR l p vs = cs.take p ++ vs ++ l.drop (p + s) := by unfold splR; rw [ht, hv]
 have hcp : (cs.take p).length = p := by rw [List.length_take]; omega
 have e2 : (cs.take p ++ vs ++ l.drop (p + s)).take (p + s) = cs.take p ++ vs := by
  rw [List.take_append_of_le_length (by rw [List.length_append, hcp, hv]; omega)]
  exact List.take_of_length_le (by rw [List.length_append, hcp, hv]; omega)
 rw [e1]
 unfold splR
 rw [e2, hdl, show p + s + (q - p) = q + s by omega, List.take_append_of_le_length (by simp only [List.length_append, List.length_drop, hcp, hv, hcl]; omega)]
 exact List.take_of_length_le (by simp only [List.length_append, List.length_drop, hcp, hv, hcl]; omega)
theorem ins_grow_out {w W' : World} {b n i sz G : Nat} {e : TypeId} {cs vs : List Value} {ROW cur1 : Array Value} (hi : i < n) (hG : n + 1 ≤ G) (hGm : G ≤ maxLen) (hR : ROW.size = G * sz) (ht : ROW.toList.take (i * sz) = cs.take (i * sz))
    (hcl : cs.length = n * sz) (hvl : vs.length = sz) (hc1 : cur1 = (splR ROW.toList (i * sz) vs).toArray)
    (hW : ∀ k : Nat, W'.heap[k]? = (((w.drew.alloc (.cells ROW e)).setRow w.heap.size cur1).setRow w.heap.size (splR cur1.toList ((i + 1) * sz) (cs.drop (i * sz))).toArray).heap[k]?) (hsz : W'.heap.size = w.heap.size + 1)
    (hos : W'.os = w.os) (htp : W'.tape = w.tape) (hou : W'.output = w.output) : InsOut w e sz n i cs vs b (.returned (.slice (some ⟨w.heap.size, 0, none⟩) (n + 1) G)) W' := by
  have hm1 : i * sz ≤ n * sz := Nat.mul_le_mul_right _ (by omega)
  have hm2 : (n + 1) * sz ≤ G * sz := Nat.mul_le_mul_right _ hG
  have hm3 : (i + 1) * sz = i * sz + sz := by rw [Nat.add_mul, Nat.one_mul]
  have hm4 : (n + 1) * sz = n * sz + sz := by rw [Nat.add_mul, Nat.one_mul]
  have hg0 : (w.drew.alloc (.cells ROW e)).heap[w.heap.size]? = some (.cells ROW e (0, 0)) := row_alloc_new w.drew _
  have hg1 := setRow_heap (w.drew.alloc (.cells ROW e)) w.heap.size ROW cur1 _ _ hg0
  have hs1 : cur1.toList.length = G * sz := by
    rw [hc1]; show (splR _ _ _).length = _
    rw [splR_len (by simp only [Array.length_toList]; omega), Array.length_toList, hR]
  have hdl : (cs.drop (i * sz)).length = n * sz - i * sz := by rw [List.length_drop, hcl]
  have hlen : (splR cur1.toList ((i + 1) * sz) (cs.drop (i * sz))).length = G * sz := by
    rw [splR_len (by rw [hdl]; omega), hs1]
  refine ⟨_, rfl, ⟨?_, .inr ⟨w.heap.size, G, _, rfl, Nat.zero_le _, (hW _).trans (setRow_heap _ _ cur1 _ _ _ hg1), hG, hGm, ?_, ?_⟩⟩, ⟨hos, htp, hou, by omega, fun k hk hne => ?_⟩, _, _, rfl, .inr rfl⟩
  · simp only [List.length_append, List.length_take, List.length_drop, hcl, hvl]; omega
  · simpa using hlen
  · rw [hm4]
    show (splR cur1.toList ((i + 1) * sz) (cs.drop (i * sz))).take _ = _
    have e1 : cur1.toList = splR ROW.toList (i * sz) vs := by rw [hc1]
    rw [e1, hm3]
    exact ins_list2 ht (by rw [Array.length_toList]; omega) hm1 hcl hvl
  · have hne : k ≠ w.heap.size := by omega
    rw [hW, setRow_other _ _ k _ hne, setRow_other _ _ k _ hne]
    exact row_alloc_old w.drew _ hk
theorem info_of {P : Program} {T : TypeId → Option TI} (hT : TabOk P T) {t : TypeId} {i : TI} (h : T t = some i) : ∃ info : TypeInfo, P.info? t = some info ∧ info.zero = some i.zero ∧ info.size = i.size ∧ info.bytes = i.bytes := by
 obtain ⟨_, info, i1, i2, i3, i4, _⟩ := hT t i h
 exact ⟨info, i1, i3, i2, i4⟩
end
section
open Go Go.RowKit
structure FlatR (im : Nat → Prop) (w : World) (sz : Nat) (xs : List (List D)) (f : List Value) : Prop where
 r : ∀ x ∈ xs, x.length = sz
 l : f.length = xs.length * sz
 e : ∀ (i j : Nat) (x : List D) (d : D) (v : Value), xs[i]? = some x → x[j]? = some d → f[i * sz + j]? = some v → RD im w d v
section
variable {im : Nat → Prop} {w : World} {sz : Nat} {xs ys : List (List D)} {f h : List Value}
theorem FlatR.lt (a : FlatR im w sz xs f) {i j : Nat} {x : List D} {d : D} (p1 : xs[i]? = some x) (p2 : x[j]? = some d) : j < sz ∧ i * sz + j < xs.length * sz := by
 have hj : j < sz := by
  have h1 := (List.getElem?_eq_some_iff.1 p2).1
  rw [a.r x (List.mem_of_getElem? p1)] at h1; exact h1
 have hi := (List.getElem?_eq_some_iff.1 p1).1
 have := Nat.mul_le_mul_right sz (show i + 1 ≤ xs.length from hi)
 rw [Nat.add_mul, Nat.one_mul] at this
 exact ⟨hj, by omega⟩
theorem FlatR.app (a : FlatR im w sz xs f) (b : FlatR im w sz ys h) : FlatR im w sz (xs ++ ys) (f ++ h) := by
  refine ⟨fun x hx => ?_, by rw [List.length_append, List.length_append, a.l, b.l, Nat.add_mul], fun i j x d v p1 p2 p3 => ?_⟩
  · rcases List.mem_append.1 hx with hx | hx
    · exact a.r x hx
    · exact b.r x hx
  · by_cases hi : i < xs.length
    · rw [List.getElem?_append_left hi] at p1
      have := (a.lt p1 p2).2
      rw [List.getElem?_append_left (by rw [a.l]; exact this)] at p3
      exact a.e i j x d v p1 p2 p3
    · rw [List.getElem?_append_right (by omega)] at p1
      have e1 : i * sz = xs.length * sz + (i - xs.length) * sz := by rw [← Nat.add_mul]; congr 1; omega
      rw [List.getElem?_append_right (by rw [a.l]; omega)] at p3
      exact b.e (i - xs.length) j x d v p1 p2 (by rw [← p3, a.l]; congr 1; omega)
theorem FlatR.take (a : FlatR im w sz xs f) (k : Nat) (hk : k ≤ xs.length) : FlatR im w sz (xs.take k) (f.take (k * sz)) := by
 have hm : k * sz ≤ xs.length * sz := Nat.mul_le_mul_right _ hk
 refine ⟨fun x hx => a.r x (List.mem_of_mem_take hx), by rw [List.length_take, List.length_take, a.l, Nat.min_eq_left hm, Nat.min_eq_left hk], fun i j x d v p1 p2 p3 => ?_⟩
 rw [List.getElem?_take] at p1 p3
 split at p1
 ·skip
  split at p3
  ·skip
   exact a.e i j x d v p1 p2 p3
  ·skip
   cases p3
 ·skip
  cases p1
theorem FlatR.drop (a : FlatR im w sz xs f) (k : Nat) (hk : k ≤ xs.length) : FlatR im w sz (xs.drop k) (f.drop (k * sz)) := by
 refine ⟨fun x hx => a.r x (List.mem_of_mem_drop hx), by rw [List.length_drop, List.length_drop, a.l, Nat.sub_mul], fun i j x d v p1 p2 p3 => ?_⟩
 rw [List.getElem?_drop] at p1 p3
 exact a.e (k + i) j x d v p1 p2 (by rw [← p3]; congr 1; rw [Nat.add_mul]; omega)
theorem FlatR.one (a : FlatR im w sz xs f) (hsz : 0 < sz) : ∀ v ∈ f, v.oneCell' = true := fun v hv => by
 obtain ⟨k, hk, rfl⟩ := List.getElem_of_mem hv
 have hk' : k < xs.length * sz := by rw [← a.l]; exact hk
 have hi : k / sz < xs.length := Nat.div_lt_of_lt_mul (by rw [Nat.mul_comm]; exact hk')
 have hj : k % sz < sz := Nat.mod_lt _ hsz
 have hx : xs[k / sz]? = some (xs[k / sz]) := List.getElem?_eq_getElem hi
 have hl := a.r _ (List.mem_of_getElem? hx)
 have hd : (xs[k / sz])[k % sz]? = some ((xs[k / sz])[k % sz]'(by rw [hl]; exact hj)) := List.getElem?_eq_getElem _
 exact (a.e _ _ _ _ f[k] hx hd (by rw [Nat.div_add_mod']; exact List.getElem?_eq_getElem hk)).one
end
structure InsertOk (P : Program) (f : FuncId) (e : TypeId) (sz bytes : Nat) : Prop where
 enter : ∃ fn, P.funcs[f]? = some fn ∧ (fn.name == "runtime.NumGoroutine") = false ∧ fn.body.isNone = false
 pos : 0 < sz
 run : ∀ (v : Value) (n i : Nat) (cs vs : List Value) (vb vc : Nat) (vcur : Array Value) (w : World), w.ownsRow 0 e sz v n cs → i ≤ n → some vb ≠ v.ownBlock → w.heap[vb]? = some (.cells vcur e (0, 0)) → sz ≤ vcur.size → vcur.toList.take sz = vs →
  (∀ v ∈ cs, v.oneCell' = true) → (∀ v ∈ vs, v.oneCell' = true) → (n + 1) * bytes ≤ 140737488355328 → n + 1 ≤ maxLen →
  Calls P f #[v, .int .i64 i, .slice (some ⟨vb, 0, none⟩) 1 vc] w fun x w' => ∃ v', x = .returned v' ∧ w'.ownsRow 0 e sz v' (n + 1) (cs.take (i * sz) ++ vs ++ cs.drop (i * sz)) ∧ w.grownBy w' v.ownBlock ∧
   ∃ g cap, v' = .slice (some ⟨g, 0, none⟩) (n + 1) cap ∧ (v.ownBlock = some g ∨ g = w.heap.size)
section
variable {J : Inv} {k0 : Lens} {E : Env J k0} {P : Program} {n : Nat} {t : Nat → V} {b : List (List C)} {r : List (Option RowO)} {m : List (List (DV × DV))} {ops : Array Oper} {l : List Oper}
  {K : St → Prop} {i : Nat} {ty : TypeId} {pos : String} {after : Array Edge}
theorem row_flat {g : Gh} {s : St} {a : Act} {w : World} (rel : Rel E n g s a w) {q : Nat} {o : RowO} (ho : s.r[q]? = some (some o)) {u : Value} (hu : RV g s.sh w (.one (.row q o.ver 0 o.xs.length)) u) :
  ∃ flat, w.ownsRow 0 o.ty o.sz u o.xs.length flat ∧ (u = .slice none 0 0 ↔ o.al = false) ∧ (o.al = true → u.ownBlock = some (g.at_ (.r q))) ∧ FlatR g.im w o.sz o.xs flat := by
 obtain ⟨flat, h1, h2, h3, h4, h5⟩ := row_form rel ho hu
 exact ⟨flat, h1, h2, h3, ⟨h5, h1.1, h4⟩⟩
theorem S.insertRow {fo : Operand} {args : Array Operand} {ats : Array TypeId} {u : V} {f : FuncId} {e : TypeId} {ri rj ver vj sz bytes k ln : Nat} {al : Bool} {xs ys : List (List D)} {y : List D} {r' : List (Option RowO)} (hu : opd n ⟨t, b, r, m⟩ fo = (true, u)) (hc : calleeV u = some (f, []))
  (ha : allOpdL n ⟨t, b, r, m⟩ args.toList = (true, [.one (.row ri ver 0 ln), .one (.d (.int .i64 (k : Int))), .one (.row rj vj 0 1)])) (ok : InsertOk P f e sz bytes) (hr : r[ri]? = some (some ⟨al, ver, sz, e, xs⟩)) (hv : r[rj]? = some (some ⟨true, vj, sz, e, [y]⟩))
  (hne : Nat.beq ri rj = false) (hln : ln = xs.length) (hk : k ≤ xs.length) (hb : (xs.length + 1) * bytes ≤ 140737488355328) (h63 : xs.length + 1 ≤ 34359738368) (hys : xs.take k ++ [y] ++ xs.drop k = ys) (hr' : forceL (r.set ri (some ⟨true, ver + 1, sz, e, ys⟩)) = some r')
  (h : WL E P n ops l K ⟨upd t i (.one (.row ri (ver + 1) 0 ys.length)), b, r', m⟩) : WL E P n ops (⟨some i, .call ⟨.value fo, args, ats⟩, ty, pos, after, none⟩ :: l) K ⟨t, b, r, m⟩ := by
 obtain rfl := forceL_eq hr'
 subst hln; subst hys
 intro g a w rel next Qx hn
 obtain ⟨o, ho⟩ : ∃ o : Oper, o = ⟨some i, .call ⟨.value fo, args, ats⟩, ty, pos, after, none⟩ := ⟨_, rfl⟩
 rw [← ho]
 have hg : o.guard = none := by rw [ho]
 have hop : o.op = .call { callee := .value fo, args, argTypes := ats } := by rw [ho]
 have hdst : o.dst = some i := by rw [ho]
 have hw : Region.wanted o (yielded ops a.tmps) = true := by simp [Region.wanted, hg]
 rw [if_pos hw]
 obtain ⟨fn, hf, h1, h2⟩ := ok.enter
 obtain ⟨vs, hl, hx, hrun⟩ := call_run rel hop hu hc hf h1 h2
 obtain ⟨hal, hav⟩ := allOpdL_ok rel _ _ _ ha rfl
 have hvs : vs = [] := List.length_eq_zero_iff.1 (by simpa using hl)
 subst hvs
 have hlt : ri < r.length := (List.getElem?_eq_some_iff.1 hr).1
 have hij : ri ≠ rj := fun e => by subst e; simp at hne
 unfold Oper.wp
 rw [hrun]
 match hq : args.toList.map a.eval with
 | [x, y1, z] =>
  rw [hq] at hav
  have hx1 := hav 0 _ x rfl rfl
  have hy1 := hav 1 _ y1 rfl rfl
  have hz1 := hav 2 _ z rfl rfl
  have ey : y1 = .int .i64 k := by cases hy1 with | one _ _ hx1 => cases hx1 with | d _ _ hx1 => cases hx1; rfl
  subst ey
  obtain ⟨flat, q1, q2, q3, q4⟩ := row_flat rel (show (⟨t, b, r, m⟩ : St).r[ri]? = some (some ⟨al, ver, sz, e, xs⟩) from hr) hx1
  obtain ⟨flatv, p1, p2, p3, p4⟩ := row_flat rel (show (⟨t, b, r, m⟩ : St).r[rj]? = some (some ⟨true, vj, sz, e, [y]⟩) from hv) hz1
  have hvb := p3 rfl
  rcases p1.2 with ⟨e1, _⟩ | ⟨vb, vc, vcur, e1, _, p5, p6, p7, p8, p9⟩
  ·skip
   rw [e1] at hvb; cases hvb
  ·skip
   rw [e1] at hvb
   have hvb : vb = g.at_ (.r rj) := Option.some.inj hvb
   subst e1
   have hlv : (⟨t, b, r, m⟩ : St).live (.r rj) := ⟨_, hv, rfl⟩
   have hap : some vb ≠ x.ownBlock := fun he => by
    cases al with
    | false => rw [q2.2 rfl] at he; cases he
    | true =>
     rw [q3 rfl] at he
     have := rel.heap.inj (.r ri) (.r rj) ⟨_, hr, rfl⟩ hlv (by rw [← hvb]; exact (Option.some.inj he).symm)
     injection this with this; exact hij this
   show Calls P f _ w _
   have h1' : 1 * sz ≤ vc * sz := Nat.mul_le_mul_right _ p6
   have p8' : vcur.size = vc * sz := p8
   refine (ok.run x xs.length k flat flatv vb vc vcur w q1 hk hap p5 (by omega) (by rw [← p9]; show _ = vcur.toList.take (1 * sz); rw [Nat.one_mul]) (q4.one ok.pos) (p4.one ok.pos) hb (by simp only [maxLen]; omega)).mono ?_
   rintro _ w' ⟨v', rfl, hown', hgr, g2, cap2, rfl, hpos⟩
   have hblk' : ∀ k, k < w.heap.size → (al = true → k ≠ g.at_ (.r ri)) → w'.heap[k]? = w.heap[k]? := fun k hk hne => hgr.block k hk (fun e => by
    cases al with
    | true => rw [q3 rfl] at e; exact hne rfl (Option.some.inj e)
    | false => rw [q2.2 rfl] at e; cases e)
   have hsame : ∀ b, g.im b → w'.heap[b]? = w.heap[b]? := fun b hb' => hblk' b (rel.imlt b hb') (fun hal e => rel.heap.new (.r ri) ⟨_, hr, hal⟩ (e ▸ hb'))
   rcases hown'.2 with ⟨e2, _⟩ | ⟨g', cap', cur, e2, _, c2, n2, m2, s2, t2⟩
   ·skip
    cases e2
   ·skip
    simp only [Value.slice.injEq, Option.some.injEq, Addr.mk.injEq, and_true, true_and] at e2
    obtain ⟨rfl, rfl⟩ := e2
    have hfl : FlatR g.im w sz (xs.take k ++ [y] ++ xs.drop k) (flat.take (k * sz) ++ flatv ++ flat.drop (k * sz)) := ((q4.take k hk).app p4).app (q4.drop k hk)
    have hlen : (xs.take k ++ [y] ++ xs.drop k).length = xs.length + 1 := by simp only [List.length_append, List.length_take, List.length_drop, List.length_singleton]; omega
    obtain ⟨rel', ext⟩ := rel.setRow (o' := ⟨true, ver + 1, sz, e, xs.take k ++ [y] ++ xs.drop k⟩) (at' := g2) (cap' := cap2) hr (Nat.lt_succ_self _) hgr.os hgr.tape hgr.output hgr.size hblk'
     (fun _ => by
      rcases hpos with h | h
      ·skip
       cases al with
       | true => rw [q3 rfl] at h; exact .inl ⟨rfl, (Option.some.inj h).symm⟩
       | false => rw [q2.2 rfl] at h; cases h
      ·skip
       exact .inr (by omega))
     (by
      rw [if_pos rfl]
      refine ⟨cur, c2, s2, m2, by rw [hlen]; exact n2, hfl.r, fun _ _ => trivial, fun i j x d q a1 a2 a3 => RD.of_im (hfl.e i j x d q a1 a2 ?_) hsame⟩
      have := (hfl.lt a1 a2).2
      rw [← t2, List.getElem?_take, if_pos (by rw [← hlen]; exact this)]
      rw [← Array.getElem?_toList] at a3; exact a3)
    have hvR : RV (g.row ri g2 cap2) ((⟨t, b, r, m⟩ : St).withRow ri ⟨true, ver + 1, sz, e, xs.take k ++ [y] ++ xs.drop k⟩).sh w' (.one (.row ri (ver + 1) 0 (xs.take k ++ [y] ++ xs.drop k).length)) (.slice (some ⟨g2, 0, none⟩) (xs.length + 1) cap2) := by
     refine .one _ _ (.row _ _ _ _ _ rfl (by simpa [St.sh, St.withRow] using hlt) (fun al' ver' sz' len hh => ?_))
     have hf := rows_get (s := (⟨t, b, r, m⟩ : St).withRow ri ⟨true, ver + 1, sz, e, xs.take k ++ [y] ++ xs.drop k⟩) (r := ri) (o := ⟨true, ver + 1, sz, e, xs.take k ++ [y] ++ xs.drop k⟩) (by simp [St.withRow, List.getElem?_set, hlt])
     rw [hf] at hh
     simp only [Option.some.injEq, RowO.form, Prod.mk.injEq] at hh
     obtain ⟨rfl, rfl, rfl, rfl⟩ := hh
     refine ⟨Nat.le_refl _, fun _ => ⟨by simp, ?_⟩⟩
     rw [hlen]
     simp [Gh.row]
    have hp := rel'.put_same o.dst hvR
    rw [hdst] at hp
    rw [hdst]
    exact hn _ _ _ w' h hp
 | [] => have := congrArg List.length hq; rw [List.length_map, ← hal] at this; simp at this
 | [_] => have := congrArg List.length hq; rw [List.length_map, ← hal] at this; simp at this
 | [_, _] => have := congrArg List.length hq; rw [List.length_map, ← hal] at this; simp at this
 | _ :: _ :: _ :: _ :: _ => have := congrArg List.length hq; rw [List.length_map, ← hal] at this; simp at this
end
end
section
open Go Go.RowKit
theorem allOpd_looks {P : Program} {n : Nat} {t t' : Nat → V} {b : List (List C)} {r : List (Option RowO)} {m : List (List (DV × DV))} {ops : Array Oper} {o : Oper} (h : ∀ i ∈ o.looksAt ops, t' i = t i) : ∀ l : List (Nat × Operand), (∀ p ∈ l, p.2 ∈ o.op.operands.toList) → allOpd n ⟨t', b, r, m⟩ l = allOpd n ⟨t, b, r, m⟩ l
  | [], _ => rfl
  | (k, x) :: l, hm => by
    have h1 := looks_opd (n := n) (b := b) (b1 := b) (r := r) (m := m) (hm (k, x) List.mem_cons_self) h
    have h2 := allOpd_looks (P := P) (n := n) (b := b) (r := r) (m := m) h l (fun p hp => hm p (List.mem_cons_of_mem _ hp))
    unfold allOpd
    rw [h1, h2]
theorem OpZ.sliceOwn {J : Inv} {k0 : Lens} {E : Env J k0} {P : Program} {T : TypeId → Option TI} {n : Nat} {t : Nat → V} {b : List (List C)} {r : List (Option RowO)} {m : List (List (DV × DV))} {ops : Array Oper} {K : St → Prop} {i : Nat} {ty : TypeId} {pos : String} {after : Array Edge}
    (hT : TabOk P T) {te : TypeId} {len sz : Nat} {parts : Array (Nat × Operand)} {us : List (Nat × V)} {xs : List (List D)} {e : TypeId} {ti : TI} {r' : List (Option RowO)} (hti : T te = some ti) (hd : ti.desc = .slice e)
    (hp : allOpd n ⟨t, b, r, m⟩ parts.toList = (true, us)) (hx : evBS T te len us = some (sz, xs)) (hl : Nat.ble len 1000000 = true) (hr : appL r [some ⟨true, 0, sz, e, xs⟩] = r')
    (k : K ⟨upd t i (.one (.row r.length 0 0 len)), b, r', m⟩) : OpZ E P n ops ⟨some i, .buildSlice te len parts, ty, pos, after, none⟩ K ⟨t, b, r, m⟩ :=
  ⟨fun v1 b1 r1 m1 => v1 = .one (.row r.length 0 0 len) ∧ b1 = b ∧ r1 = r' ∧ m1 = m, fun t' ht => S.sliceOwn (t := t') (l := []) (K := fun s1 => ∃ v b2 r2 m2, s1 = ⟨updO t' (some i) v, b2, r2, m2⟩ ∧ (v = .one (.row r.length 0 0 len) ∧ b2 = b ∧ r2 = r' ∧ m2 = m)) hT hti hd ((allOpd_looks (P := P) ht _ (fun p hp => by simp only [Op.operands, Array.toList_map]; exact List.mem_map.2 ⟨p, hp, rfl⟩)).trans hp) hx hl hr ⟨_, _, _, _, rfl, rfl, rfl, rfl, rfl⟩,
    fun v1 b1 r1 m1 ⟨e0, e1, e2, e3⟩ => by subst e0; subst e1; subst e2; subst e3; exact k⟩
end
section
open Go
open Go.RowKit
attribute [local irreducible] thenK blockK W
attribute [local irreducible] rangeE checkP errR Ver.check visit visits offerE firstNe rangeB rangeR pathB nameB valueB orderB compareR fedE ofsE ofAt cmpO cmpR lsO srch
theorem mxO_add {i j n : Nat} (h : i ≤ n) (h2 : j ≤ n) (hn : n ≤ 4294967000) : V.one (.d (.int .i64 (IntKind.i64.wrap ((i : Int) + (j : Int))))) = V.one (.d (.int .i64 ((i + j : Nat) : Int))) := by
 rw [wrap_i64 (by omega) (by omega)]; rfl
theorem mxO_u {x : Nat} (h : x ≤ 8589934000) : V.one (.d (.int .u64 (IntKind.u64.wrap (x : Int)))) = V.one (.d (.int .u64 (x : Int))) := by
 rw [show IntKind.u64.wrap (x : Int) = (x : Int) from by show (x : Int) % _ = _; exact Int.emod_eq_of_lt (by omega) (by show _ < (18446744073709551616 : Int); omega)]
theorem mxO_h {x : Nat} : V.one (.d (.int .u64 (shrI .u64 (x : Int) 1))) = V.one (.d (.int .u64 ((x / 2 : Nat) : Int))) := by
 have e : shrI .u64 (x : Int) 1 = ((x / 2 : Nat) : Int) := by
  show Int.fdiv (x : Int) (2 ^ 1) = _
  rw [Int.fdiv_eq_ediv_of_nonneg _ (by decide)]; omega
 rw [e]
theorem mxO_i {x : Nat} (h : x ≤ 8589934000) : V.one (.d (.int .i64 (IntKind.i64.wrap (x : Int)))) = V.one (.d (.int .i64 (x : Int))) := by
 rw [wrap_i64 (by omega) (by omega)]
theorem map_sureO {β : Type} {f : β → List D} {l : List β} {i n : Nat} (h : decide ((i : Int) < (n : Int)) = true) (hn : n = (l.map f).length) : i < l.length := by
 have := of_decide_eq_true h
 rw [List.length_map] at hn; omega
theorem pc_bsO (f : Nat) (φ : Ofr → Int) (l : List Ofr) (hn : l.length ≤ 2000000) (o : Ofr) (hc : ∀ x ∈ l, PureCall Tryz.prog J f [ofrV x, ofrV o] (.one (.d (.int .i64 (φ x))))) :
  PureCall Tryz.prog J 21 [.one (.d (.vec 18 (l.map ofrD))), ofrV o, .one (.d (.fn f))] (.tup [.one (.d (.int .i64 (posO φ l : Int))), .one (.d (.bool (fndO φ l)))]) := by
 have hmap : (l.map ofrD).length = l.length := List.length_map _
 refine PureCall.of_body tOk (fn := Tryz.f21) Tryz.func21 (by kernel_rfl) rfl (Nat.le_of_ble_eq_true rfl) (fun E => ?_)
 iterate 15 first|refine Yp rfl ?_|apply Yb|refine S.box rfl rfl rfl rfl ?_|apply Y3|apply Y1|apply Ys|apply Yn
 refine W.loop (fun k st => ∃ u : Nat, ∃ i : Nat, ∃ j : Nat, i ≤ j ∧ j ≤ l.length ∧ j - i ≤ u ∧ srch (fun k => φ (l.getD k Ofr.z)) u i j = posO φ l ∧ k = u ∧ ∃ t b2 r2 m2, st = ⟨t, [(match ofrV o with | .agg cs => cs | _ => [])] ++ b2, [] ++ r2, [] ++ m2⟩ ∧ holdsL t [(0, .one (.d (.vec 18 (l.map ofrD)))), (2, .one (.d (.fn f))), (4, .one (.ptr 0 0)), (8, .one (.d (.int .i64 ((l.map ofrD).length : Int)))), (9, .one (.d (.int .i64 (i : Int)))), (10, .one (.d (.int .i64 (j : Int))))]) (l.length) ⟨l.length, 0, (l.map ofrD).length, Nat.zero_le _, Nat.le_of_eq hmap, (by omega), (by unfold posO; rw [hmap]), rfl, _, _, _, _, rfl, rfl, rfl, rfl, rfl, rfl, rfl, trivial⟩ ?_
 rintro k0 _ ⟨u, i, j, f0_0, f0_1, f0_2, f0_3, rfl, t0, bb0, rr0, mm0, rfl, hh0⟩
 refine W.keepR _ _ _ _ _ _ _ hh0 rfl ?_
 apply Ys
 apply Y1
 iterate 3 refine Yp rfl ?_
 apply Yn
 refine W.cond rfl (fun c1=>?_) fun c1=>?_
 ·skip
  have hij : i < j := by have := of_decide_eq_true c1; omega
  have hh : ((i + j) / 2) < l.length := by omega
  iterate 6 first|refine Yp rfl ?_|apply Yb|apply Yk|apply Y1|apply Yn
  refine YE rfl rfl (mxO_add (n := l.length) (by omega) f0_1 (by omega)) rfl ?_
  refine YE rfl rfl (mxO_u (by omega)) rfl ?_
  refine YE rfl (rfl) (mxO_h) rfl ?_
  refine YE rfl rfl (mxO_i (by omega)) rfl ?_
  refine Yp rfl ?_
  apply Yn
  apply Ys
  refine W.regionD mixed (by kernel_rfl) ?_
  iterate 3 refine Ym rfl rfl ?_
  refine D.pureE tOk zOk rfl rfl (row_ok hh) (row_at Ofr.z hh) rfl ?_
  iterate 2 refine Ym rfl rfl ?_
  refine D.call rfl rfl rfl rfl rfl (hc _ (mem_getD (d := Ofr.z) hh)) ?_
  refine Ym rfl rfl ?_
  apply Yn
  refine W.cond rfl (fun c2=>?_) fun c2=>?_
  ·skip
   apply Yr
   refine Yp rfl ?_
   refine YE rfl rfl (inc_i64 (by omega)) rfl ?_
   refine Yp rfl ?_
   apply Yw
   refine loop_n (k0 - 1) (by omega) ⟨k0 - 1, ((i + j) / 2) + 1, j, (by omega), (by omega), (by omega), (sr_lo (φ := fun k => φ (l.getD k Ofr.z)) f0_2 hij c2 f0_3), rfl, _, _, _, _, rfl, rfl, rfl, rfl, rfl, rfl, rfl, trivial⟩
  apply Yr
  iterate 2 refine Yp rfl ?_
  apply Yw
  refine loop_n (k0 - 1) (by omega) ⟨k0 - 1, i, ((i + j) / 2), (by omega), (by omega), (by omega), (sr_hi (φ := fun k => φ (l.getD k Ofr.z)) f0_2 hij c2 f0_3), rfl, _, _, _, _, rfl, rfl, rfl, rfl, rfl, rfl, rfl, trivial⟩
 have hij : j ≤ i := by have := of_decide_eq_false c1; omega
 have hend := (sr_end (φ := fun k => φ (l.getD k Ofr.z)) hij).symm.trans f0_3
 apply Yq
 apply Ye
 apply Ye
 apply Yx
 apply Yn
 apply Ys
 refine W.regionD mixed (by kernel_rfl) ?_
 iterate 8 first|refine Ym rfl rfl ?_|refine Yy rfl rfl rfl tg ?_
 refine D.pureEGc tOk zOk rfl rfl rfl tg (fun hg => row_ok (map_sureO hg rfl)) (fun hg => row_at Ofr.z (map_sureO hg rfl)) rfl ?_
 iterate 2 refine Yy rfl rfl rfl tg ?_
 refine D.callG rfl rfl rfl rfl tg rfl rfl (fun hg => hc _ (mem_getD (d := Ofr.z) (map_sureO hg rfl))) ?_
 refine Yy rfl rfl rfl tg ?_
 refine D.pickAnd tOk zOk rfl rfl tg ?_
 iterate 2 refine Ym rfl rfl ?_
 apply Yn
 apply Yt
 exact Yz rfl rfl rfl (by unfold fndO; rw [← hend, hmap]; cases decide ((i : Int) < (l.length : Int)) <;> rfl)
theorem pc_CloneSp (xs : List (List D)) (hl : xs.length ≤ 2000000) :
  PureCall Tryz.prog J 116 [.one (.d (.vec 10 xs))] (.one (.d (.vec 10 xs))) := by
 refine PureCall.of_body tOk (fn := Tryz.f116) Tryz.func116 (by kernel_rfl) rfl (Nat.le_of_ble_eq_true rfl) (fun E => ?_)
 iterate 6 first|refine Yp rfl ?_|apply Y1|apply Ys|apply Yn
 refine S.eqNil tOk rfl rfl rfl rfl (fun q hq => ?_)
 apply Yn
 refine W.cond rfl (fun c1=>?_) fun c1=>?_
 ·skip
  apply Y1
  refine Yp rfl ?_
  apply Yn
  apply Yt
  apply Yu
  exact ⟨_, rfl, rfl, by rw [hq c1]; exact LeV.nil 10⟩
 apply Yk
 apply Y3
 refine S.sliceOwn tOk rfl rfl rfl rfl rfl rfl ?_
 refine Yp rfl ?_
 refine S.appendV tOk rfl rfl rfl rfl rfl rfl rfl rfl rfl rfl rfl rfl (by show 0 + xs.length ≤ _; omega) rfl rfl ?_
 refine Yp rfl ?_
 apply Yn
 apply Yt
 exact ⟨_, rfl, rfl, LeV.refl _⟩
theorem pc_CloneC (xs : List (List D)) (hl : xs.length ≤ 4294967000) :
  HCall Tryz.prog J 173 ([.one (.d (.vec 4 xs))]) ([]) ([]) ([]) (isX (X := Bool) (fun q => True) (fun q => .one (.row 0 0 0 xs.length)) (fun q => []) (fun q => [some ⟨q, 0, 4, 70, xs⟩]) (fun q => [])) := by
 refine HCall.ofX tOk (fun _ => ⟨0, 1, 0⟩) (fn := Tryz.f173) Tryz.func173 (by kernel_rfl) rfl (Nat.le_of_ble_eq_true rfl) (fun E => ?_)
 iterate 6 first|refine Yp rfl ?_|apply Y1|apply Ys|apply Yn
 refine S.eqNil tOk rfl rfl rfl rfl (fun q hq => ?_)
 apply Yn
 refine W.cond rfl (fun c1=>?_) fun c1=>?_
 ·skip
  obtain rfl := hq c1
  apply Y1
  refine Yp rfl ?_
  apply Yn
  refine W.newRow 2 4 70 rfl ?_
  apply Yt
  apply Yu
  exact ⟨false, trivial, _, rfl, rfl, LeG.refl _, rfl, rfl, rfl⟩
 apply Yk
 apply Y3
 refine S.sliceOwn tOk rfl rfl rfl rfl rfl rfl ?_
 refine Yp rfl ?_
 refine S.append tOk rfl rfl rfl rfl rfl rfl rfl rfl rfl rfl rfl rfl (by show 0 + xs.length ≤ _; omega) rfl (rfl) rfl ?_
 refine Yp rfl ?_
 apply Yn
 refine W.keep [(2, .one (.row 0 1 0 xs.length))] ⟨rfl, trivial⟩ ?_
 refine W.reVer (l := [(2, .one (.row 0 0 0 xs.length))]) (b := []) 0 rfl rfl rfl rfl rfl ?_
 apply Yt
 exact ⟨true, trivial, _, rfl, rfl, LeG.refl _, rfl, rfl, rfl⟩
theorem pc_cloneCs (c : CT) (hc : CtBig c) (ih : ∀ a ∈ c.l, PureCall Tryz.prog J 117 [ctV a] (ctV a)) :
  PureCall Tryz.prog J 117 [ctV c] (ctV c) := by
 have hl := hc.ll
 unfold ctV
 rw [ds_map]
 refine PureCall.of_body tOk (fn := Tryz.f117) Tryz.func117 (by kernel_rfl) rfl (Nat.le_of_ble_eq_true rfl) (fun E => ?_)
 apply Y1
 refine S.box rfl rfl rfl rfl ?_
 refine S.alloc tOk rfl rfl rfl rfl ?_
 apply Y3
 iterate 2 refine Yp rfl ?_
 refine S.hcallX rfl rfl rfl rfl ((pc_CloneC (c.l.map CT.d) (by rw [List.length_map]; omega)).frameX [] [] [] rfl rfl rfl rfl rfl (fun _ => rfl) (fun _ => rfl) (fun _ => rfl) (fun _ => rfl)) ?_
 rintro al -
 iterate 11 first|refine Yp rfl ?_|apply Yb|refine S.store tOk rfl rfl rfl rfl rfl rfl rfl rfl ?_|apply Y1|apply Yn|apply Ys
 refine W.loop (fun k st => ∃ i : Nat, i ≤ c.l.length ∧ k = c.l.length - i ∧ ∃ t b2 r2 m2, st = ⟨t, [[.d (.int .i64 c.k), .d (.str c.n), .d (.str c.v), .row 0 0 0 (c.l.map CT.d).length], [.d (.int .i64 0), .d (.str []), .d (.str []), .d .nilsl]] ++ b2, [some ⟨al, 0, 4, 70, c.l.map CT.d⟩] ++ r2, [] ++ m2⟩ ∧ holdsL t [(1, .one (.ptr 0 0)), (2, .one (.ptr 1 0)), (10, .one (.row 0 0 0 (c.l.map CT.d).length)), (11, .one (.d (.int .i64 ((c.l.map CT.d).length : Int)))), (12, .one (.d (.int .i64 (i : Int))))]) (c.l.length) ⟨0, Nat.zero_le _, rfl, _, _, _, _, rfl, rfl, rfl, rfl, rfl, rfl, trivial⟩ ?_
 rintro k0 _ ⟨i, f0_0, rfl, t0, bb0, rr0, mm0, rfl, hh0⟩
 refine W.keepR _ _ _ _ _ _ _ hh0 rfl ?_
 apply Y1
 refine Yp rfl ?_
 apply Yn
 apply Ys
 refine W.cond rfl (fun c1=>?_) fun c1=>?_
 ·skip
  have hi := row_lt (by assumption)
  apply Yk
  apply Yn
  apply Ys
  apply Yb
  apply Y1
  refine Yp rfl ?_
  refine YP rfl (row_ok hi) rfl ?_
  refine S.rload tOk rfl rfl rfl (ct_row hi) rfl rfl ?_
  refine S.alloc tOk rfl rfl rfl rfl ?_
  refine Yp rfl ?_
  refine S.store tOk rfl rfl rfl rfl rfl rfl rfl rfl ?_
  apply Yn
  refine W.regionS 7 mixed rfl (by kernel_rfl) ?_
  refine AnyZ.eager 0 rfl (by kernel_rfl) (Eag.pure tOk zOk rfl (fun _ _ _ => rfl) rfl rfl) ?_
  refine AnyZ.eager 2 rfl (by kernel_rfl) (Eag.pure tOk zOk rfl (fun _ _ _ => rfl) rfl rfl) ?_
  refine AnyZ.two 1 3 (by kernel_rfl) rfl rfl ?_ ?_
  ·skip
   refine OpZ.d ?_
   refine Ym rfl rfl ?_
   refine WD.nil ?_
   refine AnyZ.one 3 (by kernel_rfl) rfl ?_
   refine OpZ.d ?_
   refine Ym rfl rfl ?_
   refine WD.nil ?_
   refine AnyZ.one 4 (by kernel_rfl) rfl ?_
   refine OpZ.d ?_
   refine D.call rfl rfl rfl rfl rfl (ih (c.l.getD i CT.z) (mem_ct hi)) ?_
   refine WD.nil ?_
   refine AnyZ.one 5 (by kernel_rfl) rfl ?_
   refine OpZ.d ?_
   refine D.pure tOk zOk rfl rfl (row_ok hi) rfl ?_
   refine WD.nil ?_
   refine AnyZ.one 6 (by kernel_rfl) rfl ?_
   refine OpZ.rstore tOk rfl rfl rfl rfl rfl rfl rfl (ct_set hi) rfl ?_
   refine AnyZ.nil (by kernel_rfl) ?_
   apply Yw
   apply Y4
   iterate 2 refine Yp rfl ?_
   refine loop_n (c.l.length - (i + 1)) (by omega) ⟨i + 1, hi, rfl, _, _, _, _, rfl, rfl, rfl, rfl, rfl, inc_i64 (by omega), trivial⟩
  refine OpZ.d ?_
  refine Ym rfl rfl ?_
  refine WD.nil ?_
  refine AnyZ.two 1 4 (by kernel_rfl) rfl rfl ?_ ?_
  ·skip
   refine OpZ.d ?_
   refine Ym rfl rfl ?_
   refine WD.nil ?_
   refine AnyZ.one 4 (by kernel_rfl) rfl ?_
   refine OpZ.d ?_
   refine D.call rfl rfl rfl rfl rfl (ih (c.l.getD i CT.z) (mem_ct hi)) ?_
   refine WD.nil ?_
   refine AnyZ.one 5 (by kernel_rfl) rfl ?_
   refine OpZ.d ?_
   refine D.pure tOk zOk rfl rfl (row_ok hi) rfl ?_
   refine WD.nil ?_
   refine AnyZ.one 6 (by kernel_rfl) rfl ?_
   refine OpZ.rstore tOk rfl rfl rfl rfl rfl rfl rfl (ct_set hi) rfl ?_
   refine AnyZ.nil (by kernel_rfl) ?_
   apply Yw
   apply Y4
   iterate 2 refine Yp rfl ?_
   refine loop_n (c.l.length - (i + 1)) (by omega) ⟨i + 1, hi, rfl, _, _, _, _, rfl, rfl, rfl, rfl, rfl, inc_i64 (by omega), trivial⟩
  refine OpZ.d ?_
  refine D.call rfl rfl rfl rfl rfl (ih (c.l.getD i CT.z) (mem_ct hi)) ?_
  refine WD.nil ?_
  refine AnyZ.one 1 (by kernel_rfl) rfl ?_
  refine OpZ.d ?_
  refine Ym rfl rfl ?_
  refine WD.nil ?_
  refine AnyZ.one 5 (by kernel_rfl) rfl ?_
  refine OpZ.d ?_
  refine D.pure tOk zOk rfl rfl (row_ok hi) rfl ?_
  refine WD.nil ?_
  refine AnyZ.one 6 (by kernel_rfl) rfl ?_
  refine OpZ.rstore tOk rfl rfl rfl rfl rfl rfl rfl (ct_set hi) rfl ?_
  refine AnyZ.nil (by kernel_rfl) ?_
  apply Yw
  apply Y4
  iterate 2 refine Yp rfl ?_
  refine loop_n (c.l.length - (i + 1)) (by omega) ⟨i + 1, hi, rfl, _, _, _, _, rfl, rfl, rfl, rfl, rfl, inc_i64 (by omega), trivial⟩
 apply Yq
 apply Ye
 apply Ye
 apply Yx
 apply Yn
 apply Ys
 refine W.freezeB (ri := 0) (q := ⟨_, _, _, _, _⟩) 0 3 rfl rfl rfl rfl ?_
 apply Yr
 refine Yp rfl ?_
 refine S.store tOk rfl rfl rfl rfl rfl rfl rfl rfl ?_
 apply Yn
 apply Yt
 exact ⟨_, rfl, rfl, LeV.refl _⟩
theorem pc_cloneC : ∀ (n : Nat) (c : CT), c.w ≤ n → CtBig c → PureCall Tryz.prog J 117 [ctV c] (ctV c)
 | 0, c, h => by have := c.pos; omega
 | n + 1, c, h => fun hc => pc_cloneCs c hc (fun a ha => pc_cloneC n a (by have := CT.sz ha; omega) (hc.l a ha))
theorem pc_clone (o : Ofr) (ho : OfrOk o) :
  PureCall Tryz.prog J 64 [ofrV o] (ofrV o) := by
 refine PureCall.of_body tOk (fn := Tryz.f64) Tryz.func64 (by kernel_rfl) rfl (Nat.le_of_ble_eq_true rfl) (fun E => ?_)
 apply Y1
 refine S.box rfl rfl rfl rfl ?_
 refine S.alloc tOk rfl rfl rfl rfl ?_
 apply Yn
 apply Ys
 refine W.regionS 12 mixed rfl (by kernel_rfl) ?_
 refine AnyZ.eager 0 rfl (by kernel_rfl) (Eag.pure tOk zOk rfl (fun _ _ _ => rfl) rfl rfl) ?_
 refine AnyZ.eager 1 rfl (by kernel_rfl) (Eag.pure tOk zOk rfl (fun _ _ _ => rfl) rfl rfl) ?_
 refine AnyZ.eager 4 rfl (by kernel_rfl) (Eag.pure tOk zOk rfl (fun _ _ _ => rfl) rfl rfl) ?_
 refine AnyZ.two 2 5 (by kernel_rfl) rfl rfl ?_ ?_
 ·skip
  refine OpZ.d ?_
  refine Ym rfl rfl ?_
  refine WD.nil ?_
  refine AnyZ.two 3 5 (by kernel_rfl) rfl rfl ?_ ?_
  ·skip
   refine OpZ.d ?_
   refine D.call rfl rfl rfl rfl rfl (pc_CloneSp (o.f.map spD) (by rw [List.length_map]; have := ho.fl; omega)) ?_
   refine WD.nil ?_
   refine AnyZ.one 5 (by kernel_rfl) rfl ?_
   refine OpZ.d ?_
   refine Ym rfl rfl ?_
   refine WD.nil ?_
   refine AnyZ.eager 7 rfl (by kernel_rfl) (Eag.pure tOk zOk rfl (fun _ _ _ => rfl) rfl rfl) ?_
   refine AnyZ.eager 8 rfl (by kernel_rfl) (Eag.pure tOk zOk rfl (fun _ _ _ => rfl) rfl rfl) ?_
   refine AnyZ.one 6 (by kernel_rfl) rfl ?_
   refine OpZ.d ?_
   refine D.call rfl rfl rfl rfl rfl (pc_cloneC _ o.w (Nat.le_refl _) ho.w) ?_
   refine WD.nil ?_
   refine AnyZ.one 9 (by kernel_rfl) rfl ?_
   refine OpZ.d ?_
   refine D.store tOk rfl rfl rfl rfl rfl rfl rfl rfl ?_
   refine WD.nil ?_
   refine AnyZ.eager 10 rfl (by kernel_rfl) (Eag.pure tOk zOk rfl (fun _ _ _ => rfl) rfl rfl) ?_
   refine AnyZ.one 11 (by kernel_rfl) rfl ?_
   refine OpZ.d ?_
   refine D.store tOk rfl rfl rfl rfl rfl rfl rfl rfl ?_
   refine WD.nil ?_
   refine AnyZ.nil (by kernel_rfl) ?_
   apply Y3
   refine Yp rfl ?_
   refine S.store tOk rfl rfl rfl rfl rfl rfl rfl rfl ?_
   apply Yn
   apply Yt
   exact ⟨_, rfl, rfl, LeV.refl _⟩
  refine OpZ.d ?_
  refine Ym rfl rfl ?_
  refine WD.nil ?_
  refine AnyZ.one 3 (by kernel_rfl) rfl ?_
  refine OpZ.d ?_
  refine D.call rfl rfl rfl rfl rfl (pc_CloneSp (o.f.map spD) (by rw [List.length_map]; have := ho.fl; omega)) ?_
  refine WD.nil ?_
  refine AnyZ.eager 7 rfl (by kernel_rfl) (Eag.pure tOk zOk rfl (fun _ _ _ => rfl) rfl rfl) ?_
  refine AnyZ.eager 8 rfl (by kernel_rfl) (Eag.pure tOk zOk rfl (fun _ _ _ => rfl) rfl rfl) ?_
  refine AnyZ.one 6 (by kernel_rfl) rfl ?_
  refine OpZ.d ?_
  refine D.call rfl rfl rfl rfl rfl (pc_cloneC _ o.w (Nat.le_refl _) ho.w) ?_
  refine WD.nil ?_
  refine AnyZ.one 9 (by kernel_rfl) rfl ?_
  refine OpZ.d ?_
  refine D.store tOk rfl rfl rfl rfl rfl rfl rfl rfl ?_
  refine WD.nil ?_
  refine AnyZ.eager 10 rfl (by kernel_rfl) (Eag.pure tOk zOk rfl (fun _ _ _ => rfl) rfl rfl) ?_
  refine AnyZ.one 11 (by kernel_rfl) rfl ?_
  refine OpZ.d ?_
  refine D.store tOk rfl rfl rfl rfl rfl rfl rfl rfl ?_
  refine WD.nil ?_
  refine AnyZ.nil (by kernel_rfl) ?_
  apply Y3
  refine Yp rfl ?_
  refine S.store tOk rfl rfl rfl rfl rfl rfl rfl rfl ?_
  apply Yn
  apply Yt
  exact ⟨_, rfl, rfl, LeV.refl _⟩
 refine OpZ.d ?_
 refine Ym rfl rfl ?_
 refine WD.nil ?_
 refine AnyZ.one 2 (by kernel_rfl) rfl ?_
 refine OpZ.d ?_
 refine Ym rfl rfl ?_
 refine WD.nil ?_
 refine AnyZ.one 3 (by kernel_rfl) rfl ?_
 refine OpZ.d ?_
 refine D.call rfl rfl rfl rfl rfl (pc_CloneSp (o.f.map spD) (by rw [List.length_map]; have := ho.fl; omega)) ?_
 refine WD.nil ?_
 refine AnyZ.eager 7 rfl (by kernel_rfl) (Eag.pure tOk zOk rfl (fun _ _ _ => rfl) rfl rfl) ?_
 refine AnyZ.eager 8 rfl (by kernel_rfl) (Eag.pure tOk zOk rfl (fun _ _ _ => rfl) rfl rfl) ?_
 refine AnyZ.one 6 (by kernel_rfl) rfl ?_
 refine OpZ.d ?_
 refine D.call rfl rfl rfl rfl rfl (pc_cloneC _ o.w (Nat.le_refl _) ho.w) ?_
 refine WD.nil ?_
 refine AnyZ.one 9 (by kernel_rfl) rfl ?_
 refine OpZ.d ?_
 refine D.store tOk rfl rfl rfl rfl rfl rfl rfl rfl ?_
 refine WD.nil ?_
 refine AnyZ.eager 10 rfl (by kernel_rfl) (Eag.pure tOk zOk rfl (fun _ _ _ => rfl) rfl rfl) ?_
 refine AnyZ.one 11 (by kernel_rfl) rfl ?_
 refine OpZ.d ?_
 refine D.store tOk rfl rfl rfl rfl rfl rfl rfl rfl ?_
 refine WD.nil ?_
 refine AnyZ.nil (by kernel_rfl) ?_
 apply Y3
 refine Yp rfl ?_
 refine S.store tOk rfl rfl rfl rfl rfl rfl rfl rfl ?_
 apply Yn
 apply Yt
 exact ⟨_, rfl, rfl, LeV.refl _⟩
end
section
open Go Go.Proofs Go.Shelf Go.RowKit Go.Lib
section
variable (b n c i vb vc : Nat) (cs vs : List Value) (cur vcur : Array Value) (w : World)
theorem insO_shift (hi : i < n) (hroom : n + 1 ≤ c) (hc63 : c ≤ 9223372036854775807) (hvb : vb ≠ b) (hg : w.heap[b]? = some (.cells cur 72 (0, 0))) (hv : w.heap[vb]? = some (.cells vcur 72 (0, 0)))
    (hcur : cur.size = c * 18) (hcs : cur.toList.take (n * 18) = cs) (hvcur : 18 ≤ vcur.size) (hvs : vcur.toList.take 18 = vs) (h1c : ∀ v ∈ cs, v.oneCell' = true) (h1v : ∀ v ∈ vs, v.oneCell' = true) :
    Calls Tryz.prog 25 #[.slice (some ⟨b, 0, none⟩) n c, .int .i64 i, .slice (some ⟨vb, 0, none⟩) 1 vc] w (InsOut w 72 18 n i cs vs b) := by
  obtain ⟨hcl, hvl, hcc, hvc⟩ := ins_pre (n := n) (i := i) (hcur) (by omega) hcs hvcur hvs
  have t3 := Tryz.underlying3; have t4 := Tryz.underlying4; have tS := Tryz.underlying54
  have u3 := run_underlying Tryz.underlying3; have u4 := run_underlying Tryz.underlying4; have uS := run_underlying Tryz.underlying54
  have zE : ∀ w, (Go.sizeOf 72).run Tryz.prog w = .ok 18 w := fun w => run_sizeOf' tOk (i := ty72) rfl
  have a3 : ∀ w, (isAgg 3).run Tryz.prog w = .ok false w := fun w => run_isAgg' tOk (i := ty3) rfl
  have a4 : ∀ w, (isAgg 4).run Tryz.prog w = .ok false w := fun w => run_isAgg' tOk (i := ty4) rfl
  have aS : ∀ w, (isAgg 54).run Tryz.prog w = .ok false w := fun w => run_isAgg' tOk (i := ty54) rfl
  have mixd := mixed
  have hz2 : ¬ ((i : Int) = (n : Int)) := by omega
  have hw1 : IntKind.i64.wrap ((i : Int) + 1) = (i : Int) + 1 := by rw [IntKind.wrap_i64]; omega
  have hb1 : (0 : Int) ≤ (i : Int) + 1 := by omega
  have hin : i ≤ n := by omega
  have htn : ((i : Int) + 1).toNat = i + 1 := by omega
  have hb2 : ¬ (c = i + 1) := by omega
  have hb3 : (i : Int) ≤ (n : Int) + 1 := by omega
  have hb4 : ¬ (c = i) := by omega
  have hov : ∀ lb cb, (callFunc 72 #[.slice (some ⟨vb, 0, none⟩) 1 vc, .slice (some ⟨b, (i + 1) * 18, none⟩) lb cb]).run Tryz.prog w = .ok (.value (.bool false)) w := fun lb cb => by
    rw [run_callFunc_extern Tryz.func72 (by kernel_rfl) (by kernel_rfl) (by kernel_rfl) (e := Extern.SlicesOverlaps.overlaps #[54, 54] #[4]) (by kernel_rfl),
      Lib.run_overlaps_apart w 54 4 72 tS 18 zE ⟨vb, 0, none⟩ ⟨b, (i + 1) * 18, none⟩ 1 vc lb cb hvb 72 72 vcur.size cur.size (shape_cells hv) (shape_cells hg) (by omega) (frozen_cells hv _) (frozen_cells hv _)]
    rfl
  have hdl : (cs.drop (i * 18)).length = (n - i) * 18 := by rw [List.length_drop, hcl]; omega
  have hcp1 : ∀ ty dc sc, (Builtin.copy_ #[54, 54] ty #[.slice (some ⟨b, (i + 1) * 18, none⟩) (n - i) dc, .slice (some ⟨b, i * 18, none⟩) (n + 1 - i) sc]).run Tryz.prog w.drew = .ok (goInt (Nat.min (n + 1 - i) (n - i))) (w.drew.setRow b (splR cur.toList ((i + 1) * 18) (cs.drop (i * 18))).toArray) := fun ty dc sc =>
    run_copy_r w.drew _ _ ty 72 b ((i + 1) * 18) (n - i) dc ⟨b, i * 18, none⟩ (n + 1 - i) sc (cs.drop (i * 18)) cur hg tS zE (by rw [hdl]; simp only [Nat.min_def]; split <;> omega)
      (fun j v hj => by rw [Addr.add_lit]; rw [List.getElem?_drop] at hj; exact cell_cells hg (hcc _ _ hj)) (by rw [hdl]; omega) (fun v hv => h1c v (List.mem_of_mem_drop hv))
  obtain ⟨cur1, hc1⟩ : ∃ cur1, cur1 = (splR cur.toList ((i + 1) * 18) (cs.drop (i * 18))).toArray := ⟨_, rfl⟩
  have hs1 : cur1.size = c * 18 := by rw [hc1]; show (splR _ _ _).length = _; rw [splR_len (by rw [hdl]; simp only [Array.length_toList]; omega)]; exact hcur
  rw [← hc1] at hcp1
  have hcp2 : ∀ (W : World), (∀ k : Nat, W.heap[k]? = (w.drew.setRow b cur1).heap[k]?) → ∀ ty dc, (Builtin.copy_ #[54, 54] ty #[.slice (some ⟨b, i * 18, none⟩) (n + 1 - i) dc, .slice (some ⟨vb, 0, none⟩) 1 vc]).run Tryz.prog W = .ok (goInt (Nat.min 1 (n + 1 - i))) (W.setRow b (splR cur1.toList (i * 18) vs).toArray) := fun W hW ty dc =>
    run_copy_r W _ _ ty 72 b (i * 18) (n + 1 - i) dc ⟨vb, 0, none⟩ 1 vc vs cur1 (by rw [hW]; exact setRow_heap w.drew b cur _ _ _ hg) tS zE (by rw [hvl]; simp only [Nat.min_def]; split <;> omega)
      (fun j v hj => by rw [Addr.add_lit, Nat.zero_add]; exact cell_cells (by rw [hW, setRow_other _ _ _ _ hvb]; exact hv) (hvc _ _ hj)) (by rw [hvl]; omega) h1v
  have hout := ins_shift_out hi hroom (by unfold maxLen; omega) hg hcur hcs hcl hvl hc1 hs1
  clear hc1
  go_enter Tryz.func25, Tryz.ntmps25
  go_wp2_with (simp only [hov])
  go_region_law_o (refine step_copy_runI rfl _ _ (54) (54) rfl _ _ (by simp [Act.eval, Act.put]) (by simp [Act.eval, Act.put]) (hcp1 _ _ _) ?_)
  go_wp2_with (at_builtin; refine wpList_copy_runI _ rfl _ _ (54) (54) rfl _ _ rfl rfl (hcp2 _ (fun _ => rfl) _ _) ?_)
  go_ret
  exact hout
theorem insO_end (v : Value) (hown : w.ownsRow 0 72 18 v n cs) (hvb : some vb ≠ v.ownBlock) (hv : w.heap[vb]? = some (.cells vcur 72 (0, 0))) (hvcur : 18 ≤ vcur.size) (hvs : vcur.toList.take 18 = vs) (h1v : ∀ v ∈ vs, v.oneCell' = true) (hbig : (n + 1) * ty72.bytes ≤ 140737488355328) (h63 : n + 1 ≤ maxLen) :
    Calls Tryz.prog 25 #[v, .int .i64 n, .slice (some ⟨vb, 0, none⟩) 1 vc] w (InsEnd w 72 18 n cs vs v) := by
  have t3 := Tryz.underlying3; have t4 := Tryz.underlying4; have tS := Tryz.underlying54
  have u3 := run_underlying Tryz.underlying3; have u4 := run_underlying Tryz.underlying4; have uS := run_underlying Tryz.underlying54
  have zE : ∀ w, (Go.sizeOf 72).run Tryz.prog w = .ok 18 w := fun w => run_sizeOf' tOk (i := ty72) rfl
  have a3 : ∀ w, (isAgg 3).run Tryz.prog w = .ok false w := fun w => run_isAgg' tOk (i := ty3) rfl
  have a4 : ∀ w, (isAgg 4).run Tryz.prog w = .ok false w := fun w => run_isAgg' tOk (i := ty4) rfl
  have aS : ∀ w, (isAgg 54).run Tryz.prog w = .ok false w := fun w => run_isAgg' tOk (i := ty54) rfl
  have mixd := mixed
  obtain ⟨info, i1, i2, i3, i4⟩ := info_of tOk (t := 72) (i := ty72) rfl
  have hvl : vs.length = 18 := by rw [← hvs, List.length_take, Array.length_toList]; omega
  obtain ⟨v', w', hrun, ho, hgr, hb, hn⟩ := append_cases (P := Tryz.prog) (w := w) 0 54 54 72 info _ 18 ty72.bytes tS i1 i2 i3 i4 (by kernel_rfl) (by decide) v n cs hown ⟨vb, 0, none⟩ 1 vc vs (by rw [hvl]) (fun j u hj => by
    rw [Addr.add_lit, Nat.zero_add]
    rw [← hvs, List.getElem?_take] at hj
    split at hj
    · exact cell_cells hv (by rw [← Array.getElem?_toList]; exact hj)
    · cases hj) h1v h63 hbig (Nat.zero_le _)
  have hfin : InsEnd w 72 18 n cs vs v (.returned v') w' := by
    refine ⟨v', rfl, ho, hgr, ?_⟩
    rcases hb with rfl | h
    · exact absurd (hn.1 rfl).2 (by decide)
    · exact h
  rcases hown.2 with ⟨rfl, rfl⟩ | ⟨g, cap, cur', rfl, _, hgg, hnc, hcm, hsz, htk⟩
  · go_enter Tryz.func25, Tryz.ntmps25
    go_wp2_with (at_builtin; refine Lib.wpList_append_run _ rfl _ _ _ _ rfl _ _ rfl rfl _ _ hrun ?_)
    go_ret
    exact hfin
  · by_cases hcn : cap = n
    · subst hcn
      go_enter Tryz.func25, Tryz.ntmps25
      go_wp2_with (at_builtin; refine Lib.wpList_append_run _ rfl _ _ _ _ rfl _ _ rfl rfl _ _ hrun ?_)
      go_ret
      exact hfin
    · go_enter Tryz.func25, Tryz.ntmps25
      go_wp2_with (at_builtin; refine Lib.wpList_append_run _ rfl _ _ _ _ rfl _ _ rfl rfl _ _ hrun ?_)
      go_ret
      exact hfin
theorem insO_grow (hi : i < n) (hvb : vb ≠ b) (hg : w.heap[b]? = some (.cells cur 72 (0, 0))) (hv : w.heap[vb]? = some (.cells vcur 72 (0, 0)))
    (hcur : cur.size = n * 18) (hcs : cur.toList.take (n * 18) = cs) (hvcur : 18 ≤ vcur.size) (hvs : vcur.toList.take 18 = vs) (h1c : ∀ v ∈ cs, v.oneCell' = true) (h1v : ∀ v ∈ vs, v.oneCell' = true)
    (hbig : (n + 1) * ty72.bytes ≤ 140737488355328) (h63 : n + 1 ≤ maxLen) :
    Calls Tryz.prog 25 #[.slice (some ⟨b, 0, none⟩) n n, .int .i64 i, .slice (some ⟨vb, 0, none⟩) 1 vc] w (InsOut w 72 18 n i cs vs b) := by
  obtain ⟨hcl, hvl, hcc, hvc⟩ := ins_pre (n := n) (i := i) (hcur) (Nat.le_refl _) hcs hvcur hvs
  have t3 := Tryz.underlying3; have t4 := Tryz.underlying4; have tS := Tryz.underlying54
  have u3 := run_underlying Tryz.underlying3; have u4 := run_underlying Tryz.underlying4; have uS := run_underlying Tryz.underlying54
  have zE : ∀ w, (Go.sizeOf 72).run Tryz.prog w = .ok 18 w := fun w => run_sizeOf' tOk (i := ty72) rfl
  have a3 : ∀ w, (isAgg 3).run Tryz.prog w = .ok false w := fun w => run_isAgg' tOk (i := ty3) rfl
  have a4 : ∀ w, (isAgg 4).run Tryz.prog w = .ok false w := fun w => run_isAgg' tOk (i := ty4) rfl
  have aS : ∀ w, (isAgg 54).run Tryz.prog w = .ok false w := fun w => run_isAgg' tOk (i := ty54) rfl
  have mixd := mixed
  obtain ⟨info, i1, i2, i3, i4⟩ := info_of tOk (t := 72) (i := ty72) rfl
  have i3' : info.size = 18 := i3
  have hbw : b < w.heap.size := (Array.getElem?_eq_some_iff.1 hg).1
  have hvw : vb < w.heap.size := (Array.getElem?_eq_some_iff.1 hv).1
  have hik : i + (n + 1 - i) = n + 1 := by omega
  have hkk : (n : Int) + 1 - (i : Int) = ((n + 1 - i : Nat) : Int) := by omega
  have hold : (Builtin.firstCells info.size i (.slice (some ⟨b, 0, none⟩) i n)).run Tryz.prog w.drew = .ok (cs.take (i * 18)).toArray w.drew := by
    rw [i3']
    exact run_firstCells_some w.drew 18 i ⟨b, 0, none⟩ i n (cs.take (i * 18)) (by rw [List.length_take]; omega) (fun j v hj => by
      rw [Addr.add_lit, Nat.zero_add]
      rw [List.getElem?_take] at hj
      split at hj
      · exact cell_cells hg (hcc _ _ hj)
      · cases hj)
  obtain ⟨G, hG⟩ : ∃ G, G = grownCap w (n + 1) n 72 := ⟨_, rfl⟩
  obtain ⟨ROW, hROW⟩ : ∃ ROW : Array Value, ROW = (cs.take (i * 18)).toArray ++ Builtin.zeroCells ty72.zero.cells (n + 1 - i) ++ Builtin.zeroCells ty72.zero.cells (G - (n + 1)) := ⟨_, rfl⟩
  have hm63 : n + 1 ≤ 9223372036854775807 := by have := h63; unfold maxLen at this; omega
  have hb200 : (n + 1 - i) * info.bytes ≤ 281474976710656 := by
    rw [i4]
    exact Nat.le_trans (Nat.mul_le_mul_right _ (by omega : n + 1 - i ≤ n + 1)) (by omega)
  have hrz : ∀ ty, (Builtin.append_ #[54, 3] ty #[.slice (some ⟨b, 0, none⟩) i n, .int .i64 ((n : Int) + 1 - (i : Int))]).run Tryz.prog w = .ok (.slice (some ⟨w.heap.size, 0, none⟩) (n + 1) G) (w.drew.alloc (.cells ROW 72)) := fun ty => by
    have h := Lib.run_append_grow_zeros w 54 3 ty 72 info _ .i64 .i64 tS t3 i1 i2 (some ⟨b, 0, none⟩) i n (cs.take (i * 18)) hold (n + 1 - i) (by omega) (by omega) (by omega) (by omega) hb200 (by rw [i4, hik]; exact growslice_fits (by omega) hbig)
    rw [hik] at h
    rw [hkk, hROW, hG]
    exact h
  have hGn : n + 1 ≤ G := by rw [hG]; exact grownCap_ge w _ _ _
  have hGm : G ≤ maxLen := by rw [hG]; exact grownCap_le_maxLen w (n + 1) n _ h63
  have hG63 : G ≤ 9223372036854775807 := by have := hGm; unfold maxLen at this; omega
  have hzc : ty72.zero.cells.size = 18 := by kernel_rfl
  have hRs : ROW.size = G * 18 := by
    rw [hROW]
    simp only [Array.size_append, List.size_toArray, size_zeroCells, hzc, List.length_take, hcl]
    omega
  have hRt : ROW.toList.take (i * 18) = cs.take (i * 18) := by
    rw [hROW]
    simp only [Array.toList_append, List.append_assoc]
    rw [List.take_append_of_le_length (by simp only [List.length_take, hcl]; omega)]
    exact List.take_of_length_le (by rw [List.length_take]; omega)
  obtain ⟨cur1, hc1⟩ : ∃ cur1, cur1 = (splR ROW.toList (i * 18) vs).toArray := ⟨_, rfl⟩
  have hs1 : cur1.size = G * 18 := by rw [hc1]; show (splR _ _ _).length = _; rw [splR_len (by simp only [Array.length_toList]; omega)]; exact hRs
  have hdl : (cs.drop (i * 18)).length = (n - i) * 18 := by rw [List.length_drop, hcl]; omega
  have hg1 : (w.drew.alloc (.cells ROW 72)).heap[w.heap.size]? = some (.cells ROW 72 (0, 0)) := row_alloc_new w.drew _
  have hcpA : ∀ (W : World), (∀ k : Nat, W.heap[k]? = (w.drew.alloc (.cells ROW 72)).heap[k]?) → ∀ ty dc, (Builtin.copy_ #[54, 54] ty #[.slice (some ⟨w.heap.size, i * 18, none⟩) (n + 1 - i) dc, .slice (some ⟨vb, 0, none⟩) 1 vc]).run Tryz.prog W = .ok (goInt (Nat.min 1 (n + 1 - i))) (W.setRow w.heap.size cur1) := fun W hW ty dc => by
    rw [hc1]
    exact run_copy_r W _ _ ty 72 w.heap.size (i * 18) (n + 1 - i) dc ⟨vb, 0, none⟩ 1 vc vs ROW (by rw [hW]; exact hg1) tS zE (by rw [hvl]; simp only [Nat.min_def]; split <;> omega)
      (fun j v hj => by rw [Addr.add_lit, Nat.zero_add]; exact cell_cells (by rw [hW]; exact (row_alloc_old w.drew _ hvw).trans hv) (hvc _ _ hj)) (by rw [hvl]; omega) h1v
  have hcpB : ∀ (W : World), (∀ k : Nat, W.heap[k]? = ((w.drew.alloc (.cells ROW 72)).setRow w.heap.size cur1).heap[k]?) → ∀ ty dc sc, (Builtin.copy_ #[54, 54] ty #[.slice (some ⟨w.heap.size, (i + 1) * 18, none⟩) (n - i) dc, .slice (some ⟨b, i * 18, none⟩) (n - i) sc]).run Tryz.prog W = .ok (goInt (Nat.min (n - i) (n - i))) (W.setRow w.heap.size (splR cur1.toList ((i + 1) * 18) (cs.drop (i * 18))).toArray) := fun W hW ty dc sc =>
    run_copy_r W _ _ ty 72 w.heap.size ((i + 1) * 18) (n - i) dc ⟨b, i * 18, none⟩ (n - i) sc (cs.drop (i * 18)) cur1 (by rw [hW]; exact setRow_heap _ _ ROW _ _ _ hg1) tS zE (by rw [hdl]; simp only [Nat.min_def]; split <;> omega)
      (fun j v hj => by
        rw [Addr.add_lit]
        rw [List.getElem?_drop] at hj
        exact cell_cells (by rw [hW, setRow_other _ _ _ _ (by omega : b ≠ w.heap.size)]; exact (row_alloc_old w.drew _ hbw).trans hg) (hcc _ _ hj)) (by rw [hdl]; omega) (fun v hv => h1c v (List.mem_of_mem_drop hv))
  have hout := fun W' => ins_grow_out (w := w) (W' := W') (b := b) (e := 72) hi hGn hGm hRs hRt hcl hvl hc1
  have hz2 : ¬ ((i : Int) = (n : Int)) := by omega
  have hw1 : IntKind.i64.wrap ((i : Int) + 1) = (i : Int) + 1 := by rw [IntKind.wrap_i64]; omega
  have hb1 : (0 : Int) ≤ (i : Int) + 1 := by omega
  have hin : i ≤ n := by omega
  have htn : ((i : Int) + 1).toNat = i + 1 := by omega
  have hb3 : (i : Int) ≤ (n : Int) := by omega
  have hGi : ¬ (G = i) := by omega
  have hGim : ¬ (G = i + 1) := by omega
  have hci : ¬ (n = i) := by omega
  have hE : ∀ k : Nat, ((w.alloc (.cells ROW 72)).drew).heap[k]? = (w.drew.alloc (.cells ROW 72)).heap[k]? := fun _ => rfl
  have hF : ∀ k : Nat, ((((w.alloc (.cells ROW 72)).drew).setRow w.heap.size cur1).drew).heap[k]? = ((w.drew.alloc (.cells ROW 72)).setRow w.heap.size cur1).heap[k]? := fun _ => rfl
  clear hkk hik hold hROW hG hc1 hRt
  go_enter Tryz.func25, Tryz.ntmps25
  go_wp2_with (first
    | (at_builtin; refine Lib.wpList_append_run _ rfl _ _ _ _ rfl _ _ rfl rfl _ _ (hrz _) ?_)
    | (at_builtin; refine wpList_copy_runI _ rfl _ _ (54) (54) rfl _ _ rfl rfl (hcpA _ hE _ _) ?_))
  go_region_law_o (refine step_copy_runI rfl _ _ (54) (54) rfl (.slice (some ⟨w.heap.size, (i + 1) * 18, none⟩) (n - i) (G - (i + 1))) (.slice (some ⟨b, i * 18, none⟩) (n - i) (n - i)) (by simp [Act.eval, Act.put]) (by simp [Act.eval, Act.put]) (hcpB _ hF 3 (G - (i + 1)) (n - i)) ?_)
  go_wp2
  go_ret
  exact hout _ (fun _ => rfl) (by simp [World.setRow]) rfl rfl rfl
end
theorem insO : InsertOk Tryz.prog 25 72 18 ty72.bytes where
  enter := ⟨Tryz.f25, Tryz.func25, by kernel_rfl, rfl⟩
  pos := by decide
  run v n i cs vs vb vc vcur w hown hi hne hv hvc hvs h1c h1v hbig h63 := by
    by_cases he : i = n
    · subst he
      refine (insO_end i vb vc cs vs vcur w v hown hne hv hvc hvs h1v hbig h63).mono ?_
      rintro x w' ⟨v', e1, e2, e3, e4⟩
      refine ⟨v', e1, ?_, e3, e4⟩
      have h1 : cs.take (i * 18) = cs := List.take_of_length_le (by rw [hown.1]; exact Nat.le_refl _)
      have h2 : cs.drop (i * 18) = [] := List.drop_eq_nil_of_le (by rw [hown.1]; exact Nat.le_refl _)
      rw [h1, h2, List.append_nil]; exact e2
    · rcases hown.2 with ⟨_, h0⟩ | ⟨g, cap, cur, rfl, _, hg, hn, hm, hs, ht⟩
      · omega
      · have hvb : vb ≠ g := fun e => hne (by rw [e]; rfl)
        have fin : ∀ x w', InsOut w 72 18 n i cs vs g x w' → ∃ v', x = .returned v' ∧ w'.ownsRow 0 72 18 v' (n + 1) (cs.take (i * 18) ++ vs ++ cs.drop (i * 18)) ∧ w.grownBy w' (Value.ownBlock (.slice (some ⟨g, 0, none⟩) n cap)) ∧
            ∃ g2 cap2, v' = .slice (some ⟨g2, 0, none⟩) (n + 1) cap2 ∧ (Value.ownBlock (.slice (some ⟨g, 0, none⟩) n cap) = some g2 ∨ g2 = w.heap.size) := fun x w' ⟨v', e1, e2, e3, g2, cap2, e4, e5⟩ => ⟨v', e1, e2, e3, g2, cap2, e4, e5.imp (fun h => by rw [h]; rfl) id⟩
        by_cases hroom : n + 1 ≤ cap
        · exact (insO_shift g n cap i vb vc cs vs cur vcur w (by omega) hroom (by have := hm; unfold maxLen at this; omega) hvb hg hv hs ht hvc hvs h1c h1v).mono fin
        · obtain rfl : cap = n := by omega
          exact (insO_grow g cap i vb vc cs vs cur vcur w (by omega) hvb hg hv hs ht hvc hvs h1c h1v hbig h63).mono fin
end
section
open Go Go.RowKit
section
variable {J : Inv} {k0 : Lens} {E : Env J k0} {P : Program} {n : Nat} {ops : Array Oper}
theorem AnyS.mono {md : Region.Mode} {L1 : Array Bool} {K K' : St → Prop} (hk : ∀ s, K s → K' s) : ∀ (fuel : Nat) (listed : Array Bool) (s : St), AnyS E P n md ops L1 K fuel listed s → AnyS E P n md ops L1 K' fuel listed s := by
 intro fuel
 induction fuel with
 | zero => intro listed s h; exact ⟨h.1, hk _ h.2⟩
 | succ fuel ih =>
  intro listed s h
  refine ⟨h.1, fun i hi => ?_⟩
  have h2 := h.2 i hi
  unfold qS at h2 ⊢
  split at h2
  ·skip
   exact ih _ _ h2
  ·skip
   obtain ⟨Post, a, b⟩ := h2
   exact ⟨Post, a, fun v b' r m hp => ih _ _ (b v b' r m hp)⟩
theorem W.regionJ {id : Nat} {l l1 l2 : List Oper} {K : Ex → St → Prop} {s : St} (K' : St → Prop) (k : Nat) (hm : P.follows .mixedOrders = true) (hc : cutF k l = some (l1, l2))
  (hB : seqC .any l.toArray l2.length l1.length (endL l1.length 0 (Array.replicate l.toArray.size false)) = true)
  (h : AnyZ E P n l.toArray (endL l1.length 0 (Array.replicate l.toArray.size false)) K' l1.length (Array.replicate l.toArray.size false) s) (hk : ∀ s, K' s → WL E P n l.toArray l2 (K .normal) s) : W E P n (.region id l.toArray true) K s :=
 W.regionS k hm hc hB (fun hcl => AnyS.mono hk _ _ _ (h hcl))
theorem AnyZ.four {L1 : Array Bool} {K : St → Prop} {fuel : Nat} {listed : Array Bool} {s : St} (i j k m : Nat) {o q p u : Oper} (hr : Region.ready .any ops listed = [i, j, k, m]) (ho : ops[i]? = some o) (hq : ops[j]? = some q) (hp : ops[k]? = some p) (hu : ops[m]? = some u)
  (h : OpZ E P n ops o (AnyZ E P n ops L1 K fuel (listed.setIfInBounds i true)) s) (h' : OpZ E P n ops q (AnyZ E P n ops L1 K fuel (listed.setIfInBounds j true)) s) (h'' : OpZ E P n ops p (AnyZ E P n ops L1 K fuel (listed.setIfInBounds k true)) s)
  (h3 : OpZ E P n ops u (AnyZ E P n ops L1 K fuel (listed.setIfInBounds m true)) s) : AnyZ E P n ops L1 K (fuel + 1) listed s := by
 intro hc
 refine ⟨by rw [hr]; simp, fun x hx => ?_⟩
 have hx' := hx
 rw [hr, List.mem_cons, List.mem_cons, List.mem_cons, List.mem_singleton] at hx
 rcases hx with rfl | rfl | rfl | rfl
 ·skip
  obtain ⟨Post, h1, h2⟩ := h; exact qS_of hc hx' ho h1 h2
 ·skip
  obtain ⟨Post, h1, h2⟩ := h'; exact qS_of hc hx' hq h1 h2
 ·skip
  obtain ⟨Post, h1, h2⟩ := h''; exact qS_of hc hx' hp h1 h2
 ·skip
  obtain ⟨Post, h1, h2⟩ := h3; exact qS_of hc hx' hu h1 h2
end
end
section
open Go
open Go.RowKit
attribute [local irreducible] thenK blockK W
attribute [local irreducible] rangeE checkP errR Ver.check visit visits offerE firstNe rangeB rangeR pathB nameB valueB orderB compareR fedE ofsE ofAt cmpO cmpR srch posO fndO insP insTo mTo mrgP badF
theorem ins_bytes {y : List Ofr} (h : y.length ≤ 20000) : ((y.map ofrD).length + 1) * ty72.bytes ≤ 140737488355328 := by
 rw [List.length_map]
 exact Nat.le_trans (Nat.mul_le_mul (show y.length + 1 ≤ 20001 by omega) (show ty72.bytes ≤ 1000 by decide)) (by decide)
theorem ins_pos {φ : Ofr → Int} {y : List Ofr} : posO φ y ≤ (y.map ofrD).length := by rw [List.length_map]; exact pos_le φ y
theorem big_h {l : List Ofr} {b : Bool} (h : decide (((l.map ofrD).length : Int) > 500) = b) : decide ((l.length : Int) > 500) = b := by rw [List.length_map] at h; exact h
theorem pc_bsW (f : Nat) (φ : Ofr → Int) (l : List Ofr) (hn : l.length ≤ 2000000) (o : Ofr) (hc : ∀ x ∈ l, PureCall Tryz.prog J f [ofrV x, ofrV o] (.one (.d (.int .i64 (φ x))))) : PureCall Tryz.prog J 21 [.one (.d (.vec 18 (((l.map ofrD).drop 0).take (l.map ofrD).length))), ofrV o, .one (.d (.fn f))] (.tup [.one (.d (.int .i64 (posO φ l : Int))), .one (.d (.bool (fndO φ l)))]) := by
 rw [List.drop_zero, List.take_length]; exact pc_bsO f φ l hn o hc
theorem pc_Merge (l : List Fed) (hn : l.length ≤ 2000000) (hl : ∀ f ∈ l, FedA f) :
  PureCall Tryz.prog J 15 [.one (.d (.vec 4 (l.map fedD)))] (.tup [fedV (mrgP l).1, .one (.d (.int .i64 (mrgP l).2))]) := by
 refine PureCall.of_body tOk (fn := Tryz.f15) Tryz.func15 (by kernel_rfl) rfl (Nat.le_of_ble_eq_true rfl) (fun E => ?_)
 iterate 10 first|refine Yp rfl ?_|refine S.alloc tOk rfl rfl rfl rfl ?_|apply Y1|apply Yn|apply Ys
 refine W.cond rfl (fun c1=>?_) fun c1=>?_
 ·skip
  iterate 7 first|refine Yp rfl ?_|apply Yu|apply Yt|refine S.store tOk rfl rfl rfl rfl rfl rfl rfl rfl ?_|apply Y1|apply Yn
  exact ⟨_, rfl, rfl, le_fz (mp_9 c1)⟩
 iterate 8 first|refine Yp rfl ?_|apply Yk|apply Y1|apply Yn|apply Ys
 refine W.cond rfl (fun c2=>?_) fun c2=>?_
 ·skip
  iterate 7 first|refine Yp rfl ?_|apply Yu|apply Yt|refine S.store tOk rfl rfl rfl rfl rfl rfl rfl rfl ?_|apply Y1|apply Yn
  exact ⟨_, rfl, rfl, le_fz (mp_4 c1 c2)⟩
 have h20 := c2
 have h0 := fed_pos c1
 iterate 9 first|refine Yp rfl ?_|apply Yb|apply Yk|apply Y1|apply Yn|apply Ys
 refine W.loop (fun k st => ∃ i : Nat, i ≤ l.length ∧ ((l.map fedE).take i).all (· == 0) = true ∧ k = l.length - i ∧ ∃ t b2 r2 m2, st = ⟨t, [[.d (.str []), .d (.int .i64 0), .d (.int .i64 0), .d .nilsl]] ++ b2, [] ++ r2, [] ++ m2⟩ ∧ holdsL t [(0, .one (.d (.vec 4 (l.map fedD)))), (2, .one (.ptr 0 0)), (22, .one (.d (.vec 4 (l.map fedD)))), (23, .one (.d (.int .i64 ((l.map fedD).length : Int)))), (24, .one (.d (.int .i64 (i : Int))))]) (l.length) ⟨0, Nat.zero_le _, (by simp), rfl, _, _, _, _, rfl, rfl, rfl, rfl, rfl, rfl, trivial⟩ ?_
 rintro k0 _ ⟨i, f0_0, f0_1, rfl, t0, bb0, rr0, mm0, rfl, hh0⟩
 refine W.keepR _ _ _ _ _ _ _ hh0 rfl ?_
 apply Y1
 refine Yp rfl ?_
 apply Yn
 apply Ys
 refine W.cond rfl (fun c3=>?_) fun c3=>?_
 ·skip
  have hi := row_lt (by assumption)
  have hfi := hl _ (mem_getD (d := Fed.z) hi)
  apply Yk
  apply Yn
  apply Ys
  apply Yb
  apply Y1
  refine YE rfl (row_ok hi) (row_at Fed.z hi) rfl ?_
  iterate 5 first|refine Yp rfl ?_|refine S.store tOk rfl rfl rfl rfl rfl rfl rfl rfl ?_|refine S.alloc tOk rfl rfl rfl rfl ?_|apply Y3
  refine S.call rfl rfl rfl rfl rfl (pc_fCheck (l.getD i Fed.z) hfi) ?_
  iterate 5 first|refine Yp rfl ?_|apply Y3|apply Yn
  refine W.cond rfl (fun c4=>?_) fun c4=>?_
  ·skip
   have hz : (fedE (l.getD i Fed.z) != 0) = true := (by assumption)
   have hres := mp_e c1 c2 (bf_hit hi f0_1 rfl (by simpa using hz)) (by simpa using hz)
   iterate 12 first|apply Yu|refine Yp rfl ?_|apply Yv|apply Yt|refine S.store tOk rfl rfl rfl rfl rfl rfl rfl rfl ?_|apply Y1|apply Yn
   exact ⟨_, rfl, rfl, le_fz hres⟩
  have hz : fedE (l.getD i Fed.z) = 0 := by simpa using (by assumption : (fedE (l.getD i Fed.z) != 0) = false)
  apply Yk
  apply Yw
  apply Y4
  iterate 2 refine Yp rfl ?_
  refine loop_n (l.length - (i + 1)) (by omega) ⟨i + 1, hi, bf_next hi f0_1 hz, rfl, _, _, _, _, rfl, rfl, rfl, rfl, rfl, inc_i64 (by omega), trivial⟩
 have hi := row_ge (by assumption)
 have hb := bf_none hi f0_1
 have hok := feds_ok hb
 apply Yq
 apply Ye
 apply Ye
 apply Yx
 apply Y3
 refine Yp rfl ?_
 refine YE rfl (row_ok h0) (row_at Fed.z h0) rfl ?_
 iterate 12 first|refine Yp rfl ?_|refine S.store tOk rfl rfl rfl rfl rfl rfl rfl rfl ?_|refine S.alloc tOk rfl rfl rfl rfl ?_|apply Y1|apply Yn|apply Ys
 refine W.newRowB 1 3 18 72 rfl rfl rfl ?_
 apply Yb
 refine W.loop (fun k st => ∃ i : Nat, ∃ x : Fed, ∃ v : Nat, ∃ al : Bool, i ≤ l.length ∧ x = mTo l i ∧ k = l.length - i ∧ ∃ t b2 r2 m2, st = ⟨t, [[.d (.str []), .d (.int .i64 0), .d (.int .i64 0), .d .nilsl], [.d (.str x.ch), .d (.int .i64 x.se), .d (.int .i64 x.ti), .row 0 v 0 (x.of.map ofrD).length]] ++ b2, [some ⟨al, v, 18, 72, x.of.map ofrD⟩] ++ r2, [] ++ m2⟩ ∧ holdsL t [(2, .one (.ptr 0 0)), (7, .one (.ptr 1 0)), (40, .one (.d (.vec 4 (l.map fedD)))), (41, .one (.d (.int .i64 ((l.map fedD).length : Int)))), (42, .one (.d (.int .i64 (i : Int))))]) (l.length) ⟨0, ⟨(l.getD 0 Fed.z).ch, 0, 0, []⟩, _, _, Nat.zero_le _, (mTo_0 l).symm, rfl, _, _, _, _, rfl, rfl, rfl, rfl, rfl, rfl, trivial⟩ ?_
 rintro k2 _ ⟨i, x, v, al, f2_0, f2_1, rfl, t2, bb2, rr2, mm2, rfl, hh2⟩
 refine W.keepR _ _ _ _ _ _ _ hh2 rfl ?_
 refine W.reVer (l := [(2, .one (.ptr 0 0)), (7, .one (.ptr 1 0)), (40, .one (.d (.vec 4 (l.map fedD)))), (41, .one (.d (.int .i64 ((l.map fedD).length : Int)))), (42, .one (.d (.int .i64 (i : Int))))]) (b := [[.d (.str []), .d (.int .i64 0), .d (.int .i64 0), .d .nilsl], [.d (.str x.ch), .d (.int .i64 x.se), .d (.int .i64 x.ti), .row 0 0 0 (x.of.map ofrD).length]]) 0 rfl rfl rfl rfl rfl ?_
 apply Y1
 refine Yp rfl ?_
 apply Yn
 apply Ys
 refine W.cond rfl (fun c5=>?_) fun c5=>?_
 ·skip
  have hi := row_lt (by assumption)
  have hfi := hl _ (mem_getD (d := Fed.z) hi)
  have hfn := hfi.n
  apply Yk
  apply Yn
  apply Ys
  apply Yb
  apply Y1
  refine YE rfl (row_ok hi) (row_at Fed.z hi) rfl ?_
  refine Yp rfl ?_
  refine S.alloc tOk rfl rfl rfl rfl ?_
  refine S.store tOk rfl rfl rfl rfl rfl rfl rfl rfl ?_
  apply Yn
  apply Ys
  refine W.regionJ (fun s => ∃ t, s = ⟨t, [[.d (.str []), .d (.int .i64 0), .d (.int .i64 0), .d .nilsl], [.d (.str x.ch), .d (.int .i64 (mxI x.se (l.getD i Fed.z).se)), .d (.int .i64 (mxI x.ti (l.getD i Fed.z).ti)), .row 0 0 0 (x.of.map ofrD).length], [.d (.str (l.getD i Fed.z).ch), .d (.int .i64 (l.getD i Fed.z).se), .d (.int .i64 (l.getD i Fed.z).ti), .d (.vec 18 ((l.getD i Fed.z).of.map ofrD))]], [some ⟨al, 0, 18, 72, x.of.map ofrD⟩], []⟩ ∧ holdsL t [(2, .one (.ptr 0 0)), (7, .one (.ptr 1 0)), (9, .one (.ptr 2 0)), (40, .one (.d (.vec 4 (l.map fedD)))), (41, .one (.d (.int .i64 ((l.map fedD).length : Int)))), (42, .one (.d (.int .i64 (i : Int))))]) 14 mixed rfl (by kernel_rfl) ?_ ?_
  ·skip
   refine AnyZ.eager 0 rfl (by kernel_rfl) (Eag.pure tOk zOk rfl (fun _ _ _ => rfl) rfl rfl) ?_
   refine AnyZ.eager 2 rfl (by kernel_rfl) (Eag.pure tOk zOk rfl (fun _ _ _ => rfl) rfl rfl) ?_
   refine AnyZ.eager 5 rfl (by kernel_rfl) (Eag.pure tOk zOk rfl (fun _ _ _ => rfl) rfl rfl) ?_
   refine AnyZ.eager 7 rfl (by kernel_rfl) (Eag.pure tOk zOk rfl (fun _ _ _ => rfl) rfl rfl) ?_
   refine AnyZ.four 1 3 6 8 (by kernel_rfl) rfl rfl rfl rfl ?_ ?_ ?_ ?_
   ·skip
    refine OpZ.d ?_
    refine Ym rfl rfl ?_
    refine WD.nil ?_
    refine AnyZ.three 3 6 8 (by kernel_rfl) rfl rfl rfl ?_ ?_ ?_
    ·skip
     refine OpZ.d ?_
     refine Ym rfl rfl ?_
     refine WD.nil ?_
     refine AnyZ.eager 4 rfl (by kernel_rfl) (Eag.pure tOk zOk rfl (fun _ _ _ => rfl) rfl rfl) ?_
     refine AnyZ.two 6 8 (by kernel_rfl) rfl rfl ?_ ?_
     ·skip
      refine OpZ.d ?_
      refine Ym rfl rfl ?_
      refine WD.nil ?_
      refine AnyZ.eager 10 rfl (by kernel_rfl) (Eag.pure tOk zOk rfl (fun _ _ _ => rfl) rfl rfl) ?_
      refine AnyZ.two 8 11 (by kernel_rfl) rfl rfl ?_ ?_
      ·skip
       refine OpZ.d ?_
       refine Ym rfl rfl ?_
       refine WD.nil ?_
       refine AnyZ.eager 9 rfl (by kernel_rfl) (Eag.pure tOk zOk rfl (fun _ _ _ => rfl) rfl rfl) ?_
       refine AnyZ.one 11 (by kernel_rfl) rfl ?_
       refine OpZ.d ?_
       refine D.store tOk rfl rfl rfl rfl rfl rfl rfl rfl ?_
       refine WD.nil ?_
       refine AnyZ.eager 12 rfl (by kernel_rfl) (Eag.pure tOk zOk rfl (fun _ _ _ => rfl) rfl rfl) ?_
       refine AnyZ.one 13 (by kernel_rfl) rfl ?_
       refine OpZ.d ?_
       refine D.store tOk rfl rfl rfl rfl rfl rfl rfl rfl ?_
       refine WD.nil ?_
       exact AnyZ.nil (by kernel_rfl) ⟨_, rfl, rfl, rfl, rfl, rfl, rfl, rfl, trivial⟩
      refine OpZ.d ?_
      refine D.store tOk rfl rfl rfl rfl rfl rfl rfl rfl ?_
      refine WD.nil ?_
      refine AnyZ.one 8 (by kernel_rfl) rfl ?_
      refine OpZ.d ?_
      refine Ym rfl rfl ?_
      refine WD.nil ?_
      refine AnyZ.eager 9 rfl (by kernel_rfl) (Eag.pure tOk zOk rfl (fun _ _ _ => rfl) rfl rfl) ?_
      refine AnyZ.eager 12 rfl (by kernel_rfl) (Eag.pure tOk zOk rfl (fun _ _ _ => rfl) rfl rfl) ?_
      refine AnyZ.one 13 (by kernel_rfl) rfl ?_
      refine OpZ.d ?_
      refine D.store tOk rfl rfl rfl rfl rfl rfl rfl rfl ?_
      refine WD.nil ?_
      exact AnyZ.nil (by kernel_rfl) ⟨_, rfl, rfl, rfl, rfl, rfl, rfl, rfl, trivial⟩
     refine OpZ.d ?_
     refine Ym rfl rfl ?_
     refine WD.nil ?_
     refine AnyZ.one 6 (by kernel_rfl) rfl ?_
     refine OpZ.d ?_
     refine Ym rfl rfl ?_
     refine WD.nil ?_
     refine AnyZ.eager 9 rfl (by kernel_rfl) (Eag.pure tOk zOk rfl (fun _ _ _ => rfl) rfl rfl) ?_
     refine AnyZ.eager 10 rfl (by kernel_rfl) (Eag.pure tOk zOk rfl (fun _ _ _ => rfl) rfl rfl) ?_
     refine AnyZ.one 11 (by kernel_rfl) rfl ?_
     refine OpZ.d ?_
     refine D.store tOk rfl rfl rfl rfl rfl rfl rfl rfl ?_
     refine WD.nil ?_
     refine AnyZ.eager 12 rfl (by kernel_rfl) (Eag.pure tOk zOk rfl (fun _ _ _ => rfl) rfl rfl) ?_
     refine AnyZ.one 13 (by kernel_rfl) rfl ?_
     refine OpZ.d ?_
     refine D.store tOk rfl rfl rfl rfl rfl rfl rfl rfl ?_
     refine WD.nil ?_
     exact AnyZ.nil (by kernel_rfl) ⟨_, rfl, rfl, rfl, rfl, rfl, rfl, rfl, trivial⟩
    ·skip
     refine OpZ.d ?_
     refine Ym rfl rfl ?_
     refine WD.nil ?_
     refine AnyZ.two 3 8 (by kernel_rfl) rfl rfl ?_ ?_
     ·skip
      refine OpZ.d ?_
      refine Ym rfl rfl ?_
      refine WD.nil ?_
      refine AnyZ.eager 4 rfl (by kernel_rfl) (Eag.pure tOk zOk rfl (fun _ _ _ => rfl) rfl rfl) ?_
      refine AnyZ.eager 10 rfl (by kernel_rfl) (Eag.pure tOk zOk rfl (fun _ _ _ => rfl) rfl rfl) ?_
      refine AnyZ.two 8 11 (by kernel_rfl) rfl rfl ?_ ?_
      ·skip
       refine OpZ.d ?_
       refine Ym rfl rfl ?_
       refine WD.nil ?_
       refine AnyZ.eager 9 rfl (by kernel_rfl) (Eag.pure tOk zOk rfl (fun _ _ _ => rfl) rfl rfl) ?_
       refine AnyZ.one 11 (by kernel_rfl) rfl ?_
       refine OpZ.d ?_
       refine D.store tOk rfl rfl rfl rfl rfl rfl rfl rfl ?_
       refine WD.nil ?_
       refine AnyZ.eager 12 rfl (by kernel_rfl) (Eag.pure tOk zOk rfl (fun _ _ _ => rfl) rfl rfl) ?_
       refine AnyZ.one 13 (by kernel_rfl) rfl ?_
       refine OpZ.d ?_
       refine D.store tOk rfl rfl rfl rfl rfl rfl rfl rfl ?_
       refine WD.nil ?_
       exact AnyZ.nil (by kernel_rfl) ⟨_, rfl, rfl, rfl, rfl, rfl, rfl, rfl, trivial⟩
      refine OpZ.d ?_
      refine D.store tOk rfl rfl rfl rfl rfl rfl rfl rfl ?_
      refine WD.nil ?_
      refine AnyZ.one 8 (by kernel_rfl) rfl ?_
      refine OpZ.d ?_
      refine Ym rfl rfl ?_
      refine WD.nil ?_
      refine AnyZ.eager 9 rfl (by kernel_rfl) (Eag.pure tOk zOk rfl (fun _ _ _ => rfl) rfl rfl) ?_
      refine AnyZ.eager 12 rfl (by kernel_rfl) (Eag.pure tOk zOk rfl (fun _ _ _ => rfl) rfl rfl) ?_
      refine AnyZ.one 13 (by kernel_rfl) rfl ?_
      refine OpZ.d ?_
      refine D.store tOk rfl rfl rfl rfl rfl rfl rfl rfl ?_
      refine WD.nil ?_
      exact AnyZ.nil (by kernel_rfl) ⟨_, rfl, rfl, rfl, rfl, rfl, rfl, rfl, trivial⟩
     refine OpZ.d ?_
     refine Ym rfl rfl ?_
     refine WD.nil ?_
     refine AnyZ.eager 9 rfl (by kernel_rfl) (Eag.pure tOk zOk rfl (fun _ _ _ => rfl) rfl rfl) ?_
     refine AnyZ.one 3 (by kernel_rfl) rfl ?_
     refine OpZ.d ?_
     refine Ym rfl rfl ?_
     refine WD.nil ?_
     refine AnyZ.eager 4 rfl (by kernel_rfl) (Eag.pure tOk zOk rfl (fun _ _ _ => rfl) rfl rfl) ?_
     refine AnyZ.eager 10 rfl (by kernel_rfl) (Eag.pure tOk zOk rfl (fun _ _ _ => rfl) rfl rfl) ?_
     refine AnyZ.one 11 (by kernel_rfl) rfl ?_
     refine OpZ.d ?_
     refine D.store tOk rfl rfl rfl rfl rfl rfl rfl rfl ?_
     refine WD.nil ?_
     refine AnyZ.eager 12 rfl (by kernel_rfl) (Eag.pure tOk zOk rfl (fun _ _ _ => rfl) rfl rfl) ?_
     refine AnyZ.one 13 (by kernel_rfl) rfl ?_
     refine OpZ.d ?_
     refine D.store tOk rfl rfl rfl rfl rfl rfl rfl rfl ?_
     refine WD.nil ?_
     exact AnyZ.nil (by kernel_rfl) ⟨_, rfl, rfl, rfl, rfl, rfl, rfl, rfl, trivial⟩
    refine OpZ.d ?_
    refine Ym rfl rfl ?_
    refine WD.nil ?_
    refine AnyZ.two 3 6 (by kernel_rfl) rfl rfl ?_ ?_
    ·skip
     refine OpZ.d ?_
     refine Ym rfl rfl ?_
     refine WD.nil ?_
     refine AnyZ.eager 4 rfl (by kernel_rfl) (Eag.pure tOk zOk rfl (fun _ _ _ => rfl) rfl rfl) ?_
     refine AnyZ.one 6 (by kernel_rfl) rfl ?_
     refine OpZ.d ?_
     refine Ym rfl rfl ?_
     refine WD.nil ?_
     refine AnyZ.eager 9 rfl (by kernel_rfl) (Eag.pure tOk zOk rfl (fun _ _ _ => rfl) rfl rfl) ?_
     refine AnyZ.eager 10 rfl (by kernel_rfl) (Eag.pure tOk zOk rfl (fun _ _ _ => rfl) rfl rfl) ?_
     refine AnyZ.one 11 (by kernel_rfl) rfl ?_
     refine OpZ.d ?_
     refine D.store tOk rfl rfl rfl rfl rfl rfl rfl rfl ?_
     refine WD.nil ?_
     refine AnyZ.eager 12 rfl (by kernel_rfl) (Eag.pure tOk zOk rfl (fun _ _ _ => rfl) rfl rfl) ?_
     refine AnyZ.one 13 (by kernel_rfl) rfl ?_
     refine OpZ.d ?_
     refine D.store tOk rfl rfl rfl rfl rfl rfl rfl rfl ?_
     refine WD.nil ?_
     exact AnyZ.nil (by kernel_rfl) ⟨_, rfl, rfl, rfl, rfl, rfl, rfl, rfl, trivial⟩
    refine OpZ.d ?_
    refine Ym rfl rfl ?_
    refine WD.nil ?_
    refine AnyZ.eager 9 rfl (by kernel_rfl) (Eag.pure tOk zOk rfl (fun _ _ _ => rfl) rfl rfl) ?_
    refine AnyZ.one 3 (by kernel_rfl) rfl ?_
    refine OpZ.d ?_
    refine Ym rfl rfl ?_
    refine WD.nil ?_
    refine AnyZ.eager 4 rfl (by kernel_rfl) (Eag.pure tOk zOk rfl (fun _ _ _ => rfl) rfl rfl) ?_
    refine AnyZ.eager 10 rfl (by kernel_rfl) (Eag.pure tOk zOk rfl (fun _ _ _ => rfl) rfl rfl) ?_
    refine AnyZ.one 11 (by kernel_rfl) rfl ?_
    refine OpZ.d ?_
    refine D.store tOk rfl rfl rfl rfl rfl rfl rfl rfl ?_
    refine WD.nil ?_
    refine AnyZ.eager 12 rfl (by kernel_rfl) (Eag.pure tOk zOk rfl (fun _ _ _ => rfl) rfl rfl) ?_
    refine AnyZ.one 13 (by kernel_rfl) rfl ?_
    refine OpZ.d ?_
    refine D.store tOk rfl rfl rfl rfl rfl rfl rfl rfl ?_
    refine WD.nil ?_
    exact AnyZ.nil (by kernel_rfl) ⟨_, rfl, rfl, rfl, rfl, rfl, rfl, rfl, trivial⟩
   ·skip
    refine OpZ.d ?_
    refine Ym rfl rfl ?_
    refine WD.nil ?_
    refine AnyZ.three 1 6 8 (by kernel_rfl) rfl rfl rfl ?_ ?_ ?_
    ·skip
     refine OpZ.d ?_
     refine Ym rfl rfl ?_
     refine WD.nil ?_
     refine AnyZ.eager 4 rfl (by kernel_rfl) (Eag.pure tOk zOk rfl (fun _ _ _ => rfl) rfl rfl) ?_
     refine AnyZ.two 6 8 (by kernel_rfl) rfl rfl ?_ ?_
     ·skip
      refine OpZ.d ?_
      refine Ym rfl rfl ?_
      refine WD.nil ?_
      refine AnyZ.eager 10 rfl (by kernel_rfl) (Eag.pure tOk zOk rfl (fun _ _ _ => rfl) rfl rfl) ?_
      refine AnyZ.two 8 11 (by kernel_rfl) rfl rfl ?_ ?_
      ·skip
       refine OpZ.d ?_
       refine Ym rfl rfl ?_
       refine WD.nil ?_
       refine AnyZ.eager 9 rfl (by kernel_rfl) (Eag.pure tOk zOk rfl (fun _ _ _ => rfl) rfl rfl) ?_
       refine AnyZ.one 11 (by kernel_rfl) rfl ?_
       refine OpZ.d ?_
       refine D.store tOk rfl rfl rfl rfl rfl rfl rfl rfl ?_
       refine WD.nil ?_
       refine AnyZ.eager 12 rfl (by kernel_rfl) (Eag.pure tOk zOk rfl (fun _ _ _ => rfl) rfl rfl) ?_
       refine AnyZ.one 13 (by kernel_rfl) rfl ?_
       refine OpZ.d ?_
       refine D.store tOk rfl rfl rfl rfl rfl rfl rfl rfl ?_
       refine WD.nil ?_
       exact AnyZ.nil (by kernel_rfl) ⟨_, rfl, rfl, rfl, rfl, rfl, rfl, rfl, trivial⟩
      refine OpZ.d ?_
      refine D.store tOk rfl rfl rfl rfl rfl rfl rfl rfl ?_
      refine WD.nil ?_
      refine AnyZ.one 8 (by kernel_rfl) rfl ?_
      refine OpZ.d ?_
      refine Ym rfl rfl ?_
      refine WD.nil ?_
      refine AnyZ.eager 9 rfl (by kernel_rfl) (Eag.pure tOk zOk rfl (fun _ _ _ => rfl) rfl rfl) ?_
      refine AnyZ.eager 12 rfl (by kernel_rfl) (Eag.pure tOk zOk rfl (fun _ _ _ => rfl) rfl rfl) ?_
      refine AnyZ.one 13 (by kernel_rfl) rfl ?_
      refine OpZ.d ?_
      refine D.store tOk rfl rfl rfl rfl rfl rfl rfl rfl ?_
      refine WD.nil ?_
      exact AnyZ.nil (by kernel_rfl) ⟨_, rfl, rfl, rfl, rfl, rfl, rfl, rfl, trivial⟩
     refine OpZ.d ?_
     refine Ym rfl rfl ?_
     refine WD.nil ?_
     refine AnyZ.one 6 (by kernel_rfl) rfl ?_
     refine OpZ.d ?_
     refine Ym rfl rfl ?_
     refine WD.nil ?_
     refine AnyZ.eager 9 rfl (by kernel_rfl) (Eag.pure tOk zOk rfl (fun _ _ _ => rfl) rfl rfl) ?_
     refine AnyZ.eager 10 rfl (by kernel_rfl) (Eag.pure tOk zOk rfl (fun _ _ _ => rfl) rfl rfl) ?_
     refine AnyZ.one 11 (by kernel_rfl) rfl ?_
     refine OpZ.d ?_
     refine D.store tOk rfl rfl rfl rfl rfl rfl rfl rfl ?_
     refine WD.nil ?_
     refine AnyZ.eager 12 rfl (by kernel_rfl) (Eag.pure tOk zOk rfl (fun _ _ _ => rfl) rfl rfl) ?_
     refine AnyZ.one 13 (by kernel_rfl) rfl ?_
     refine OpZ.d ?_
     refine D.store tOk rfl rfl rfl rfl rfl rfl rfl rfl ?_
     refine WD.nil ?_
     exact AnyZ.nil (by kernel_rfl) ⟨_, rfl, rfl, rfl, rfl, rfl, rfl, rfl, trivial⟩
    ·skip
     refine OpZ.d ?_
     refine Ym rfl rfl ?_
     refine WD.nil ?_
     refine AnyZ.two 1 8 (by kernel_rfl) rfl rfl ?_ ?_
     ·skip
      refine OpZ.d ?_
      refine Ym rfl rfl ?_
      refine WD.nil ?_
      refine AnyZ.eager 4 rfl (by kernel_rfl) (Eag.pure tOk zOk rfl (fun _ _ _ => rfl) rfl rfl) ?_
      refine AnyZ.eager 10 rfl (by kernel_rfl) (Eag.pure tOk zOk rfl (fun _ _ _ => rfl) rfl rfl) ?_
      refine AnyZ.two 8 11 (by kernel_rfl) rfl rfl ?_ ?_
      ·skip
       refine OpZ.d ?_
       refine Ym rfl rfl ?_
       refine WD.nil ?_
       refine AnyZ.eager 9 rfl (by kernel_rfl) (Eag.pure tOk zOk rfl (fun _ _ _ => rfl) rfl rfl) ?_
       refine AnyZ.one 11 (by kernel_rfl) rfl ?_
       refine OpZ.d ?_
       refine D.store tOk rfl rfl rfl rfl rfl rfl rfl rfl ?_
       refine WD.nil ?_
       refine AnyZ.eager 12 rfl (by kernel_rfl) (Eag.pure tOk zOk rfl (fun _ _ _ => rfl) rfl rfl) ?_
       refine AnyZ.one 13 (by kernel_rfl) rfl ?_
       refine OpZ.d ?_
       refine D.store tOk rfl rfl rfl rfl rfl rfl rfl rfl ?_
       refine WD.nil ?_
       exact AnyZ.nil (by kernel_rfl) ⟨_, rfl, rfl, rfl, rfl, rfl, rfl, rfl, trivial⟩
      refine OpZ.d ?_
      refine D.store tOk rfl rfl rfl rfl rfl rfl rfl rfl ?_
      refine WD.nil ?_
      refine AnyZ.one 8 (by kernel_rfl) rfl ?_
      refine OpZ.d ?_
      refine Ym rfl rfl ?_
      refine WD.nil ?_
      refine AnyZ.eager 9 rfl (by kernel_rfl) (Eag.pure tOk zOk rfl (fun _ _ _ => rfl) rfl rfl) ?_
      refine AnyZ.eager 12 rfl (by kernel_rfl) (Eag.pure tOk zOk rfl (fun _ _ _ => rfl) rfl rfl) ?_
      refine AnyZ.one 13 (by kernel_rfl) rfl ?_
      refine OpZ.d ?_
      refine D.store tOk rfl rfl rfl rfl rfl rfl rfl rfl ?_
      refine WD.nil ?_
      exact AnyZ.nil (by kernel_rfl) ⟨_, rfl, rfl, rfl, rfl, rfl, rfl, rfl, trivial⟩
     refine OpZ.d ?_
     refine Ym rfl rfl ?_
     refine WD.nil ?_
     refine AnyZ.eager 9 rfl (by kernel_rfl) (Eag.pure tOk zOk rfl (fun _ _ _ => rfl) rfl rfl) ?_
     refine AnyZ.one 1 (by kernel_rfl) rfl ?_
     refine OpZ.d ?_
     refine Ym rfl rfl ?_
     refine WD.nil ?_
     refine AnyZ.eager 4 rfl (by kernel_rfl) (Eag.pure tOk zOk rfl (fun _ _ _ => rfl) rfl rfl) ?_
     refine AnyZ.eager 10 rfl (by kernel_rfl) (Eag.pure tOk zOk rfl (fun _ _ _ => rfl) rfl rfl) ?_
     refine AnyZ.one 11 (by kernel_rfl) rfl ?_
     refine OpZ.d ?_
     refine D.store tOk rfl rfl rfl rfl rfl rfl rfl rfl ?_
     refine WD.nil ?_
     refine AnyZ.eager 12 rfl (by kernel_rfl) (Eag.pure tOk zOk rfl (fun _ _ _ => rfl) rfl rfl) ?_
     refine AnyZ.one 13 (by kernel_rfl) rfl ?_
     refine OpZ.d ?_
     refine D.store tOk rfl rfl rfl rfl rfl rfl rfl rfl ?_
     refine WD.nil ?_
     exact AnyZ.nil (by kernel_rfl) ⟨_, rfl, rfl, rfl, rfl, rfl, rfl, rfl, trivial⟩
    refine OpZ.d ?_
    refine Ym rfl rfl ?_
    refine WD.nil ?_
    refine AnyZ.two 1 6 (by kernel_rfl) rfl rfl ?_ ?_
    ·skip
     refine OpZ.d ?_
     refine Ym rfl rfl ?_
     refine WD.nil ?_
     refine AnyZ.eager 4 rfl (by kernel_rfl) (Eag.pure tOk zOk rfl (fun _ _ _ => rfl) rfl rfl) ?_
     refine AnyZ.one 6 (by kernel_rfl) rfl ?_
     refine OpZ.d ?_
     refine Ym rfl rfl ?_
     refine WD.nil ?_
     refine AnyZ.eager 9 rfl (by kernel_rfl) (Eag.pure tOk zOk rfl (fun _ _ _ => rfl) rfl rfl) ?_
     refine AnyZ.eager 10 rfl (by kernel_rfl) (Eag.pure tOk zOk rfl (fun _ _ _ => rfl) rfl rfl) ?_
     refine AnyZ.one 11 (by kernel_rfl) rfl ?_
     refine OpZ.d ?_
     refine D.store tOk rfl rfl rfl rfl rfl rfl rfl rfl ?_
     refine WD.nil ?_
     refine AnyZ.eager 12 rfl (by kernel_rfl) (Eag.pure tOk zOk rfl (fun _ _ _ => rfl) rfl rfl) ?_
     refine AnyZ.one 13 (by kernel_rfl) rfl ?_
     refine OpZ.d ?_
     refine D.store tOk rfl rfl rfl rfl rfl rfl rfl rfl ?_
     refine WD.nil ?_
     exact AnyZ.nil (by kernel_rfl) ⟨_, rfl, rfl, rfl, rfl, rfl, rfl, rfl, trivial⟩
    refine OpZ.d ?_
    refine Ym rfl rfl ?_
    refine WD.nil ?_
    refine AnyZ.eager 9 rfl (by kernel_rfl) (Eag.pure tOk zOk rfl (fun _ _ _ => rfl) rfl rfl) ?_
    refine AnyZ.one 1 (by kernel_rfl) rfl ?_
    refine OpZ.d ?_
    refine Ym rfl rfl ?_
    refine WD.nil ?_
    refine AnyZ.eager 4 rfl (by kernel_rfl) (Eag.pure tOk zOk rfl (fun _ _ _ => rfl) rfl rfl) ?_
    refine AnyZ.eager 10 rfl (by kernel_rfl) (Eag.pure tOk zOk rfl (fun _ _ _ => rfl) rfl rfl) ?_
    refine AnyZ.one 11 (by kernel_rfl) rfl ?_
    refine OpZ.d ?_
    refine D.store tOk rfl rfl rfl rfl rfl rfl rfl rfl ?_
    refine WD.nil ?_
    refine AnyZ.eager 12 rfl (by kernel_rfl) (Eag.pure tOk zOk rfl (fun _ _ _ => rfl) rfl rfl) ?_
    refine AnyZ.one 13 (by kernel_rfl) rfl ?_
    refine OpZ.d ?_
    refine D.store tOk rfl rfl rfl rfl rfl rfl rfl rfl ?_
    refine WD.nil ?_
    exact AnyZ.nil (by kernel_rfl) ⟨_, rfl, rfl, rfl, rfl, rfl, rfl, rfl, trivial⟩
   ·skip
    refine OpZ.d ?_
    refine Ym rfl rfl ?_
    refine WD.nil ?_
    refine AnyZ.three 1 3 8 (by kernel_rfl) rfl rfl rfl ?_ ?_ ?_
    ·skip
     refine OpZ.d ?_
     refine Ym rfl rfl ?_
     refine WD.nil ?_
     refine AnyZ.two 3 8 (by kernel_rfl) rfl rfl ?_ ?_
     ·skip
      refine OpZ.d ?_
      refine Ym rfl rfl ?_
      refine WD.nil ?_
      refine AnyZ.eager 4 rfl (by kernel_rfl) (Eag.pure tOk zOk rfl (fun _ _ _ => rfl) rfl rfl) ?_
      refine AnyZ.eager 10 rfl (by kernel_rfl) (Eag.pure tOk zOk rfl (fun _ _ _ => rfl) rfl rfl) ?_
      refine AnyZ.two 8 11 (by kernel_rfl) rfl rfl ?_ ?_
      ·skip
       refine OpZ.d ?_
       refine Ym rfl rfl ?_
       refine WD.nil ?_
       refine AnyZ.eager 9 rfl (by kernel_rfl) (Eag.pure tOk zOk rfl (fun _ _ _ => rfl) rfl rfl) ?_
       refine AnyZ.one 11 (by kernel_rfl) rfl ?_
       refine OpZ.d ?_
       refine D.store tOk rfl rfl rfl rfl rfl rfl rfl rfl ?_
       refine WD.nil ?_
       refine AnyZ.eager 12 rfl (by kernel_rfl) (Eag.pure tOk zOk rfl (fun _ _ _ => rfl) rfl rfl) ?_
       refine AnyZ.one 13 (by kernel_rfl) rfl ?_
       refine OpZ.d ?_
       refine D.store tOk rfl rfl rfl rfl rfl rfl rfl rfl ?_
       refine WD.nil ?_
       exact AnyZ.nil (by kernel_rfl) ⟨_, rfl, rfl, rfl, rfl, rfl, rfl, rfl, trivial⟩
      refine OpZ.d ?_
      refine D.store tOk rfl rfl rfl rfl rfl rfl rfl rfl ?_
      refine WD.nil ?_
      refine AnyZ.one 8 (by kernel_rfl) rfl ?_
      refine OpZ.d ?_
      refine Ym rfl rfl ?_
      refine WD.nil ?_
      refine AnyZ.eager 9 rfl (by kernel_rfl) (Eag.pure tOk zOk rfl (fun _ _ _ => rfl) rfl rfl) ?_
      refine AnyZ.eager 12 rfl (by kernel_rfl) (Eag.pure tOk zOk rfl (fun _ _ _ => rfl) rfl rfl) ?_
      refine AnyZ.one 13 (by kernel_rfl) rfl ?_
      refine OpZ.d ?_
      refine D.store tOk rfl rfl rfl rfl rfl rfl rfl rfl ?_
      refine WD.nil ?_
      exact AnyZ.nil (by kernel_rfl) ⟨_, rfl, rfl, rfl, rfl, rfl, rfl, rfl, trivial⟩
     refine OpZ.d ?_
     refine Ym rfl rfl ?_
     refine WD.nil ?_
     refine AnyZ.eager 9 rfl (by kernel_rfl) (Eag.pure tOk zOk rfl (fun _ _ _ => rfl) rfl rfl) ?_
     refine AnyZ.one 3 (by kernel_rfl) rfl ?_
     refine OpZ.d ?_
     refine Ym rfl rfl ?_
     refine WD.nil ?_
     refine AnyZ.eager 4 rfl (by kernel_rfl) (Eag.pure tOk zOk rfl (fun _ _ _ => rfl) rfl rfl) ?_
     refine AnyZ.eager 10 rfl (by kernel_rfl) (Eag.pure tOk zOk rfl (fun _ _ _ => rfl) rfl rfl) ?_
     refine AnyZ.one 11 (by kernel_rfl) rfl ?_
     refine OpZ.d ?_
     refine D.store tOk rfl rfl rfl rfl rfl rfl rfl rfl ?_
     refine WD.nil ?_
     refine AnyZ.eager 12 rfl (by kernel_rfl) (Eag.pure tOk zOk rfl (fun _ _ _ => rfl) rfl rfl) ?_
     refine AnyZ.one 13 (by kernel_rfl) rfl ?_
     refine OpZ.d ?_
     refine D.store tOk rfl rfl rfl rfl rfl rfl rfl rfl ?_
     refine WD.nil ?_
     exact AnyZ.nil (by kernel_rfl) ⟨_, rfl, rfl, rfl, rfl, rfl, rfl, rfl, trivial⟩
    ·skip
     refine OpZ.d ?_
     refine Ym rfl rfl ?_
     refine WD.nil ?_
     refine AnyZ.two 1 8 (by kernel_rfl) rfl rfl ?_ ?_
     ·skip
      refine OpZ.d ?_
      refine Ym rfl rfl ?_
      refine WD.nil ?_
      refine AnyZ.eager 4 rfl (by kernel_rfl) (Eag.pure tOk zOk rfl (fun _ _ _ => rfl) rfl rfl) ?_
      refine AnyZ.eager 10 rfl (by kernel_rfl) (Eag.pure tOk zOk rfl (fun _ _ _ => rfl) rfl rfl) ?_
      refine AnyZ.two 8 11 (by kernel_rfl) rfl rfl ?_ ?_
      ·skip
       refine OpZ.d ?_
       refine Ym rfl rfl ?_
       refine WD.nil ?_
       refine AnyZ.eager 9 rfl (by kernel_rfl) (Eag.pure tOk zOk rfl (fun _ _ _ => rfl) rfl rfl) ?_
       refine AnyZ.one 11 (by kernel_rfl) rfl ?_
       refine OpZ.d ?_
       refine D.store tOk rfl rfl rfl rfl rfl rfl rfl rfl ?_
       refine WD.nil ?_
       refine AnyZ.eager 12 rfl (by kernel_rfl) (Eag.pure tOk zOk rfl (fun _ _ _ => rfl) rfl rfl) ?_
       refine AnyZ.one 13 (by kernel_rfl) rfl ?_
       refine OpZ.d ?_
       refine D.store tOk rfl rfl rfl rfl rfl rfl rfl rfl ?_
       refine WD.nil ?_
       exact AnyZ.nil (by kernel_rfl) ⟨_, rfl, rfl, rfl, rfl, rfl, rfl, rfl, trivial⟩
      refine OpZ.d ?_
      refine D.store tOk rfl rfl rfl rfl rfl rfl rfl rfl ?_
      refine WD.nil ?_
      refine AnyZ.one 8 (by kernel_rfl) rfl ?_
      refine OpZ.d ?_
      refine Ym rfl rfl ?_
      refine WD.nil ?_
      refine AnyZ.eager 9 rfl (by kernel_rfl) (Eag.pure tOk zOk rfl (fun _ _ _ => rfl) rfl rfl) ?_
      refine AnyZ.eager 12 rfl (by kernel_rfl) (Eag.pure tOk zOk rfl (fun _ _ _ => rfl) rfl rfl) ?_
      refine AnyZ.one 13 (by kernel_rfl) rfl ?_
      refine OpZ.d ?_
      refine D.store tOk rfl rfl rfl rfl rfl rfl rfl rfl ?_
      refine WD.nil ?_
      exact AnyZ.nil (by kernel_rfl) ⟨_, rfl, rfl, rfl, rfl, rfl, rfl, rfl, trivial⟩
     refine OpZ.d ?_
     refine Ym rfl rfl ?_
     refine WD.nil ?_
     refine AnyZ.eager 9 rfl (by kernel_rfl) (Eag.pure tOk zOk rfl (fun _ _ _ => rfl) rfl rfl) ?_
     refine AnyZ.one 1 (by kernel_rfl) rfl ?_
     refine OpZ.d ?_
     refine Ym rfl rfl ?_
     refine WD.nil ?_
     refine AnyZ.eager 4 rfl (by kernel_rfl) (Eag.pure tOk zOk rfl (fun _ _ _ => rfl) rfl rfl) ?_
     refine AnyZ.eager 10 rfl (by kernel_rfl) (Eag.pure tOk zOk rfl (fun _ _ _ => rfl) rfl rfl) ?_
     refine AnyZ.one 11 (by kernel_rfl) rfl ?_
     refine OpZ.d ?_
     refine D.store tOk rfl rfl rfl rfl rfl rfl rfl rfl ?_
     refine WD.nil ?_
     refine AnyZ.eager 12 rfl (by kernel_rfl) (Eag.pure tOk zOk rfl (fun _ _ _ => rfl) rfl rfl) ?_
     refine AnyZ.one 13 (by kernel_rfl) rfl ?_
     refine OpZ.d ?_
     refine D.store tOk rfl rfl rfl rfl rfl rfl rfl rfl ?_
     refine WD.nil ?_
     exact AnyZ.nil (by kernel_rfl) ⟨_, rfl, rfl, rfl, rfl, rfl, rfl, rfl, trivial⟩
    refine OpZ.d ?_
    refine Ym rfl rfl ?_
    refine WD.nil ?_
    refine AnyZ.eager 9 rfl (by kernel_rfl) (Eag.pure tOk zOk rfl (fun _ _ _ => rfl) rfl rfl) ?_
    refine AnyZ.two 1 3 (by kernel_rfl) rfl rfl ?_ ?_
    ·skip
     refine OpZ.d ?_
     refine Ym rfl rfl ?_
     refine WD.nil ?_
     refine AnyZ.one 3 (by kernel_rfl) rfl ?_
     refine OpZ.d ?_
     refine Ym rfl rfl ?_
     refine WD.nil ?_
     refine AnyZ.eager 4 rfl (by kernel_rfl) (Eag.pure tOk zOk rfl (fun _ _ _ => rfl) rfl rfl) ?_
     refine AnyZ.eager 10 rfl (by kernel_rfl) (Eag.pure tOk zOk rfl (fun _ _ _ => rfl) rfl rfl) ?_
     refine AnyZ.one 11 (by kernel_rfl) rfl ?_
     refine OpZ.d ?_
     refine D.store tOk rfl rfl rfl rfl rfl rfl rfl rfl ?_
     refine WD.nil ?_
     refine AnyZ.eager 12 rfl (by kernel_rfl) (Eag.pure tOk zOk rfl (fun _ _ _ => rfl) rfl rfl) ?_
     refine AnyZ.one 13 (by kernel_rfl) rfl ?_
     refine OpZ.d ?_
     refine D.store tOk rfl rfl rfl rfl rfl rfl rfl rfl ?_
     refine WD.nil ?_
     exact AnyZ.nil (by kernel_rfl) ⟨_, rfl, rfl, rfl, rfl, rfl, rfl, rfl, trivial⟩
    refine OpZ.d ?_
    refine Ym rfl rfl ?_
    refine WD.nil ?_
    refine AnyZ.one 1 (by kernel_rfl) rfl ?_
    refine OpZ.d ?_
    refine Ym rfl rfl ?_
    refine WD.nil ?_
    refine AnyZ.eager 4 rfl (by kernel_rfl) (Eag.pure tOk zOk rfl (fun _ _ _ => rfl) rfl rfl) ?_
    refine AnyZ.eager 10 rfl (by kernel_rfl) (Eag.pure tOk zOk rfl (fun _ _ _ => rfl) rfl rfl) ?_
    refine AnyZ.one 11 (by kernel_rfl) rfl ?_
    refine OpZ.d ?_
    refine D.store tOk rfl rfl rfl rfl rfl rfl rfl rfl ?_
    refine WD.nil ?_
    refine AnyZ.eager 12 rfl (by kernel_rfl) (Eag.pure tOk zOk rfl (fun _ _ _ => rfl) rfl rfl) ?_
    refine AnyZ.one 13 (by kernel_rfl) rfl ?_
    refine OpZ.d ?_
    refine D.store tOk rfl rfl rfl rfl rfl rfl rfl rfl ?_
    refine WD.nil ?_
    exact AnyZ.nil (by kernel_rfl) ⟨_, rfl, rfl, rfl, rfl, rfl, rfl, rfl, trivial⟩
   refine OpZ.d ?_
   refine Ym rfl rfl ?_
   refine WD.nil ?_
   refine AnyZ.three 1 3 6 (by kernel_rfl) rfl rfl rfl ?_ ?_ ?_
   ·skip
    refine OpZ.d ?_
    refine Ym rfl rfl ?_
    refine WD.nil ?_
    refine AnyZ.two 3 6 (by kernel_rfl) rfl rfl ?_ ?_
    ·skip
     refine OpZ.d ?_
     refine Ym rfl rfl ?_
     refine WD.nil ?_
     refine AnyZ.eager 4 rfl (by kernel_rfl) (Eag.pure tOk zOk rfl (fun _ _ _ => rfl) rfl rfl) ?_
     refine AnyZ.one 6 (by kernel_rfl) rfl ?_
     refine OpZ.d ?_
     refine Ym rfl rfl ?_
     refine WD.nil ?_
     refine AnyZ.eager 9 rfl (by kernel_rfl) (Eag.pure tOk zOk rfl (fun _ _ _ => rfl) rfl rfl) ?_
     refine AnyZ.eager 10 rfl (by kernel_rfl) (Eag.pure tOk zOk rfl (fun _ _ _ => rfl) rfl rfl) ?_
     refine AnyZ.one 11 (by kernel_rfl) rfl ?_
     refine OpZ.d ?_
     refine D.store tOk rfl rfl rfl rfl rfl rfl rfl rfl ?_
     refine WD.nil ?_
     refine AnyZ.eager 12 rfl (by kernel_rfl) (Eag.pure tOk zOk rfl (fun _ _ _ => rfl) rfl rfl) ?_
     refine AnyZ.one 13 (by kernel_rfl) rfl ?_
     refine OpZ.d ?_
     refine D.store tOk rfl rfl rfl rfl rfl rfl rfl rfl ?_
     refine WD.nil ?_
     exact AnyZ.nil (by kernel_rfl) ⟨_, rfl, rfl, rfl, rfl, rfl, rfl, rfl, trivial⟩
    refine OpZ.d ?_
    refine Ym rfl rfl ?_
    refine WD.nil ?_
    refine AnyZ.eager 9 rfl (by kernel_rfl) (Eag.pure tOk zOk rfl (fun _ _ _ => rfl) rfl rfl) ?_
    refine AnyZ.one 3 (by kernel_rfl) rfl ?_
    refine OpZ.d ?_
    refine Ym rfl rfl ?_
    refine WD.nil ?_
    refine AnyZ.eager 4 rfl (by kernel_rfl) (Eag.pure tOk zOk rfl (fun _ _ _ => rfl) rfl rfl) ?_
    refine AnyZ.eager 10 rfl (by kernel_rfl) (Eag.pure tOk zOk rfl (fun _ _ _ => rfl) rfl rfl) ?_
    refine AnyZ.one 11 (by kernel_rfl) rfl ?_
    refine OpZ.d ?_
    refine D.store tOk rfl rfl rfl rfl rfl rfl rfl rfl ?_
    refine WD.nil ?_
    refine AnyZ.eager 12 rfl (by kernel_rfl) (Eag.pure tOk zOk rfl (fun _ _ _ => rfl) rfl rfl) ?_
    refine AnyZ.one 13 (by kernel_rfl) rfl ?_
    refine OpZ.d ?_
    refine D.store tOk rfl rfl rfl rfl rfl rfl rfl rfl ?_
    refine WD.nil ?_
    exact AnyZ.nil (by kernel_rfl) ⟨_, rfl, rfl, rfl, rfl, rfl, rfl, rfl, trivial⟩
   ·skip
    refine OpZ.d ?_
    refine Ym rfl rfl ?_
    refine WD.nil ?_
    refine AnyZ.two 1 6 (by kernel_rfl) rfl rfl ?_ ?_
    ·skip
     refine OpZ.d ?_
     refine Ym rfl rfl ?_
     refine WD.nil ?_
     refine AnyZ.eager 4 rfl (by kernel_rfl) (Eag.pure tOk zOk rfl (fun _ _ _ => rfl) rfl rfl) ?_
     refine AnyZ.one 6 (by kernel_rfl) rfl ?_
     refine OpZ.d ?_
     refine Ym rfl rfl ?_
     refine WD.nil ?_
     refine AnyZ.eager 9 rfl (by kernel_rfl) (Eag.pure tOk zOk rfl (fun _ _ _ => rfl) rfl rfl) ?_
     refine AnyZ.eager 10 rfl (by kernel_rfl) (Eag.pure tOk zOk rfl (fun _ _ _ => rfl) rfl rfl) ?_
     refine AnyZ.one 11 (by kernel_rfl) rfl ?_
     refine OpZ.d ?_
     refine D.store tOk rfl rfl rfl rfl rfl rfl rfl rfl ?_
     refine WD.nil ?_
     refine AnyZ.eager 12 rfl (by kernel_rfl) (Eag.pure tOk zOk rfl (fun _ _ _ => rfl) rfl rfl) ?_
     refine AnyZ.one 13 (by kernel_rfl) rfl ?_
     refine OpZ.d ?_
     refine D.store tOk rfl rfl rfl rfl rfl rfl rfl rfl ?_
     refine WD.nil ?_
     exact AnyZ.nil (by kernel_rfl) ⟨_, rfl, rfl, rfl, rfl, rfl, rfl, rfl, trivial⟩
    refine OpZ.d ?_
    refine Ym rfl rfl ?_
    refine WD.nil ?_
    refine AnyZ.eager 9 rfl (by kernel_rfl) (Eag.pure tOk zOk rfl (fun _ _ _ => rfl) rfl rfl) ?_
    refine AnyZ.one 1 (by kernel_rfl) rfl ?_
    refine OpZ.d ?_
    refine Ym rfl rfl ?_
    refine WD.nil ?_
    refine AnyZ.eager 4 rfl (by kernel_rfl) (Eag.pure tOk zOk rfl (fun _ _ _ => rfl) rfl rfl) ?_
    refine AnyZ.eager 10 rfl (by kernel_rfl) (Eag.pure tOk zOk rfl (fun _ _ _ => rfl) rfl rfl) ?_
    refine AnyZ.one 11 (by kernel_rfl) rfl ?_
    refine OpZ.d ?_
    refine D.store tOk rfl rfl rfl rfl rfl rfl rfl rfl ?_
    refine WD.nil ?_
    refine AnyZ.eager 12 rfl (by kernel_rfl) (Eag.pure tOk zOk rfl (fun _ _ _ => rfl) rfl rfl) ?_
    refine AnyZ.one 13 (by kernel_rfl) rfl ?_
    refine OpZ.d ?_
    refine D.store tOk rfl rfl rfl rfl rfl rfl rfl rfl ?_
    refine WD.nil ?_
    exact AnyZ.nil (by kernel_rfl) ⟨_, rfl, rfl, rfl, rfl, rfl, rfl, rfl, trivial⟩
   refine OpZ.d ?_
   refine Ym rfl rfl ?_
   refine WD.nil ?_
   refine AnyZ.eager 9 rfl (by kernel_rfl) (Eag.pure tOk zOk rfl (fun _ _ _ => rfl) rfl rfl) ?_
   refine AnyZ.two 1 3 (by kernel_rfl) rfl rfl ?_ ?_
   ·skip
    refine OpZ.d ?_
    refine Ym rfl rfl ?_
    refine WD.nil ?_
    refine AnyZ.one 3 (by kernel_rfl) rfl ?_
    refine OpZ.d ?_
    refine Ym rfl rfl ?_
    refine WD.nil ?_
    refine AnyZ.eager 4 rfl (by kernel_rfl) (Eag.pure tOk zOk rfl (fun _ _ _ => rfl) rfl rfl) ?_
    refine AnyZ.eager 10 rfl (by kernel_rfl) (Eag.pure tOk zOk rfl (fun _ _ _ => rfl) rfl rfl) ?_
    refine AnyZ.one 11 (by kernel_rfl) rfl ?_
    refine OpZ.d ?_
    refine D.store tOk rfl rfl rfl rfl rfl rfl rfl rfl ?_
    refine WD.nil ?_
    refine AnyZ.eager 12 rfl (by kernel_rfl) (Eag.pure tOk zOk rfl (fun _ _ _ => rfl) rfl rfl) ?_
    refine AnyZ.one 13 (by kernel_rfl) rfl ?_
    refine OpZ.d ?_
    refine D.store tOk rfl rfl rfl rfl rfl rfl rfl rfl ?_
    refine WD.nil ?_
    exact AnyZ.nil (by kernel_rfl) ⟨_, rfl, rfl, rfl, rfl, rfl, rfl, rfl, trivial⟩
   refine OpZ.d ?_
   refine Ym rfl rfl ?_
   refine WD.nil ?_
   refine AnyZ.one 1 (by kernel_rfl) rfl ?_
   refine OpZ.d ?_
   refine Ym rfl rfl ?_
   refine WD.nil ?_
   refine AnyZ.eager 4 rfl (by kernel_rfl) (Eag.pure tOk zOk rfl (fun _ _ _ => rfl) rfl rfl) ?_
   refine AnyZ.eager 10 rfl (by kernel_rfl) (Eag.pure tOk zOk rfl (fun _ _ _ => rfl) rfl rfl) ?_
   refine AnyZ.one 11 (by kernel_rfl) rfl ?_
   refine OpZ.d ?_
   refine D.store tOk rfl rfl rfl rfl rfl rfl rfl rfl ?_
   refine WD.nil ?_
   refine AnyZ.eager 12 rfl (by kernel_rfl) (Eag.pure tOk zOk rfl (fun _ _ _ => rfl) rfl rfl) ?_
   refine AnyZ.one 13 (by kernel_rfl) rfl ?_
   refine OpZ.d ?_
   refine D.store tOk rfl rfl rfl rfl rfl rfl rfl rfl ?_
   refine WD.nil ?_
   exact AnyZ.nil (by kernel_rfl) ⟨_, rfl, rfl, rfl, rfl, rfl, rfl, rfl, trivial⟩
  rintro _ ⟨tj0, rfl, hj0⟩
  apply Yn
  refine W.keep _ hj0 ?_
  apply Y1
  iterate 4 refine Yp rfl ?_
  apply Yn
  apply Yb
  refine W.loop (fun k st => ∃ j : Nat, ∃ y : List Ofr, ∃ v2 : Nat, ∃ al2 : Bool, j ≤ (l.getD i Fed.z).of.length ∧ y = insTo x.of (l.getD i Fed.z).of j ∧ k = (l.getD i Fed.z).of.length - j ∧ ∃ t b2 r2 m2, st = ⟨t, [[.d (.str []), .d (.int .i64 0), .d (.int .i64 0), .d .nilsl], [.d (.str x.ch), .d (.int .i64 (mxI x.se (l.getD i Fed.z).se)), .d (.int .i64 (mxI x.ti (l.getD i Fed.z).ti)), .row 0 v2 0 (y.map ofrD).length], [.d (.str (l.getD i Fed.z).ch), .d (.int .i64 (l.getD i Fed.z).se), .d (.int .i64 (l.getD i Fed.z).ti), .d (.vec 18 ((l.getD i Fed.z).of.map ofrD))]] ++ b2, [some ⟨al2, v2, 18, 72, y.map ofrD⟩] ++ r2, [] ++ m2⟩ ∧ holdsL t [(2, .one (.ptr 0 0)), (7, .one (.ptr 1 0)), (9, .one (.ptr 2 0)), (40, .one (.d (.vec 4 (l.map fedD)))), (41, .one (.d (.int .i64 ((l.map fedD).length : Int)))), (42, .one (.d (.int .i64 (i : Int)))), (59, .one (.d (.vec 18 ((l.getD i Fed.z).of.map ofrD)))), (60, .one (.d (.int .i64 (((l.getD i Fed.z).of.map ofrD).length : Int)))), (61, .one (.d (.int .i64 (j : Int))))]) ((l.getD i Fed.z).of.length) ⟨0, x.of, _, _, Nat.zero_le _, (insTo_0 _ _).symm, rfl, _, _, _, _, rfl, rfl, rfl, rfl, rfl, rfl, rfl, rfl, rfl, rfl, trivial⟩ ?_
  rintro k4 _ ⟨j, y, v2, al2, f4_0, f4_1, rfl, t4, bb4, rr4, mm4, rfl, hh4⟩
  refine W.keepR _ _ _ _ _ _ _ hh4 rfl ?_
  refine W.reVer (l := [(2, .one (.ptr 0 0)), (7, .one (.ptr 1 0)), (9, .one (.ptr 2 0)), (40, .one (.d (.vec 4 (l.map fedD)))), (41, .one (.d (.int .i64 ((l.map fedD).length : Int)))), (42, .one (.d (.int .i64 (i : Int)))), (59, .one (.d (.vec 18 ((l.getD i Fed.z).of.map ofrD)))), (60, .one (.d (.int .i64 (((l.getD i Fed.z).of.map ofrD).length : Int)))), (61, .one (.d (.int .i64 (j : Int))))]) (b := [[.d (.str []), .d (.int .i64 0), .d (.int .i64 0), .d .nilsl], [.d (.str x.ch), .d (.int .i64 (mxI x.se (l.getD i Fed.z).se)), .d (.int .i64 (mxI x.ti (l.getD i Fed.z).ti)), .row 0 0 0 (y.map ofrD).length], [.d (.str (l.getD i Fed.z).ch), .d (.int .i64 (l.getD i Fed.z).se), .d (.int .i64 (l.getD i Fed.z).ti), .d (.vec 18 ((l.getD i Fed.z).of.map ofrD))]]) 0 rfl rfl rfl rfl rfl ?_
  apply Y1
  refine Yp rfl ?_
  apply Yn
  apply Ys
  refine W.cond rfl (fun c6=>?_) fun c6=>?_
  ·skip
   have hj := row_lt (by assumption)
   have hoj := hfi.o _ (mem_getD (d := Ofr.z) hj)
   have hylen := y_len hok h20 hi f2_1 f4_0 f4_1
   have hym := y_mem hi f2_1 f4_0 f4_1
   have hyo : ∀ a ∈ y, OfrOk a := fun a ha => by
    obtain ⟨f, h1, h2⟩ := hym a ha
    exact (hl f h1).o a h2
   apply Yk
   apply Yn
   apply Ys
   apply Yb
   apply Y1
   refine YE rfl (row_ok hj) (row_at Ofr.z hj) rfl ?_
   iterate 7 first|refine Yp rfl ?_|refine S.store tOk rfl rfl rfl rfl rfl rfl rfl rfl ?_|refine S.alloc tOk rfl rfl rfl rfl ?_|apply Y3
   refine S.callV rfl rfl rfl rfl rfl rfl (pc_bsW 63 (fun a => cmpO a ((l.getD i Fed.z).of.getD j Ofr.z)) y (by omega) ((l.getD i Fed.z).of.getD j Ofr.z) (fun a ha => pc_cmpO a ((l.getD i Fed.z).of.getD j Ofr.z) (hyo a ha) hoj)) ?_
   iterate 9 first|refine Yp rfl ?_|apply Y3|apply Yn
   refine W.cond rfl (fun c7=>?_) fun c7=>?_
   ·skip
    have hg : (!fndO (fun a => cmpO a ((l.getD i Fed.z).of.getD j Ofr.z)) y) = true := (by assumption)
    refine W.regionS 6 mixed rfl (by kernel_rfl) ?_
    refine AnyZ.eager 0 rfl (by kernel_rfl) (Eag.pure tOk zOk rfl (fun _ _ _ => rfl) rfl rfl) ?_
    refine AnyZ.eager 2 rfl (by kernel_rfl) (Eag.pure tOk zOk rfl (fun _ _ _ => rfl) rfl rfl) ?_
    refine AnyZ.two 1 3 (by kernel_rfl) rfl rfl ?_ ?_
    ·skip
     refine OpZ.d ?_
     refine Ym rfl rfl ?_
     refine WD.nil ?_
     refine AnyZ.one 3 (by kernel_rfl) rfl ?_
     refine OpZ.d ?_
     refine Ym rfl rfl ?_
     refine WD.nil ?_
     refine AnyZ.one 4 (by kernel_rfl) rfl ?_
     refine OpZ.d ?_
     refine D.call rfl rfl rfl rfl rfl (pc_clone ((l.getD i Fed.z).of.getD j Ofr.z) hoj) ?_
     refine WD.nil ?_
     refine AnyZ.one 5 (by kernel_rfl) rfl ?_
     refine OpZ.sliceOwn tOk rfl rfl rfl rfl rfl rfl ?_
     refine AnyZ.nil (by kernel_rfl) ?_
     refine S.insertRow rfl rfl rfl insO rfl rfl rfl rfl ins_pos (ins_bytes hylen) (by rw [List.length_map]; omega) (ins_rows hg) rfl ?_
     iterate 6 first|refine Yp rfl ?_|apply Yw|refine S.store tOk rfl rfl rfl rfl rfl rfl rfl rfl ?_|apply Y4
     refine loop_n ((l.getD i Fed.z).of.length - (j + 1)) (by omega) ⟨j + 1, insP y ((l.getD i Fed.z).of.getD j Ofr.z), _, _, hj, (by rw [f4_1]; exact insTo_s hj), rfl, _, _, _, _, rfl, rfl, rfl, rfl, rfl, rfl, rfl, rfl, rfl, inc_i64 (by omega), trivial⟩
    refine OpZ.d ?_
    refine Ym rfl rfl ?_
    refine WD.nil ?_
    refine AnyZ.two 1 4 (by kernel_rfl) rfl rfl ?_ ?_
    ·skip
     refine OpZ.d ?_
     refine Ym rfl rfl ?_
     refine WD.nil ?_
     refine AnyZ.one 4 (by kernel_rfl) rfl ?_
     refine OpZ.d ?_
     refine D.call rfl rfl rfl rfl rfl (pc_clone ((l.getD i Fed.z).of.getD j Ofr.z) hoj) ?_
     refine WD.nil ?_
     refine AnyZ.one 5 (by kernel_rfl) rfl ?_
     refine OpZ.sliceOwn tOk rfl rfl rfl rfl rfl rfl ?_
     refine AnyZ.nil (by kernel_rfl) ?_
     refine S.insertRow rfl rfl rfl insO rfl rfl rfl rfl ins_pos (ins_bytes hylen) (by rw [List.length_map]; omega) (ins_rows hg) rfl ?_
     iterate 6 first|refine Yp rfl ?_|apply Yw|refine S.store tOk rfl rfl rfl rfl rfl rfl rfl rfl ?_|apply Y4
     refine loop_n ((l.getD i Fed.z).of.length - (j + 1)) (by omega) ⟨j + 1, insP y ((l.getD i Fed.z).of.getD j Ofr.z), _, _, hj, (by rw [f4_1]; exact insTo_s hj), rfl, _, _, _, _, rfl, rfl, rfl, rfl, rfl, rfl, rfl, rfl, rfl, inc_i64 (by omega), trivial⟩
    refine OpZ.d ?_
    refine D.call rfl rfl rfl rfl rfl (pc_clone ((l.getD i Fed.z).of.getD j Ofr.z) hoj) ?_
    refine WD.nil ?_
    refine AnyZ.two 1 5 (by kernel_rfl) rfl rfl ?_ ?_
    ·skip
     refine OpZ.d ?_
     refine Ym rfl rfl ?_
     refine WD.nil ?_
     refine AnyZ.one 5 (by kernel_rfl) rfl ?_
     refine OpZ.sliceOwn tOk rfl rfl rfl rfl rfl rfl ?_
     refine AnyZ.nil (by kernel_rfl) ?_
     refine S.insertRow rfl rfl rfl insO rfl rfl rfl rfl ins_pos (ins_bytes hylen) (by rw [List.length_map]; omega) (ins_rows hg) rfl ?_
     iterate 6 first|refine Yp rfl ?_|apply Yw|refine S.store tOk rfl rfl rfl rfl rfl rfl rfl rfl ?_|apply Y4
     refine loop_n ((l.getD i Fed.z).of.length - (j + 1)) (by omega) ⟨j + 1, insP y ((l.getD i Fed.z).of.getD j Ofr.z), _, _, hj, (by rw [f4_1]; exact insTo_s hj), rfl, _, _, _, _, rfl, rfl, rfl, rfl, rfl, rfl, rfl, rfl, rfl, inc_i64 (by omega), trivial⟩
    refine OpZ.sliceOwn tOk rfl rfl rfl rfl rfl rfl ?_
    refine AnyZ.one 1 (by kernel_rfl) rfl ?_
    refine OpZ.d ?_
    refine Ym rfl rfl ?_
    refine WD.nil ?_
    refine AnyZ.nil (by kernel_rfl) ?_
    refine S.insertRow rfl rfl rfl insO rfl rfl rfl rfl ins_pos (ins_bytes hylen) (by rw [List.length_map]; omega) (ins_rows hg) rfl ?_
    iterate 6 first|refine Yp rfl ?_|apply Yw|refine S.store tOk rfl rfl rfl rfl rfl rfl rfl rfl ?_|apply Y4
    refine loop_n ((l.getD i Fed.z).of.length - (j + 1)) (by omega) ⟨j + 1, insP y ((l.getD i Fed.z).of.getD j Ofr.z), _, _, hj, (by rw [f4_1]; exact insTo_s hj), rfl, _, _, _, _, rfl, rfl, rfl, rfl, rfl, rfl, rfl, rfl, rfl, inc_i64 (by omega), trivial⟩
   have hg : (!fndO (fun a => cmpO a ((l.getD i Fed.z).of.getD j Ofr.z)) y) = false := (by assumption)
   iterate 5 first|refine Yp rfl ?_|apply Yw|apply Yk|apply Y4
   refine loop_n ((l.getD i Fed.z).of.length - (j + 1)) (by omega) ⟨j + 1, y, _, _, hj, ((ins_y hg).symm.trans (by rw [f4_1]; exact insTo_s hj)), rfl, _, _, _, _, rfl, rfl, rfl, rfl, rfl, rfl, rfl, rfl, rfl, inc_i64 (by omega), trivial⟩
  have hj := row_ge (by assumption)
  have hnx := m_next hi f2_1 hj f4_0 f4_1
  iterate 8 first|refine Yp rfl ?_|apply Ye|apply Yw|apply Yx|apply Yq|apply Y4
  refine loop_n (l.length - (i + 1)) (by omega) ⟨i + 1, ⟨x.ch, mxI x.se (l.getD i Fed.z).se, mxI x.ti (l.getD i Fed.z).ti, y⟩, _, _, hi, hnx, rfl, _, _, _, _, rfl, rfl, rfl, rfl, rfl, inc_i64 (by omega), trivial⟩
 have hi := row_ge (by assumption)
 obtain rfl : i = l.length := by omega
 subst f2_1
 iterate 7 first|apply Ye|apply Yx|apply Yq|apply Ys|apply Yn
 refine W.freezeB (ri := 0) (q := ⟨_, _, _, _, _⟩) 1 3 rfl rfl rfl rfl ?_
 apply Yr
 iterate 4 refine Yp rfl ?_
 apply Yn
 refine W.cond rfl (fun c8=>?_) fun c8=>?_
 ·skip
  have h4 := big_h (by assumption)
  iterate 7 first|refine Yp rfl ?_|apply Yu|apply Yt|refine S.store tOk rfl rfl rfl rfl rfl rfl rfl rfl ?_|apply Y1|apply Yn
  exact ⟨_, rfl, rfl, le_fz (mp_l c1 c2 hb h4)⟩
 have h4 := big_h (by assumption)
 iterate 7 first|refine Yp rfl ?_|apply Yt|refine S.store tOk rfl rfl rfl rfl rfl rfl rfl rfl ?_|apply Yk|apply Y3|apply Yn
 exact Yz rfl rfl rfl (by rw [mp_o c1 c2 hb h4]; rfl)
end
section
open Go
open Go.RowKit
attribute [local irreducible] thenK blockK W
attribute [local irreducible] rangeE checkP errR Ver.check visit visits offerE firstNe rangeB rangeR pathB nameB valueB orderB compareR fedE ofsE ofAt cmpO cmpR srch posO fndO insP insTo mTo mrgP badF wantTo
theorem pc_noFeedE (f : Fed) (h : f = Fed.z) : PureCall Tryz.prog J 20 [fedV f] (.one (.d (.bool true))) := by subst h; exact pc_noFeed
theorem pc_SameFeedE (f g : Fed) (h : f = g) (hl : g.of.length ≤ 4000000) (hc : ∀ a ∈ g.of, OfrOk a) : PureCall Tryz.prog J 26 [fedV f, fedV g] (.one (.d (.bool true))) := by subst h; exact pc_SameFeed f hl hc
theorem wantF_0 (l : List Fed) : V.one (.d (.int .i64 (firstNe [if (((l.map fedD).length : Int) == 0) = true then 9 else 0, if decide (((l.map fedD).length : Int) > 20) = true then 4 else 0]))) = V.one (.d (.int .i64 (wantTo l 0))) := by
 rw [List.length_map]; unfold wantTo; rfl
theorem wantF_n {l : List Fed} {i : Nat} (hi : i < l.length) : V.one (.d (.int .i64 (firstNe [wantTo l i, fedE (l.getD i Fed.z)]))) = V.one (.d (.int .i64 (wantTo l (i + 1)))) := by rw [want_s hi]
theorem wantF_g {l : List Fed} (h : wantTo l l.length = 0) : (((l.map fedD).length : Int) == 0) = false ∧ decide (((l.map fedD).length : Int) > 20) = false ∧ badF l = 0 := by rw [List.length_map]; exact want_ok l h
theorem pc_MergesMatch (l : List Fed) (hn : l.length ≤ 2000000) (hl : ∀ f ∈ l, FedA f) :
  PureCall Tryz.prog J 4 [.one (.d (.vec 4 (l.map fedD)))] (.one (.d (.bool true))) := by
 refine PureCall.of_body tOk (fn := Tryz.f4) Tryz.func4 (by kernel_rfl) rfl (Nat.le_of_ble_eq_true rfl) (fun E => ?_)
 iterate 4 first|refine Yp rfl ?_|apply Y3|apply Y1
 refine S.call rfl rfl rfl rfl rfl (pc_Merge l hn hl) ?_
 iterate 10 first|refine Yp rfl ?_|refine S.store tOk rfl rfl rfl rfl rfl rfl rfl rfl ?_|refine S.alloc tOk rfl rfl rfl rfl ?_|apply Y3
 refine S.call rfl rfl rfl rfl rfl (pc_outref2_When (((l.map fedD).length : Int) == 0) 9) ?_
 iterate 3 refine Yp rfl ?_
 refine S.call rfl rfl rfl rfl rfl (pc_outref2_When (decide (((l.map fedD).length : Int) > 20)) 4) ?_
 refine S.slice tOk rfl rfl ?_
 refine S.call rfl rfl rfl rfl rfl (pc_outref2_First [if (((l.map fedD).length : Int) == 0) = true then 9 else 0, if decide (((l.map fedD).length : Int) > 20) = true then 4 else 0] (by simp)) ?_
 iterate 9 first|refine Yp rfl ?_|apply Yb|apply Y1|apply Yn|apply Ys
 refine W.loop (fun k st => ∃ i : Nat, i ≤ l.length ∧ k = l.length - i ∧ ∃ t b2 r2 m2, st = ⟨t, [[.d (.str (mrgP l).1.ch), .d (.int .i64 (mrgP l).1.se), .d (.int .i64 (mrgP l).1.ti), .d (.vec 18 ((mrgP l).1.of.map ofrD))]] ++ b2, [] ++ r2, [] ++ m2⟩ ∧ holdsL t [(0, .one (.d (.vec 4 (l.map fedD)))), (3, .one (.ptr 0 0)), (4, .one (.d (.int .i64 (mrgP l).2))), (5, .one (.d (.int .i64 (wantTo l i)))), (30, .one (.d (.vec 4 (l.map fedD)))), (31, .one (.d (.int .i64 ((l.map fedD).length : Int)))), (32, .one (.d (.int .i64 (i : Int))))]) (l.length) ⟨0, Nat.zero_le _, rfl, _, _, _, _, rfl, rfl, rfl, rfl, wantF_0 l, rfl, rfl, rfl, trivial⟩ ?_
 rintro k0 _ ⟨i, f0_0, rfl, t0, bb0, rr0, mm0, rfl, hh0⟩
 refine W.keepR _ _ _ _ _ _ _ hh0 rfl ?_
 apply Y1
 refine Yp rfl ?_
 apply Yn
 apply Ys
 refine W.cond rfl (fun c1=>?_) fun c1=>?_
 ·skip
  have hi := row_lt (by assumption)
  have hfi := hl _ (mem_getD (d := Fed.z) hi)
  apply Yk
  apply Yn
  apply Ys
  apply Yb
  apply Y1
  refine YE rfl (row_ok hi) (row_at Fed.z hi) rfl ?_
  iterate 6 first|refine Yp rfl ?_|refine S.store tOk rfl rfl rfl rfl rfl rfl rfl rfl ?_|refine S.alloc tOk rfl rfl rfl rfl ?_|apply Y4
  refine S.call rfl rfl rfl rfl rfl (pc_FeedError (l.getD i Fed.z) hfi) ?_
  refine S.slice tOk rfl rfl ?_
  refine S.call rfl rfl rfl rfl rfl (pc_outref2_First [wantTo l i, fedE (l.getD i Fed.z)] (by simp)) ?_
  iterate 5 first|refine Yp rfl ?_|apply Yw|apply Y4
  refine loop_n (l.length - (i + 1)) (by omega) ⟨i + 1, hi, rfl, _, _, _, _, rfl, rfl, rfl, rfl, wantF_n hi, rfl, rfl, inc_i64 (by omega), trivial⟩
 have hi := row_ge (by assumption)
 obtain rfl : i = l.length := by omega
 apply Yq
 apply Ye
 apply Ye
 apply Yx
 apply Yn
 apply Ys
 apply Y1
 refine S.call rfl rfl rfl rfl rfl (pc_outlaw2_feeds) ?_
 iterate 6 first|refine S.pickOr tOk zOk rfl rfl tg ?_|refine Yg rfl rfl tg ?_|refine Yp rfl ?_|apply Yn
 refine W.cond rfl (fun c2=>?_) fun c2=>?_
 ·skip
  have hw : (wantTo l l.length != 0) = true := by simpa using (by assumption : (!true || (wantTo l l.length != 0)) = true)
  have hm := want_mrg l (by simpa using hw)
  apply Y1
  refine S.call rfl rfl rfl rfl rfl (pc_outlaw2_feeds) ?_
  refine Yp rfl ?_
  refine Yg rfl rfl tg ?_
  refine S.callG rfl rfl rfl rfl tg rfl rfl (fun _ => pc_noFeedE (mrgP l).1 (by rw [hm])) ?_
  iterate 10 first|refine S.pickAnd tOk zOk rfl rfl tg ?_|refine Yg rfl rfl tg ?_|refine Yp rfl ?_|apply Yu|apply Yt|apply Yn
  exact Yz rfl rfl rfl (by rw [hm]; simp)
 have hw : (wantTo l l.length != 0) = false := by simpa using (by assumption : (!true || (wantTo l l.length != 0)) = false)
 obtain ⟨hc1, h20, hb⟩ := wantF_g (by simpa using hw)
 have h0 := fed_pos hc1
 have hok := feds_ok hb
 apply Yk
 apply Y3
 refine Yp rfl ?_
 refine YE rfl (row_ok h0) (row_at Fed.z h0) rfl ?_
 iterate 12 first|refine Yp rfl ?_|refine S.store tOk rfl rfl rfl rfl rfl rfl rfl rfl ?_|refine S.alloc tOk rfl rfl rfl rfl ?_|apply Y1|apply Yn|apply Ys
 refine W.newRowB 1 3 18 72 rfl rfl rfl ?_
 apply Yb
 refine W.loop (fun k st => ∃ i : Nat, ∃ x : Fed, ∃ v : Nat, ∃ al : Bool, i ≤ l.length ∧ x = mTo l i ∧ k = l.length - i ∧ ∃ t b2 r2 m2, st = ⟨t, [[.d (.str (mrgP l).1.ch), .d (.int .i64 (mrgP l).1.se), .d (.int .i64 (mrgP l).1.ti), .d (.vec 18 ((mrgP l).1.of.map ofrD))], [.d (.str x.ch), .d (.int .i64 x.se), .d (.int .i64 x.ti), .row 0 v 0 (x.of.map ofrD).length]] ++ b2, [some ⟨al, v, 18, 72, x.of.map ofrD⟩] ++ r2, [] ++ m2⟩ ∧ holdsL t [(3, .one (.ptr 0 0)), (4, .one (.d (.int .i64 (mrgP l).2))), (8, .one (.ptr 1 0)), (63, .one (.d (.vec 4 (l.map fedD)))), (64, .one (.d (.int .i64 ((l.map fedD).length : Int)))), (65, .one (.d (.int .i64 (i : Int))))]) (l.length) ⟨0, ⟨(l.getD 0 Fed.z).ch, 0, 0, []⟩, _, _, Nat.zero_le _, (mTo_0 l).symm, rfl, _, _, _, _, rfl, rfl, rfl, rfl, rfl, rfl, rfl, trivial⟩ ?_
 rintro k2 _ ⟨i, x, v, al, f2_0, f2_1, rfl, t2, bb2, rr2, mm2, rfl, hh2⟩
 refine W.keepR _ _ _ _ _ _ _ hh2 rfl ?_
 refine W.reVer (l := [(3, .one (.ptr 0 0)), (4, .one (.d (.int .i64 (mrgP l).2))), (8, .one (.ptr 1 0)), (63, .one (.d (.vec 4 (l.map fedD)))), (64, .one (.d (.int .i64 ((l.map fedD).length : Int)))), (65, .one (.d (.int .i64 (i : Int))))]) (b := [[.d (.str (mrgP l).1.ch), .d (.int .i64 (mrgP l).1.se), .d (.int .i64 (mrgP l).1.ti), .d (.vec 18 ((mrgP l).1.of.map ofrD))], [.d (.str x.ch), .d (.int .i64 x.se), .d (.int .i64 x.ti), .row 0 0 0 (x.of.map ofrD).length]]) 0 rfl rfl rfl rfl rfl ?_
 apply Y1
 refine Yp rfl ?_
 apply Yn
 apply Ys
 refine W.cond rfl (fun c3=>?_) fun c3=>?_
 ·skip
  have hi := row_lt (by assumption)
  have hfi := hl _ (mem_getD (d := Fed.z) hi)
  have hfn := hfi.n
  apply Yk
  apply Yn
  apply Ys
  apply Yb
  apply Y1
  refine YE rfl (row_ok hi) (row_at Fed.z hi) rfl ?_
  refine Yp rfl ?_
  refine S.alloc tOk rfl rfl rfl rfl ?_
  refine S.store tOk rfl rfl rfl rfl rfl rfl rfl rfl ?_
  apply Yn
  apply Ys
  refine W.regionJ (fun s => ∃ t, s = ⟨t, [[.d (.str (mrgP l).1.ch), .d (.int .i64 (mrgP l).1.se), .d (.int .i64 (mrgP l).1.ti), .d (.vec 18 ((mrgP l).1.of.map ofrD))], [.d (.str x.ch), .d (.int .i64 (mxI x.se (l.getD i Fed.z).se)), .d (.int .i64 (mxI x.ti (l.getD i Fed.z).ti)), .row 0 0 0 (x.of.map ofrD).length], [.d (.str (l.getD i Fed.z).ch), .d (.int .i64 (l.getD i Fed.z).se), .d (.int .i64 (l.getD i Fed.z).ti), .d (.vec 18 ((l.getD i Fed.z).of.map ofrD))]], [some ⟨al, 0, 18, 72, x.of.map ofrD⟩], []⟩ ∧ holdsL t [(3, .one (.ptr 0 0)), (4, .one (.d (.int .i64 (mrgP l).2))), (8, .one (.ptr 1 0)), (10, .one (.ptr 2 0)), (63, .one (.d (.vec 4 (l.map fedD)))), (64, .one (.d (.int .i64 ((l.map fedD).length : Int)))), (65, .one (.d (.int .i64 (i : Int))))]) 14 mixed rfl (by kernel_rfl) ?_ ?_
  ·skip
   refine AnyZ.eager 0 rfl (by kernel_rfl) (Eag.pure tOk zOk rfl (fun _ _ _ => rfl) rfl rfl) ?_
   refine AnyZ.eager 2 rfl (by kernel_rfl) (Eag.pure tOk zOk rfl (fun _ _ _ => rfl) rfl rfl) ?_
   refine AnyZ.eager 5 rfl (by kernel_rfl) (Eag.pure tOk zOk rfl (fun _ _ _ => rfl) rfl rfl) ?_
   refine AnyZ.eager 7 rfl (by kernel_rfl) (Eag.pure tOk zOk rfl (fun _ _ _ => rfl) rfl rfl) ?_
   refine AnyZ.four 1 3 6 8 (by kernel_rfl) rfl rfl rfl rfl ?_ ?_ ?_ ?_
   ·skip
    refine OpZ.d ?_
    refine Ym rfl rfl ?_
    refine WD.nil ?_
    refine AnyZ.three 3 6 8 (by kernel_rfl) rfl rfl rfl ?_ ?_ ?_
    ·skip
     refine OpZ.d ?_
     refine Ym rfl rfl ?_
     refine WD.nil ?_
     refine AnyZ.eager 4 rfl (by kernel_rfl) (Eag.pure tOk zOk rfl (fun _ _ _ => rfl) rfl rfl) ?_
     refine AnyZ.two 6 8 (by kernel_rfl) rfl rfl ?_ ?_
     ·skip
      refine OpZ.d ?_
      refine Ym rfl rfl ?_
      refine WD.nil ?_
      refine AnyZ.eager 10 rfl (by kernel_rfl) (Eag.pure tOk zOk rfl (fun _ _ _ => rfl) rfl rfl) ?_
      refine AnyZ.two 8 11 (by kernel_rfl) rfl rfl ?_ ?_
      ·skip
       refine OpZ.d ?_
       refine Ym rfl rfl ?_
       refine WD.nil ?_
       refine AnyZ.eager 9 rfl (by kernel_rfl) (Eag.pure tOk zOk rfl (fun _ _ _ => rfl) rfl rfl) ?_
       refine AnyZ.one 11 (by kernel_rfl) rfl ?_
       refine OpZ.d ?_
       refine D.store tOk rfl rfl rfl rfl rfl rfl rfl rfl ?_
       refine WD.nil ?_
       refine AnyZ.eager 12 rfl (by kernel_rfl) (Eag.pure tOk zOk rfl (fun _ _ _ => rfl) rfl rfl) ?_
       refine AnyZ.one 13 (by kernel_rfl) rfl ?_
       refine OpZ.d ?_
       refine D.store tOk rfl rfl rfl rfl rfl rfl rfl rfl ?_
       refine WD.nil ?_
       exact AnyZ.nil (by kernel_rfl) ⟨_, rfl, rfl, rfl, rfl, rfl, rfl, rfl, rfl, trivial⟩
      refine OpZ.d ?_
      refine D.store tOk rfl rfl rfl rfl rfl rfl rfl rfl ?_
      refine WD.nil ?_
      refine AnyZ.one 8 (by kernel_rfl) rfl ?_
      refine OpZ.d ?_
      refine Ym rfl rfl ?_
      refine WD.nil ?_
      refine AnyZ.eager 9 rfl (by kernel_rfl) (Eag.pure tOk zOk rfl (fun _ _ _ => rfl) rfl rfl) ?_
      refine AnyZ.eager 12 rfl (by kernel_rfl) (Eag.pure tOk zOk rfl (fun _ _ _ => rfl) rfl rfl) ?_
      refine AnyZ.one 13 (by kernel_rfl) rfl ?_
      refine OpZ.d ?_
      refine D.store tOk rfl rfl rfl rfl rfl rfl rfl rfl ?_
      refine WD.nil ?_
      exact AnyZ.nil (by kernel_rfl) ⟨_, rfl, rfl, rfl, rfl, rfl, rfl, rfl, rfl, trivial⟩
     refine OpZ.d ?_
     refine Ym rfl rfl ?_
     refine WD.nil ?_
     refine AnyZ.one 6 (by kernel_rfl) rfl ?_
     refine OpZ.d ?_
     refine Ym rfl rfl ?_
     refine WD.nil ?_
     refine AnyZ.eager 9 rfl (by kernel_rfl) (Eag.pure tOk zOk rfl (fun _ _ _ => rfl) rfl rfl) ?_
     refine AnyZ.eager 10 rfl (by kernel_rfl) (Eag.pure tOk zOk rfl (fun _ _ _ => rfl) rfl rfl) ?_
     refine AnyZ.one 11 (by kernel_rfl) rfl ?_
     refine OpZ.d ?_
     refine D.store tOk rfl rfl rfl rfl rfl rfl rfl rfl ?_
     refine WD.nil ?_
     refine AnyZ.eager 12 rfl (by kernel_rfl) (Eag.pure tOk zOk rfl (fun _ _ _ => rfl) rfl rfl) ?_
     refine AnyZ.one 13 (by kernel_rfl) rfl ?_
     refine OpZ.d ?_
     refine D.store tOk rfl rfl rfl rfl rfl rfl rfl rfl ?_
     refine WD.nil ?_
     exact AnyZ.nil (by kernel_rfl) ⟨_, rfl, rfl, rfl, rfl, rfl, rfl, rfl, rfl, trivial⟩
    ·skip
     refine OpZ.d ?_
     refine Ym rfl rfl ?_
     refine WD.nil ?_
     refine AnyZ.two 3 8 (by kernel_rfl) rfl rfl ?_ ?_
     ·skip
      refine OpZ.d ?_
      refine Ym rfl rfl ?_
      refine WD.nil ?_
      refine AnyZ.eager 4 rfl (by kernel_rfl) (Eag.pure tOk zOk rfl (fun _ _ _ => rfl) rfl rfl) ?_
      refine AnyZ.eager 10 rfl (by kernel_rfl) (Eag.pure tOk zOk rfl (fun _ _ _ => rfl) rfl rfl) ?_
      refine AnyZ.two 8 11 (by kernel_rfl) rfl rfl ?_ ?_
      ·skip
       refine OpZ.d ?_
       refine Ym rfl rfl ?_
       refine WD.nil ?_
       refine AnyZ.eager 9 rfl (by kernel_rfl) (Eag.pure tOk zOk rfl (fun _ _ _ => rfl) rfl rfl) ?_
       refine AnyZ.one 11 (by kernel_rfl) rfl ?_
       refine OpZ.d ?_
       refine D.store tOk rfl rfl rfl rfl rfl rfl rfl rfl ?_
       refine WD.nil ?_
       refine AnyZ.eager 12 rfl (by kernel_rfl) (Eag.pure tOk zOk rfl (fun _ _ _ => rfl) rfl rfl) ?_
       refine AnyZ.one 13 (by kernel_rfl) rfl ?_
       refine OpZ.d ?_
       refine D.store tOk rfl rfl rfl rfl rfl rfl rfl rfl ?_
       refine WD.nil ?_
       exact AnyZ.nil (by kernel_rfl) ⟨_, rfl, rfl, rfl, rfl, rfl, rfl, rfl, rfl, trivial⟩
      refine OpZ.d ?_
      refine D.store tOk rfl rfl rfl rfl rfl rfl rfl rfl ?_
      refine WD.nil ?_
      refine AnyZ.one 8 (by kernel_rfl) rfl ?_
      refine OpZ.d ?_
      refine Ym rfl rfl ?_
      refine WD.nil ?_
      refine AnyZ.eager 9 rfl (by kernel_rfl) (Eag.pure tOk zOk rfl (fun _ _ _ => rfl) rfl rfl) ?_
      refine AnyZ.eager 12 rfl (by kernel_rfl) (Eag.pure tOk zOk rfl (fun _ _ _ => rfl) rfl rfl) ?_
      refine AnyZ.one 13 (by kernel_rfl) rfl ?_
      refine OpZ.d ?_
      refine D.store tOk rfl rfl rfl rfl rfl rfl rfl rfl ?_
      refine WD.nil ?_
      exact AnyZ.nil (by kernel_rfl) ⟨_, rfl, rfl, rfl, rfl, rfl, rfl, rfl, rfl, trivial⟩
     refine OpZ.d ?_
     refine Ym rfl rfl ?_
     refine WD.nil ?_
     refine AnyZ.eager 9 rfl (by kernel_rfl) (Eag.pure tOk zOk rfl (fun _ _ _ => rfl) rfl rfl) ?_
     refine AnyZ.one 3 (by kernel_rfl) rfl ?_
     refine OpZ.d ?_
     refine Ym rfl rfl ?_
     refine WD.nil ?_
     refine AnyZ.eager 4 rfl (by kernel_rfl) (Eag.pure tOk zOk rfl (fun _ _ _ => rfl) rfl rfl) ?_
     refine AnyZ.eager 10 rfl (by kernel_rfl) (Eag.pure tOk zOk rfl (fun _ _ _ => rfl) rfl rfl) ?_
     refine AnyZ.one 11 (by kernel_rfl) rfl ?_
     refine OpZ.d ?_
     refine D.store tOk rfl rfl rfl rfl rfl rfl rfl rfl ?_
     refine WD.nil ?_
     refine AnyZ.eager 12 rfl (by kernel_rfl) (Eag.pure tOk zOk rfl (fun _ _ _ => rfl) rfl rfl) ?_
     refine AnyZ.one 13 (by kernel_rfl) rfl ?_
     refine OpZ.d ?_
     refine D.store tOk rfl rfl rfl rfl rfl rfl rfl rfl ?_
     refine WD.nil ?_
     exact AnyZ.nil (by kernel_rfl) ⟨_, rfl, rfl, rfl, rfl, rfl, rfl, rfl, rfl, trivial⟩
    refine OpZ.d ?_
    refine Ym rfl rfl ?_
    refine WD.nil ?_
    refine AnyZ.two 3 6 (by kernel_rfl) rfl rfl ?_ ?_
    ·skip
     refine OpZ.d ?_
     refine Ym rfl rfl ?_
     refine WD.nil ?_
     refine AnyZ.eager 4 rfl (by kernel_rfl) (Eag.pure tOk zOk rfl (fun _ _ _ => rfl) rfl rfl) ?_
     refine AnyZ.one 6 (by kernel_rfl) rfl ?_
     refine OpZ.d ?_
     refine Ym rfl rfl ?_
     refine WD.nil ?_
     refine AnyZ.eager 9 rfl (by kernel_rfl) (Eag.pure tOk zOk rfl (fun _ _ _ => rfl) rfl rfl) ?_
     refine AnyZ.eager 10 rfl (by kernel_rfl) (Eag.pure tOk zOk rfl (fun _ _ _ => rfl) rfl rfl) ?_
     refine AnyZ.one 11 (by kernel_rfl) rfl ?_
     refine OpZ.d ?_
     refine D.store tOk rfl rfl rfl rfl rfl rfl rfl rfl ?_
     refine WD.nil ?_
     refine AnyZ.eager 12 rfl (by kernel_rfl) (Eag.pure tOk zOk rfl (fun _ _ _ => rfl) rfl rfl) ?_
     refine AnyZ.one 13 (by kernel_rfl) rfl ?_
     refine OpZ.d ?_
     refine D.store tOk rfl rfl rfl rfl rfl rfl rfl rfl ?_
     refine WD.nil ?_
     exact AnyZ.nil (by kernel_rfl) ⟨_, rfl, rfl, rfl, rfl, rfl, rfl, rfl, rfl, trivial⟩
    refine OpZ.d ?_
    refine Ym rfl rfl ?_
    refine WD.nil ?_
    refine AnyZ.eager 9 rfl (by kernel_rfl) (Eag.pure tOk zOk rfl (fun _ _ _ => rfl) rfl rfl) ?_
    refine AnyZ.one 3 (by kernel_rfl) rfl ?_
    refine OpZ.d ?_
    refine Ym rfl rfl ?_
    refine WD.nil ?_
    refine AnyZ.eager 4 rfl (by kernel_rfl) (Eag.pure tOk zOk rfl (fun _ _ _ => rfl) rfl rfl) ?_
    refine AnyZ.eager 10 rfl (by kernel_rfl) (Eag.pure tOk zOk rfl (fun _ _ _ => rfl) rfl rfl) ?_
    refine AnyZ.one 11 (by kernel_rfl) rfl ?_
    refine OpZ.d ?_
    refine D.store tOk rfl rfl rfl rfl rfl rfl rfl rfl ?_
    refine WD.nil ?_
    refine AnyZ.eager 12 rfl (by kernel_rfl) (Eag.pure tOk zOk rfl (fun _ _ _ => rfl) rfl rfl) ?_
    refine AnyZ.one 13 (by kernel_rfl) rfl ?_
    refine OpZ.d ?_
    refine D.store tOk rfl rfl rfl rfl rfl rfl rfl rfl ?_
    refine WD.nil ?_
    exact AnyZ.nil (by kernel_rfl) ⟨_, rfl, rfl, rfl, rfl, rfl, rfl, rfl, rfl, trivial⟩
   ·skip
    refine OpZ.d ?_
    refine Ym rfl rfl ?_
    refine WD.nil ?_
    refine AnyZ.three 1 6 8 (by kernel_rfl) rfl rfl rfl ?_ ?_ ?_
    ·skip
     refine OpZ.d ?_
     refine Ym rfl rfl ?_
     refine WD.nil ?_
     refine AnyZ.eager 4 rfl (by kernel_rfl) (Eag.pure tOk zOk rfl (fun _ _ _ => rfl) rfl rfl) ?_
     refine AnyZ.two 6 8 (by kernel_rfl) rfl rfl ?_ ?_
     ·skip
      refine OpZ.d ?_
      refine Ym rfl rfl ?_
      refine WD.nil ?_
      refine AnyZ.eager 10 rfl (by kernel_rfl) (Eag.pure tOk zOk rfl (fun _ _ _ => rfl) rfl rfl) ?_
      refine AnyZ.two 8 11 (by kernel_rfl) rfl rfl ?_ ?_
      ·skip
       refine OpZ.d ?_
       refine Ym rfl rfl ?_
       refine WD.nil ?_
       refine AnyZ.eager 9 rfl (by kernel_rfl) (Eag.pure tOk zOk rfl (fun _ _ _ => rfl) rfl rfl) ?_
       refine AnyZ.one 11 (by kernel_rfl) rfl ?_
       refine OpZ.d ?_
       refine D.store tOk rfl rfl rfl rfl rfl rfl rfl rfl ?_
       refine WD.nil ?_
       refine AnyZ.eager 12 rfl (by kernel_rfl) (Eag.pure tOk zOk rfl (fun _ _ _ => rfl) rfl rfl) ?_
       refine AnyZ.one 13 (by kernel_rfl) rfl ?_
       refine OpZ.d ?_
       refine D.store tOk rfl rfl rfl rfl rfl rfl rfl rfl ?_
       refine WD.nil ?_
       exact AnyZ.nil (by kernel_rfl) ⟨_, rfl, rfl, rfl, rfl, rfl, rfl, rfl, rfl, trivial⟩
      refine OpZ.d ?_
      refine D.store tOk rfl rfl rfl rfl rfl rfl rfl rfl ?_
      refine WD.nil ?_
      refine AnyZ.one 8 (by kernel_rfl) rfl ?_
      refine OpZ.d ?_
      refine Ym rfl rfl ?_
      refine WD.nil ?_
      refine AnyZ.eager 9 rfl (by kernel_rfl) (Eag.pure tOk zOk rfl (fun _ _ _ => rfl) rfl rfl) ?_
      refine AnyZ.eager 12 rfl (by kernel_rfl) (Eag.pure tOk zOk rfl (fun _ _ _ => rfl) rfl rfl) ?_
      refine AnyZ.one 13 (by kernel_rfl) rfl ?_
      refine OpZ.d ?_
      refine D.store tOk rfl rfl rfl rfl rfl rfl rfl rfl ?_
      refine WD.nil ?_
      exact AnyZ.nil (by kernel_rfl) ⟨_, rfl, rfl, rfl, rfl, rfl, rfl, rfl, rfl, trivial⟩
     refine OpZ.d ?_
     refine Ym rfl rfl ?_
     refine WD.nil ?_
     refine AnyZ.one 6 (by kernel_rfl) rfl ?_
     refine OpZ.d ?_
     refine Ym rfl rfl ?_
     refine WD.nil ?_
     refine AnyZ.eager 9 rfl (by kernel_rfl) (Eag.pure tOk zOk rfl (fun _ _ _ => rfl) rfl rfl) ?_
     refine AnyZ.eager 10 rfl (by kernel_rfl) (Eag.pure tOk zOk rfl (fun _ _ _ => rfl) rfl rfl) ?_
     refine AnyZ.one 11 (by kernel_rfl) rfl ?_
     refine OpZ.d ?_
     refine D.store tOk rfl rfl rfl rfl rfl rfl rfl rfl ?_
     refine WD.nil ?_
     refine AnyZ.eager 12 rfl (by kernel_rfl) (Eag.pure tOk zOk rfl (fun _ _ _ => rfl) rfl rfl) ?_
     refine AnyZ.one 13 (by kernel_rfl) rfl ?_
     refine OpZ.d ?_
     refine D.store tOk rfl rfl rfl rfl rfl rfl rfl rfl ?_
     refine WD.nil ?_
     exact AnyZ.nil (by kernel_rfl) ⟨_, rfl, rfl, rfl, rfl, rfl, rfl, rfl, rfl, trivial⟩
    ·skip
     refine OpZ.d ?_
     refine Ym rfl rfl ?_
     refine WD.nil ?_
     refine AnyZ.two 1 8 (by kernel_rfl) rfl rfl ?_ ?_
     ·skip
      refine OpZ.d ?_
      refine Ym rfl rfl ?_
      refine WD.nil ?_
      refine AnyZ.eager 4 rfl (by kernel_rfl) (Eag.pure tOk zOk rfl (fun _ _ _ => rfl) rfl rfl) ?_
      refine AnyZ.eager 10 rfl (by kernel_rfl) (Eag.pure tOk zOk rfl (fun _ _ _ => rfl) rfl rfl) ?_
      refine AnyZ.two 8 11 (by kernel_rfl) rfl rfl ?_ ?_
      ·skip
       refine OpZ.d ?_
       refine Ym rfl rfl ?_
       refine WD.nil ?_
       refine AnyZ.eager 9 rfl (by kernel_rfl) (Eag.pure tOk zOk rfl (fun _ _ _ => rfl) rfl rfl) ?_
       refine AnyZ.one 11 (by kernel_rfl) rfl ?_
       refine OpZ.d ?_
       refine D.store tOk rfl rfl rfl rfl rfl rfl rfl rfl ?_
       refine WD.nil ?_
       refine AnyZ.eager 12 rfl (by kernel_rfl) (Eag.pure tOk zOk rfl (fun _ _ _ => rfl) rfl rfl) ?_
       refine AnyZ.one 13 (by kernel_rfl) rfl ?_
       refine OpZ.d ?_
       refine D.store tOk rfl rfl rfl rfl rfl rfl rfl rfl ?_
       refine WD.nil ?_
       exact AnyZ.nil (by kernel_rfl) ⟨_, rfl, rfl, rfl, rfl, rfl, rfl, rfl, rfl, trivial⟩
      refine OpZ.d ?_
      refine D.store tOk rfl rfl rfl rfl rfl rfl rfl rfl ?_
      refine WD.nil ?_
      refine AnyZ.one 8 (by kernel_rfl) rfl ?_
      refine OpZ.d ?_
      refine Ym rfl rfl ?_
      refine WD.nil ?_
      refine AnyZ.eager 9 rfl (by kernel_rfl) (Eag.pure tOk zOk rfl (fun _ _ _ => rfl) rfl rfl) ?_
      refine AnyZ.eager 12 rfl (by kernel_rfl) (Eag.pure tOk zOk rfl (fun _ _ _ => rfl) rfl rfl) ?_
      refine AnyZ.one 13 (by kernel_rfl) rfl ?_
      refine OpZ.d ?_
      refine D.store tOk rfl rfl rfl rfl rfl rfl rfl rfl ?_
      refine WD.nil ?_
      exact AnyZ.nil (by kernel_rfl) ⟨_, rfl, rfl, rfl, rfl, rfl, rfl, rfl, rfl, trivial⟩
     refine OpZ.d ?_
     refine Ym rfl rfl ?_
     refine WD.nil ?_
     refine AnyZ.eager 9 rfl (by kernel_rfl) (Eag.pure tOk zOk rfl (fun _ _ _ => rfl) rfl rfl) ?_
     refine AnyZ.one 1 (by kernel_rfl) rfl ?_
     refine OpZ.d ?_
     refine Ym rfl rfl ?_
     refine WD.nil ?_
     refine AnyZ.eager 4 rfl (by kernel_rfl) (Eag.pure tOk zOk rfl (fun _ _ _ => rfl) rfl rfl) ?_
     refine AnyZ.eager 10 rfl (by kernel_rfl) (Eag.pure tOk zOk rfl (fun _ _ _ => rfl) rfl rfl) ?_
     refine AnyZ.one 11 (by kernel_rfl) rfl ?_
     refine OpZ.d ?_
     refine D.store tOk rfl rfl rfl rfl rfl rfl rfl rfl ?_
     refine WD.nil ?_
     refine AnyZ.eager 12 rfl (by kernel_rfl) (Eag.pure tOk zOk rfl (fun _ _ _ => rfl) rfl rfl) ?_
     refine AnyZ.one 13 (by kernel_rfl) rfl ?_
     refine OpZ.d ?_
     refine D.store tOk rfl rfl rfl rfl rfl rfl rfl rfl ?_
     refine WD.nil ?_
     exact AnyZ.nil (by kernel_rfl) ⟨_, rfl, rfl, rfl, rfl, rfl, rfl, rfl, rfl, trivial⟩
    refine OpZ.d ?_
    refine Ym rfl rfl ?_
    refine WD.nil ?_
    refine AnyZ.two 1 6 (by kernel_rfl) rfl rfl ?_ ?_
    ·skip
     refine OpZ.d ?_
     refine Ym rfl rfl ?_
     refine WD.nil ?_
     refine AnyZ.eager 4 rfl (by kernel_rfl) (Eag.pure tOk zOk rfl (fun _ _ _ => rfl) rfl rfl) ?_
     refine AnyZ.one 6 (by kernel_rfl) rfl ?_
     refine OpZ.d ?_
     refine Ym rfl rfl ?_
     refine WD.nil ?_
     refine AnyZ.eager 9 rfl (by kernel_rfl) (Eag.pure tOk zOk rfl (fun _ _ _ => rfl) rfl rfl) ?_
     refine AnyZ.eager 10 rfl (by kernel_rfl) (Eag.pure tOk zOk rfl (fun _ _ _ => rfl) rfl rfl) ?_
     refine AnyZ.one 11 (by kernel_rfl) rfl ?_
     refine OpZ.d ?_
     refine D.store tOk rfl rfl rfl rfl rfl rfl rfl rfl ?_
     refine WD.nil ?_
     refine AnyZ.eager 12 rfl (by kernel_rfl) (Eag.pure tOk zOk rfl (fun _ _ _ => rfl) rfl rfl) ?_
     refine AnyZ.one 13 (by kernel_rfl) rfl ?_
     refine OpZ.d ?_
     refine D.store tOk rfl rfl rfl rfl rfl rfl rfl rfl ?_
     refine WD.nil ?_
     exact AnyZ.nil (by kernel_rfl) ⟨_, rfl, rfl, rfl, rfl, rfl, rfl, rfl, rfl, trivial⟩
    refine OpZ.d ?_
    refine Ym rfl rfl ?_
    refine WD.nil ?_
    refine AnyZ.eager 9 rfl (by kernel_rfl) (Eag.pure tOk zOk rfl (fun _ _ _ => rfl) rfl rfl) ?_
    refine AnyZ.one 1 (by kernel_rfl) rfl ?_
    refine OpZ.d ?_
    refine Ym rfl rfl ?_
    refine WD.nil ?_
    refine AnyZ.eager 4 rfl (by kernel_rfl) (Eag.pure tOk zOk rfl (fun _ _ _ => rfl) rfl rfl) ?_
    refine AnyZ.eager 10 rfl (by kernel_rfl) (Eag.pure tOk zOk rfl (fun _ _ _ => rfl) rfl rfl) ?_
    refine AnyZ.one 11 (by kernel_rfl) rfl ?_
    refine OpZ.d ?_
    refine D.store tOk rfl rfl rfl rfl rfl rfl rfl rfl ?_
    refine WD.nil ?_
    refine AnyZ.eager 12 rfl (by kernel_rfl) (Eag.pure tOk zOk rfl (fun _ _ _ => rfl) rfl rfl) ?_
    refine AnyZ.one 13 (by kernel_rfl) rfl ?_
    refine OpZ.d ?_
    refine D.store tOk rfl rfl rfl rfl rfl rfl rfl rfl ?_
    refine WD.nil ?_
    exact AnyZ.nil (by kernel_rfl) ⟨_, rfl, rfl, rfl, rfl, rfl, rfl, rfl, rfl, trivial⟩
   ·skip
    refine OpZ.d ?_
    refine Ym rfl rfl ?_
    refine WD.nil ?_
    refine AnyZ.three 1 3 8 (by kernel_rfl) rfl rfl rfl ?_ ?_ ?_
    ·skip
     refine OpZ.d ?_
     refine Ym rfl rfl ?_
     refine WD.nil ?_
     refine AnyZ.two 3 8 (by kernel_rfl) rfl rfl ?_ ?_
     ·skip
      refine OpZ.d ?_
      refine Ym rfl rfl ?_
      refine WD.nil ?_
      refine AnyZ.eager 4 rfl (by kernel_rfl) (Eag.pure tOk zOk rfl (fun _ _ _ => rfl) rfl rfl) ?_
      refine AnyZ.eager 10 rfl (by kernel_rfl) (Eag.pure tOk zOk rfl (fun _ _ _ => rfl) rfl rfl) ?_
      refine AnyZ.two 8 11 (by kernel_rfl) rfl rfl ?_ ?_
      ·skip
       refine OpZ.d ?_
       refine Ym rfl rfl ?_
       refine WD.nil ?_
       refine AnyZ.eager 9 rfl (by kernel_rfl) (Eag.pure tOk zOk rfl (fun _ _ _ => rfl) rfl rfl) ?_
       refine AnyZ.one 11 (by kernel_rfl) rfl ?_
       refine OpZ.d ?_
       refine D.store tOk rfl rfl rfl rfl rfl rfl rfl rfl ?_
       refine WD.nil ?_
       refine AnyZ.eager 12 rfl (by kernel_rfl) (Eag.pure tOk zOk rfl (fun _ _ _ => rfl) rfl rfl) ?_
       refine AnyZ.one 13 (by kernel_rfl) rfl ?_
       refine OpZ.d ?_
       refine D.store tOk rfl rfl rfl rfl rfl rfl rfl rfl ?_
       refine WD.nil ?_
       exact AnyZ.nil (by kernel_rfl) ⟨_, rfl, rfl, rfl, rfl, rfl, rfl, rfl, rfl, trivial⟩
      refine OpZ.d ?_
      refine D.store tOk rfl rfl rfl rfl rfl rfl rfl rfl ?_
      refine WD.nil ?_
      refine AnyZ.one 8 (by kernel_rfl) rfl ?_
      refine OpZ.d ?_
      refine Ym rfl rfl ?_
      refine WD.nil ?_
      refine AnyZ.eager 9 rfl (by kernel_rfl) (Eag.pure tOk zOk rfl (fun _ _ _ => rfl) rfl rfl) ?_
      refine AnyZ.eager 12 rfl (by kernel_rfl) (Eag.pure tOk zOk rfl (fun _ _ _ => rfl) rfl rfl) ?_
      refine AnyZ.one 13 (by kernel_rfl) rfl ?_
      refine OpZ.d ?_
      refine D.store tOk rfl rfl rfl rfl rfl rfl rfl rfl ?_
      refine WD.nil ?_
      exact AnyZ.nil (by kernel_rfl) ⟨_, rfl, rfl, rfl, rfl, rfl, rfl, rfl, rfl, trivial⟩
     refine OpZ.d ?_
     refine Ym rfl rfl ?_
     refine WD.nil ?_
     refine AnyZ.eager 9 rfl (by kernel_rfl) (Eag.pure tOk zOk rfl (fun _ _ _ => rfl) rfl rfl) ?_
     refine AnyZ.one 3 (by kernel_rfl) rfl ?_
     refine OpZ.d ?_
     refine Ym rfl rfl ?_
     refine WD.nil ?_
     refine AnyZ.eager 4 rfl (by kernel_rfl) (Eag.pure tOk zOk rfl (fun _ _ _ => rfl) rfl rfl) ?_
     refine AnyZ.eager 10 rfl (by kernel_rfl) (Eag.pure tOk zOk rfl (fun _ _ _ => rfl) rfl rfl) ?_
     refine AnyZ.one 11 (by kernel_rfl) rfl ?_
     refine OpZ.d ?_
     refine D.store tOk rfl rfl rfl rfl rfl rfl rfl rfl ?_
     refine WD.nil ?_
     refine AnyZ.eager 12 rfl (by kernel_rfl) (Eag.pure tOk zOk rfl (fun _ _ _ => rfl) rfl rfl) ?_
     refine AnyZ.one 13 (by kernel_rfl) rfl ?_
     refine OpZ.d ?_
     refine D.store tOk rfl rfl rfl rfl rfl rfl rfl rfl ?_
     refine WD.nil ?_
     exact AnyZ.nil (by kernel_rfl) ⟨_, rfl, rfl, rfl, rfl, rfl, rfl, rfl, rfl, trivial⟩
    ·skip
     refine OpZ.d ?_
     refine Ym rfl rfl ?_
     refine WD.nil ?_
     refine AnyZ.two 1 8 (by kernel_rfl) rfl rfl ?_ ?_
     ·skip
      refine OpZ.d ?_
      refine Ym rfl rfl ?_
      refine WD.nil ?_
      refine AnyZ.eager 4 rfl (by kernel_rfl) (Eag.pure tOk zOk rfl (fun _ _ _ => rfl) rfl rfl) ?_
      refine AnyZ.eager 10 rfl (by kernel_rfl) (Eag.pure tOk zOk rfl (fun _ _ _ => rfl) rfl rfl) ?_
      refine AnyZ.two 8 11 (by kernel_rfl) rfl rfl ?_ ?_
      ·skip
       refine OpZ.d ?_
       refine Ym rfl rfl ?_
       refine WD.nil ?_
       refine AnyZ.eager 9 rfl (by kernel_rfl) (Eag.pure tOk zOk rfl (fun _ _ _ => rfl) rfl rfl) ?_
       refine AnyZ.one 11 (by kernel_rfl) rfl ?_
       refine OpZ.d ?_
       refine D.store tOk rfl rfl rfl rfl rfl rfl rfl rfl ?_
       refine WD.nil ?_
       refine AnyZ.eager 12 rfl (by kernel_rfl) (Eag.pure tOk zOk rfl (fun _ _ _ => rfl) rfl rfl) ?_
       refine AnyZ.one 13 (by kernel_rfl) rfl ?_
       refine OpZ.d ?_
       refine D.store tOk rfl rfl rfl rfl rfl rfl rfl rfl ?_
       refine WD.nil ?_
       exact AnyZ.nil (by kernel_rfl) ⟨_, rfl, rfl, rfl, rfl, rfl, rfl, rfl, rfl, trivial⟩
      refine OpZ.d ?_
      refine D.store tOk rfl rfl rfl rfl rfl rfl rfl rfl ?_
      refine WD.nil ?_
      refine AnyZ.one 8 (by kernel_rfl) rfl ?_
      refine OpZ.d ?_
      refine Ym rfl rfl ?_
      refine WD.nil ?_
      refine AnyZ.eager 9 rfl (by kernel_rfl) (Eag.pure tOk zOk rfl (fun _ _ _ => rfl) rfl rfl) ?_
      refine AnyZ.eager 12 rfl (by kernel_rfl) (Eag.pure tOk zOk rfl (fun _ _ _ => rfl) rfl rfl) ?_
      refine AnyZ.one 13 (by kernel_rfl) rfl ?_
      refine OpZ.d ?_
      refine D.store tOk rfl rfl rfl rfl rfl rfl rfl rfl ?_
      refine WD.nil ?_
      exact AnyZ.nil (by kernel_rfl) ⟨_, rfl, rfl, rfl, rfl, rfl, rfl, rfl, rfl, trivial⟩
     refine OpZ.d ?_
     refine Ym rfl rfl ?_
     refine WD.nil ?_
     refine AnyZ.eager 9 rfl (by kernel_rfl) (Eag.pure tOk zOk rfl (fun _ _ _ => rfl) rfl rfl) ?_
     refine AnyZ.one 1 (by kernel_rfl) rfl ?_
     refine OpZ.d ?_
     refine Ym rfl rfl ?_
     refine WD.nil ?_
     refine AnyZ.eager 4 rfl (by kernel_rfl) (Eag.pure tOk zOk rfl (fun _ _ _ => rfl) rfl rfl) ?_
     refine AnyZ.eager 10 rfl (by kernel_rfl) (Eag.pure tOk zOk rfl (fun _ _ _ => rfl) rfl rfl) ?_
     refine AnyZ.one 11 (by kernel_rfl) rfl ?_
     refine OpZ.d ?_
     refine D.store tOk rfl rfl rfl rfl rfl rfl rfl rfl ?_
     refine WD.nil ?_
     refine AnyZ.eager 12 rfl (by kernel_rfl) (Eag.pure tOk zOk rfl (fun _ _ _ => rfl) rfl rfl) ?_
     refine AnyZ.one 13 (by kernel_rfl) rfl ?_
     refine OpZ.d ?_
     refine D.store tOk rfl rfl rfl rfl rfl rfl rfl rfl ?_
     refine WD.nil ?_
     exact AnyZ.nil (by kernel_rfl) ⟨_, rfl, rfl, rfl, rfl, rfl, rfl, rfl, rfl, trivial⟩
    refine OpZ.d ?_
    refine Ym rfl rfl ?_
    refine WD.nil ?_
    refine AnyZ.eager 9 rfl (by kernel_rfl) (Eag.pure tOk zOk rfl (fun _ _ _ => rfl) rfl rfl) ?_
    refine AnyZ.two 1 3 (by kernel_rfl) rfl rfl ?_ ?_
    ·skip
     refine OpZ.d ?_
     refine Ym rfl rfl ?_
     refine WD.nil ?_
     refine AnyZ.one 3 (by kernel_rfl) rfl ?_
     refine OpZ.d ?_
     refine Ym rfl rfl ?_
     refine WD.nil ?_
     refine AnyZ.eager 4 rfl (by kernel_rfl) (Eag.pure tOk zOk rfl (fun _ _ _ => rfl) rfl rfl) ?_
     refine AnyZ.eager 10 rfl (by kernel_rfl) (Eag.pure tOk zOk rfl (fun _ _ _ => rfl) rfl rfl) ?_
     refine AnyZ.one 11 (by kernel_rfl) rfl ?_
     refine OpZ.d ?_
     refine D.store tOk rfl rfl rfl rfl rfl rfl rfl rfl ?_
     refine WD.nil ?_
     refine AnyZ.eager 12 rfl (by kernel_rfl) (Eag.pure tOk zOk rfl (fun _ _ _ => rfl) rfl rfl) ?_
     refine AnyZ.one 13 (by kernel_rfl) rfl ?_
     refine OpZ.d ?_
     refine D.store tOk rfl rfl rfl rfl rfl rfl rfl rfl ?_
     refine WD.nil ?_
     exact AnyZ.nil (by kernel_rfl) ⟨_, rfl, rfl, rfl, rfl, rfl, rfl, rfl, rfl, trivial⟩
    refine OpZ.d ?_
    refine Ym rfl rfl ?_
    refine WD.nil ?_
    refine AnyZ.one 1 (by kernel_rfl) rfl ?_
    refine OpZ.d ?_
    refine Ym rfl rfl ?_
    refine WD.nil ?_
    refine AnyZ.eager 4 rfl (by kernel_rfl) (Eag.pure tOk zOk rfl (fun _ _ _ => rfl) rfl rfl) ?_
    refine AnyZ.eager 10 rfl (by kernel_rfl) (Eag.pure tOk zOk rfl (fun _ _ _ => rfl) rfl rfl) ?_
    refine AnyZ.one 11 (by kernel_rfl) rfl ?_
    refine OpZ.d ?_
    refine D.store tOk rfl rfl rfl rfl rfl rfl rfl rfl ?_
    refine WD.nil ?_
    refine AnyZ.eager 12 rfl (by kernel_rfl) (Eag.pure tOk zOk rfl (fun _ _ _ => rfl) rfl rfl) ?_
    refine AnyZ.one 13 (by kernel_rfl) rfl ?_
    refine OpZ.d ?_
    refine D.store tOk rfl rfl rfl rfl rfl rfl rfl rfl ?_
    refine WD.nil ?_
    exact AnyZ.nil (by kernel_rfl) ⟨_, rfl, rfl, rfl, rfl, rfl, rfl, rfl, rfl, trivial⟩
   refine OpZ.d ?_
   refine Ym rfl rfl ?_
   refine WD.nil ?_
   refine AnyZ.three 1 3 6 (by kernel_rfl) rfl rfl rfl ?_ ?_ ?_
   ·skip
    refine OpZ.d ?_
    refine Ym rfl rfl ?_
    refine WD.nil ?_
    refine AnyZ.two 3 6 (by kernel_rfl) rfl rfl ?_ ?_
    ·skip
     refine OpZ.d ?_
     refine Ym rfl rfl ?_
     refine WD.nil ?_
     refine AnyZ.eager 4 rfl (by kernel_rfl) (Eag.pure tOk zOk rfl (fun _ _ _ => rfl) rfl rfl) ?_
     refine AnyZ.one 6 (by kernel_rfl) rfl ?_
     refine OpZ.d ?_
     refine Ym rfl rfl ?_
     refine WD.nil ?_
     refine AnyZ.eager 9 rfl (by kernel_rfl) (Eag.pure tOk zOk rfl (fun _ _ _ => rfl) rfl rfl) ?_
     refine AnyZ.eager 10 rfl (by kernel_rfl) (Eag.pure tOk zOk rfl (fun _ _ _ => rfl) rfl rfl) ?_
     refine AnyZ.one 11 (by kernel_rfl) rfl ?_
     refine OpZ.d ?_
     refine D.store tOk rfl rfl rfl rfl rfl rfl rfl rfl ?_
     refine WD.nil ?_
     refine AnyZ.eager 12 rfl (by kernel_rfl) (Eag.pure tOk zOk rfl (fun _ _ _ => rfl) rfl rfl) ?_
     refine AnyZ.one 13 (by kernel_rfl) rfl ?_
     refine OpZ.d ?_
     refine D.store tOk rfl rfl rfl rfl rfl rfl rfl rfl ?_
     refine WD.nil ?_
     exact AnyZ.nil (by kernel_rfl) ⟨_, rfl, rfl, rfl, rfl, rfl, rfl, rfl, rfl, trivial⟩
    refine OpZ.d ?_
    refine Ym rfl rfl ?_
    refine WD.nil ?_
    refine AnyZ.eager 9 rfl (by kernel_rfl) (Eag.pure tOk zOk rfl (fun _ _ _ => rfl) rfl rfl) ?_
    refine AnyZ.one 3 (by kernel_rfl) rfl ?_
    refine OpZ.d ?_
    refine Ym rfl rfl ?_
    refine WD.nil ?_
    refine AnyZ.eager 4 rfl (by kernel_rfl) (Eag.pure tOk zOk rfl (fun _ _ _ => rfl) rfl rfl) ?_
    refine AnyZ.eager 10 rfl (by kernel_rfl) (Eag.pure tOk zOk rfl (fun _ _ _ => rfl) rfl rfl) ?_
    refine AnyZ.one 11 (by kernel_rfl) rfl ?_
    refine OpZ.d ?_
    refine D.store tOk rfl rfl rfl rfl rfl rfl rfl rfl ?_
    refine WD.nil ?_
    refine AnyZ.eager 12 rfl (by kernel_rfl) (Eag.pure tOk zOk rfl (fun _ _ _ => rfl) rfl rfl) ?_
    refine AnyZ.one 13 (by kernel_rfl) rfl ?_
    refine OpZ.d ?_
    refine D.store tOk rfl rfl rfl rfl rfl rfl rfl rfl ?_
    refine WD.nil ?_
    exact AnyZ.nil (by kernel_rfl) ⟨_, rfl, rfl, rfl, rfl, rfl, rfl, rfl, rfl, trivial⟩
   ·skip
    refine OpZ.d ?_
    refine Ym rfl rfl ?_
    refine WD.nil ?_
    refine AnyZ.two 1 6 (by kernel_rfl) rfl rfl ?_ ?_
    ·skip
     refine OpZ.d ?_
     refine Ym rfl rfl ?_
     refine WD.nil ?_
     refine AnyZ.eager 4 rfl (by kernel_rfl) (Eag.pure tOk zOk rfl (fun _ _ _ => rfl) rfl rfl) ?_
     refine AnyZ.one 6 (by kernel_rfl) rfl ?_
     refine OpZ.d ?_
     refine Ym rfl rfl ?_
     refine WD.nil ?_
     refine AnyZ.eager 9 rfl (by kernel_rfl) (Eag.pure tOk zOk rfl (fun _ _ _ => rfl) rfl rfl) ?_
     refine AnyZ.eager 10 rfl (by kernel_rfl) (Eag.pure tOk zOk rfl (fun _ _ _ => rfl) rfl rfl) ?_
     refine AnyZ.one 11 (by kernel_rfl) rfl ?_
     refine OpZ.d ?_
     refine D.store tOk rfl rfl rfl rfl rfl rfl rfl rfl ?_
     refine WD.nil ?_
     refine AnyZ.eager 12 rfl (by kernel_rfl) (Eag.pure tOk zOk rfl (fun _ _ _ => rfl) rfl rfl) ?_
     refine AnyZ.one 13 (by kernel_rfl) rfl ?_
     refine OpZ.d ?_
     refine D.store tOk rfl rfl rfl rfl rfl rfl rfl rfl ?_
     refine WD.nil ?_
     exact AnyZ.nil (by kernel_rfl) ⟨_, rfl, rfl, rfl, rfl, rfl, rfl, rfl, rfl, trivial⟩
    refine OpZ.d ?_
    refine Ym rfl rfl ?_
    refine WD.nil ?_
    refine AnyZ.eager 9 rfl (by kernel_rfl) (Eag.pure tOk zOk rfl (fun _ _ _ => rfl) rfl rfl) ?_
    refine AnyZ.one 1 (by kernel_rfl) rfl ?_
    refine OpZ.d ?_
    refine Ym rfl rfl ?_
    refine WD.nil ?_
    refine AnyZ.eager 4 rfl (by kernel_rfl) (Eag.pure tOk zOk rfl (fun _ _ _ => rfl) rfl rfl) ?_
    refine AnyZ.eager 10 rfl (by kernel_rfl) (Eag.pure tOk zOk rfl (fun _ _ _ => rfl) rfl rfl) ?_
    refine AnyZ.one 11 (by kernel_rfl) rfl ?_
    refine OpZ.d ?_
    refine D.store tOk rfl rfl rfl rfl rfl rfl rfl rfl ?_
    refine WD.nil ?_
    refine AnyZ.eager 12 rfl (by kernel_rfl) (Eag.pure tOk zOk rfl (fun _ _ _ => rfl) rfl rfl) ?_
    refine AnyZ.one 13 (by kernel_rfl) rfl ?_
    refine OpZ.d ?_
    refine D.store tOk rfl rfl rfl rfl rfl rfl rfl rfl ?_
    refine WD.nil ?_
    exact AnyZ.nil (by kernel_rfl) ⟨_, rfl, rfl, rfl, rfl, rfl, rfl, rfl, rfl, trivial⟩
   refine OpZ.d ?_
   refine Ym rfl rfl ?_
   refine WD.nil ?_
   refine AnyZ.eager 9 rfl (by kernel_rfl) (Eag.pure tOk zOk rfl (fun _ _ _ => rfl) rfl rfl) ?_
   refine AnyZ.two 1 3 (by kernel_rfl) rfl rfl ?_ ?_
   ·skip
    refine OpZ.d ?_
    refine Ym rfl rfl ?_
    refine WD.nil ?_
    refine AnyZ.one 3 (by kernel_rfl) rfl ?_
    refine OpZ.d ?_
    refine Ym rfl rfl ?_
    refine WD.nil ?_
    refine AnyZ.eager 4 rfl (by kernel_rfl) (Eag.pure tOk zOk rfl (fun _ _ _ => rfl) rfl rfl) ?_
    refine AnyZ.eager 10 rfl (by kernel_rfl) (Eag.pure tOk zOk rfl (fun _ _ _ => rfl) rfl rfl) ?_
    refine AnyZ.one 11 (by kernel_rfl) rfl ?_
    refine OpZ.d ?_
    refine D.store tOk rfl rfl rfl rfl rfl rfl rfl rfl ?_
    refine WD.nil ?_
    refine AnyZ.eager 12 rfl (by kernel_rfl) (Eag.pure tOk zOk rfl (fun _ _ _ => rfl) rfl rfl) ?_
    refine AnyZ.one 13 (by kernel_rfl) rfl ?_
    refine OpZ.d ?_
    refine D.store tOk rfl rfl rfl rfl rfl rfl rfl rfl ?_
    refine WD.nil ?_
    exact AnyZ.nil (by kernel_rfl) ⟨_, rfl, rfl, rfl, rfl, rfl, rfl, rfl, rfl, trivial⟩
   refine OpZ.d ?_
   refine Ym rfl rfl ?_
   refine WD.nil ?_
   refine AnyZ.one 1 (by kernel_rfl) rfl ?_
   refine OpZ.d ?_
   refine Ym rfl rfl ?_
   refine WD.nil ?_
   refine AnyZ.eager 4 rfl (by kernel_rfl) (Eag.pure tOk zOk rfl (fun _ _ _ => rfl) rfl rfl) ?_
   refine AnyZ.eager 10 rfl (by kernel_rfl) (Eag.pure tOk zOk rfl (fun _ _ _ => rfl) rfl rfl) ?_
   refine AnyZ.one 11 (by kernel_rfl) rfl ?_
   refine OpZ.d ?_
   refine D.store tOk rfl rfl rfl rfl rfl rfl rfl rfl ?_
   refine WD.nil ?_
   refine AnyZ.eager 12 rfl (by kernel_rfl) (Eag.pure tOk zOk rfl (fun _ _ _ => rfl) rfl rfl) ?_
   refine AnyZ.one 13 (by kernel_rfl) rfl ?_
   refine OpZ.d ?_
   refine D.store tOk rfl rfl rfl rfl rfl rfl rfl rfl ?_
   refine WD.nil ?_
   exact AnyZ.nil (by kernel_rfl) ⟨_, rfl, rfl, rfl, rfl, rfl, rfl, rfl, rfl, trivial⟩
  rintro _ ⟨tj0, rfl, hj0⟩
  apply Yn
  refine W.keep _ hj0 ?_
  apply Y1
  iterate 4 refine Yp rfl ?_
  apply Yn
  apply Yb
  refine W.loop (fun k st => ∃ j : Nat, ∃ y : List Ofr, ∃ v2 : Nat, ∃ al2 : Bool, j ≤ (l.getD i Fed.z).of.length ∧ y = insTo x.of (l.getD i Fed.z).of j ∧ k = (l.getD i Fed.z).of.length - j ∧ ∃ t b2 r2 m2, st = ⟨t, [[.d (.str (mrgP l).1.ch), .d (.int .i64 (mrgP l).1.se), .d (.int .i64 (mrgP l).1.ti), .d (.vec 18 ((mrgP l).1.of.map ofrD))], [.d (.str x.ch), .d (.int .i64 (mxI x.se (l.getD i Fed.z).se)), .d (.int .i64 (mxI x.ti (l.getD i Fed.z).ti)), .row 0 v2 0 (y.map ofrD).length], [.d (.str (l.getD i Fed.z).ch), .d (.int .i64 (l.getD i Fed.z).se), .d (.int .i64 (l.getD i Fed.z).ti), .d (.vec 18 ((l.getD i Fed.z).of.map ofrD))]] ++ b2, [some ⟨al2, v2, 18, 72, y.map ofrD⟩] ++ r2, [] ++ m2⟩ ∧ holdsL t [(3, .one (.ptr 0 0)), (4, .one (.d (.int .i64 (mrgP l).2))), (8, .one (.ptr 1 0)), (10, .one (.ptr 2 0)), (63, .one (.d (.vec 4 (l.map fedD)))), (64, .one (.d (.int .i64 ((l.map fedD).length : Int)))), (65, .one (.d (.int .i64 (i : Int)))), (82, .one (.d (.vec 18 ((l.getD i Fed.z).of.map ofrD)))), (83, .one (.d (.int .i64 (((l.getD i Fed.z).of.map ofrD).length : Int)))), (84, .one (.d (.int .i64 (j : Int))))]) ((l.getD i Fed.z).of.length) ⟨0, x.of, _, _, Nat.zero_le _, (insTo_0 _ _).symm, rfl, _, _, _, _, rfl, rfl, rfl, rfl, rfl, rfl, rfl, rfl, rfl, rfl, rfl, trivial⟩ ?_
  rintro k4 _ ⟨j, y, v2, al2, f4_0, f4_1, rfl, t4, bb4, rr4, mm4, rfl, hh4⟩
  refine W.keepR _ _ _ _ _ _ _ hh4 rfl ?_
  refine W.reVer (l := [(3, .one (.ptr 0 0)), (4, .one (.d (.int .i64 (mrgP l).2))), (8, .one (.ptr 1 0)), (10, .one (.ptr 2 0)), (63, .one (.d (.vec 4 (l.map fedD)))), (64, .one (.d (.int .i64 ((l.map fedD).length : Int)))), (65, .one (.d (.int .i64 (i : Int)))), (82, .one (.d (.vec 18 ((l.getD i Fed.z).of.map ofrD)))), (83, .one (.d (.int .i64 (((l.getD i Fed.z).of.map ofrD).length : Int)))), (84, .one (.d (.int .i64 (j : Int))))]) (b := [[.d (.str (mrgP l).1.ch), .d (.int .i64 (mrgP l).1.se), .d (.int .i64 (mrgP l).1.ti), .d (.vec 18 ((mrgP l).1.of.map ofrD))], [.d (.str x.ch), .d (.int .i64 (mxI x.se (l.getD i Fed.z).se)), .d (.int .i64 (mxI x.ti (l.getD i Fed.z).ti)), .row 0 0 0 (y.map ofrD).length], [.d (.str (l.getD i Fed.z).ch), .d (.int .i64 (l.getD i Fed.z).se), .d (.int .i64 (l.getD i Fed.z).ti), .d (.vec 18 ((l.getD i Fed.z).of.map ofrD))]]) 0 rfl rfl rfl rfl rfl ?_
  apply Y1
  refine Yp rfl ?_
  apply Yn
  apply Ys
  refine W.cond rfl (fun c4=>?_) fun c4=>?_
  ·skip
   have hj := row_lt (by assumption)
   have hoj := hfi.o _ (mem_getD (d := Ofr.z) hj)
   have hylen := y_len hok h20 hi f2_1 f4_0 f4_1
   have hym := y_mem hi f2_1 f4_0 f4_1
   have hyo : ∀ a ∈ y, OfrOk a := fun a ha => by
    obtain ⟨f, h1, h2⟩ := hym a ha
    exact (hl f h1).o a h2
   have hyz : ∀ a ∈ y, offerE a = 0 := fun a ha => by
    obtain ⟨f, h1, h2⟩ := hym a ha
    exact hok.o f h1 a h2
   have hoz := hok.o _ (mem_getD (d := Fed.z) hi) _ (mem_getD (d := Ofr.z) hj)
   apply Yk
   apply Yn
   apply Ys
   apply Yb
   apply Y1
   refine YE rfl (row_ok hj) (row_at Ofr.z hj) rfl ?_
   iterate 7 first|refine Yp rfl ?_|refine S.store tOk rfl rfl rfl rfl rfl rfl rfl rfl ?_|refine S.alloc tOk rfl rfl rfl rfl ?_|apply Y3
   refine S.callV rfl rfl rfl rfl rfl rfl (pc_bsW 22 (fun a => cmpO a ((l.getD i Fed.z).of.getD j Ofr.z)) y (by omega) ((l.getD i Fed.z).of.getD j Ofr.z) (fun a ha => by
   rw [← cmp_OR (hyz a ha) hoz]; exact pc_cmpR a ((l.getD i Fed.z).of.getD j Ofr.z) (hyo a ha) hoj)) ?_
   iterate 9 first|refine Yp rfl ?_|apply Y3|apply Yn
   refine W.cond rfl (fun c5=>?_) fun c5=>?_
   ·skip
    have hg : (!fndO (fun a => cmpO a ((l.getD i Fed.z).of.getD j Ofr.z)) y) = true := (by assumption)
    apply Yr
    iterate 4 refine Yp rfl ?_
    refine S.sliceOwn tOk rfl rfl rfl rfl rfl rfl ?_
    refine S.insertRow rfl rfl rfl insO rfl rfl rfl rfl ins_pos (ins_bytes hylen) (by rw [List.length_map]; omega) (ins_rows hg) rfl ?_
    iterate 6 first|refine Yp rfl ?_|apply Yw|refine S.store tOk rfl rfl rfl rfl rfl rfl rfl rfl ?_|apply Y4
    refine loop_n ((l.getD i Fed.z).of.length - (j + 1)) (by omega) ⟨j + 1, insP y ((l.getD i Fed.z).of.getD j Ofr.z), _, _, hj, (by rw [f4_1]; exact insTo_s hj), rfl, _, _, _, _, rfl, rfl, rfl, rfl, rfl, rfl, rfl, rfl, rfl, rfl, inc_i64 (by omega), trivial⟩
   have hg : (!fndO (fun a => cmpO a ((l.getD i Fed.z).of.getD j Ofr.z)) y) = false := (by assumption)
   iterate 5 first|refine Yp rfl ?_|apply Yw|apply Yk|apply Y4
   refine loop_n ((l.getD i Fed.z).of.length - (j + 1)) (by omega) ⟨j + 1, y, _, _, hj, ((ins_y hg).symm.trans (by rw [f4_1]; exact insTo_s hj)), rfl, _, _, _, _, rfl, rfl, rfl, rfl, rfl, rfl, rfl, rfl, rfl, rfl, inc_i64 (by omega), trivial⟩
  have hj := row_ge (by assumption)
  have hnx := m_next hi f2_1 hj f4_0 f4_1
  iterate 8 first|refine Yp rfl ?_|apply Ye|apply Yw|apply Yx|apply Yq|apply Y4
  refine loop_n (l.length - (i + 1)) (by omega) ⟨i + 1, ⟨x.ch, mxI x.se (l.getD i Fed.z).se, mxI x.ti (l.getD i Fed.z).ti, y⟩, _, _, hi, hnx, rfl, _, _, _, _, rfl, rfl, rfl, rfl, rfl, rfl, inc_i64 (by omega), trivial⟩
 have hi := row_ge (by assumption)
 obtain rfl : i = l.length := by omega
 subst f2_1
 iterate 7 first|apply Ye|apply Yx|apply Yq|apply Ys|apply Yn
 refine W.freezeB (ri := 0) (q := ⟨_, _, _, _, _⟩) 1 3 rfl rfl rfl rfl ?_
 apply Yr
 iterate 4 refine Yp rfl ?_
 apply Yn
 refine W.cond rfl (fun c6=>?_) fun c6=>?_
 ·skip
  have h4 := big_h (by assumption)
  have hm := mp_l hc1 h20 hb h4
  apply Y1
  refine Yp rfl ?_
  refine S.call rfl rfl rfl rfl rfl (pc_noFeedE (mrgP l).1 (by rw [hm])) ?_
  iterate 8 first|refine S.pickAnd tOk zOk rfl rfl tg ?_|refine Yp rfl ?_|refine Yg rfl rfl tg ?_|apply Yu|apply Yt|apply Yn
  exact Yz rfl rfl rfl (by rw [hm]; simp)
 have h4 := big_h (by assumption)
 have hm := mp_o hc1 h20 hb h4
 iterate 7 first|refine Yp rfl ?_|refine Yg rfl rfl tg ?_|apply Yk|apply Y3
 refine S.callG rfl rfl rfl rfl tg rfl rfl (fun _ => pc_SameFeedE (mrgP l).1 (mTo l l.length) (by rw [hm]) (by have := x_len hok h20; omega) (fun a ha => by
   obtain ⟨f, h1, h2⟩ := mTo_mem (Nat.le_refl _) a ha
   exact (hl f h1).o a h2)) ?_
 refine S.pickAnd tOk zOk rfl rfl tg ?_
 refine Yp rfl ?_
 apply Yn
 apply Yt
 exact Yz rfl rfl rfl (by rw [hm]; simp)
end
end Go.Proofs.YtpelfildfidnbaaGreatDoor
