/- Part 2 of a proof: W2, V3, W3, P1, V4, W4, V5, W5, V6, L3, W6, W7, V7, W8, V8, W9, V9, W10, W11, V10, V11, V12, V13, V14, V15, V16, V21, W30, V22, V23, V24, V25, V26, V27, V28. -/
import Derived.Lib.ItoaLen
import Derived.Lib.SlTrimSet
import Derived.Lib.IndexMore
import Derived.Lib.AtoiTie
import Derived.Lib.Join
import Derived.Test.YtpelfildfidnbaaGreatDoorMCMergesMatch1
set_option linter.unusedVariables false
set_option linter.unusedSimpArgs false
set_option maxRecDepth 100000
set_option maxHeartbeats 4000000
namespace Go.Proofs.YtpelfildfidnbaaGreatDoor
section
open Go
open Go.RowKit
attribute [local irreducible] thenK blockK W
theorem pc_ver_Check (v : Ver) (he : v.e.length < 4294967281) :
  PureCall Tryz.prog J 77 [verV v] (.one (.d (.int .i64 v.check))) := by
 refine PureCall.of_body tOk (fn := Tryz.f77) Tryz.func77 (by kernel_rfl) rfl (Nat.le_of_ble_eq_true rfl) (fun E => ?_)
 iterate 16 first|refine Yp rfl ?_|apply Yb|refine S.box rfl rfl rfl rfl ?_|apply Y1|apply Yn|apply Ys
 refine W.rounds 4 ?_
 refine WR.succ ?_
 apply Y1
 refine Yp rfl ?_
 apply Yn
 apply Ys
 refine W.condT rfl rfl ?_
 apply Yk
 apply Yn
 apply Ys
 apply Yb
 apply Y1
 refine YP rfl (by first | rfl | exact idx_ok (by omega) (by omega)) rfl ?_
 iterate 3 first|refine Yp rfl ?_|apply Y3
 refine S.call rfl rfl rfl rfl rfl (pc_ver_outside _ _ _) ?_
 apply Yn
 refine W.cond rfl (fun c2=>?_) fun c2=>?_
 ·skip
  iterate 9 first|apply Yu|apply Yv|apply Yt|refine Yp rfl ?_|apply Y1|apply Yn
  exact Yz rfl rfl rfl (by simp_all [Ver.check, checkB, outsideN])
 apply Yk
 apply Yw
 apply Y4
 iterate 2 refine Yp rfl ?_
 apply Yn
 refine WR.succ ?_
 apply Y1
 refine Yp rfl ?_
 apply Yn
 apply Ys
 refine W.condT rfl rfl ?_
 apply Yk
 apply Yn
 apply Ys
 apply Yb
 apply Y1
 refine YP rfl (by first | rfl | exact idx_ok (by omega) (by omega)) rfl ?_
 iterate 3 first|refine Yp rfl ?_|apply Y3
 refine S.call rfl rfl rfl rfl rfl (pc_ver_outside _ _ _) ?_
 apply Yn
 refine W.cond rfl (fun c4=>?_) fun c4=>?_
 ·skip
  iterate 9 first|apply Yu|apply Yv|apply Yt|refine Yp rfl ?_|apply Y1|apply Yn
  exact Yz rfl rfl rfl (by simp_all [Ver.check, checkB, outsideN])
 apply Yk
 apply Yw
 apply Y4
 iterate 2 refine Yp rfl ?_
 apply Yn
 refine WR.succ ?_
 apply Y1
 refine Yp rfl ?_
 apply Yn
 apply Ys
 refine W.condT rfl rfl ?_
 apply Yk
 apply Yn
 apply Ys
 apply Yb
 apply Y1
 refine YP rfl (by first | rfl | exact idx_ok (by omega) (by omega)) rfl ?_
 iterate 3 first|refine Yp rfl ?_|apply Y3
 refine S.call rfl rfl rfl rfl rfl (pc_ver_outside _ _ _) ?_
 apply Yn
 refine W.cond rfl (fun c6=>?_) fun c6=>?_
 ·skip
  iterate 9 first|apply Yu|apply Yv|apply Yt|refine Yp rfl ?_|apply Y1|apply Yn
  exact Yz rfl rfl rfl (by simp_all [Ver.check, checkB, outsideN])
 apply Yk
 apply Yw
 apply Y4
 iterate 2 refine Yp rfl ?_
 apply Yn
 refine WR.succ ?_
 apply Y1
 refine Yp rfl ?_
 apply Yn
 apply Ys
 refine W.condF rfl rfl ?_
 iterate 13 first|refine Yp rfl ?_|refine Yg rfl rfl tg ?_|apply Ye|apply Yx|apply Yq|apply Y1|apply Ys|apply Yn
 refine S.callG rfl rfl rfl rfl tg rfl rfl (fun _ => pc_ver_isEarly _ (by omega)) ?_
 refine Yg rfl rfl tg ?_
 refine S.pickAnd tOk zOk rfl rfl tg ?_
 apply Yn
 refine W.cond rfl (fun c8=>?_) fun c8=>?_
 ·skip
  apply Y1
  refine Yp rfl ?_
  apply Yn
  apply Yt
  apply Yu
  exact Yz rfl rfl rfl (by simp_all [Ver.check, checkB, outsideN])
 apply Yk
 apply Y3
 refine Yp rfl ?_
 apply Yn
 apply Yt
 exact Yz rfl rfl rfl (by simp_all [Ver.check, checkB, outsideN])
theorem pc_ver_number (s : List UInt8) (hs : s.length < 4294967281) :
  PureCall Tryz.prog J 320 [.one (.d (.str s))] (.tup [.one (.d (.int .i64 (numB s).1)), .one (.d (.bool (numB s).2))]) := by
 refine PureCall.of_body tOk (fn := Tryz.f320) Tryz.func320 (by kernel_rfl) rfl (Nat.le_of_ble_eq_true rfl) (fun E => ?_)
 iterate 7 first|refine Yp rfl ?_|apply Y1|apply Ys|apply Yn
 refine S.call rfl rfl rfl rfl rfl (pc_ver_each _ _ _ _ (by omega) (fun c => pc_ver_isDigit c)) ?_
 iterate 2 refine Yp rfl ?_
 refine Yg rfl rfl tg ?_
 refine YG rfl rfl tg (fun h => idx_ok (Int.le_refl _) (eachB_pos (by simpa using h))) rfl ?_
 iterate 4 refine Yg rfl rfl tg ?_
 refine S.pickAndG tOk zOk rfl rfl rfl tg tg ?_
 refine S.pickOr tOk zOk rfl rfl tg ?_
 apply Yn
 refine W.cond rfl (fun c1=>?_) fun c1=>?_
 ·skip
  iterate 6 first|refine Yp rfl ?_|apply Yu|apply Yt|apply Y1|apply Yn
  exact Yz rfl rfl rfl (by rw [show numB s = (0, false) from if_pos c1]; rfl)
 apply Yk
 apply Y3
 refine Yp rfl ?_
 refine S.call rfl rfl rfl rfl rfl (pc_Atoi _ (by omega)) ?_
 iterate 5 refine Yp rfl ?_
 apply Yn
 apply Ys
 refine W.regionD mixed (by kernel_rfl) ?_
 iterate 5 refine Ym rfl rfl ?_
 apply Yn
 apply Yt
 exact Yz rfl rfl rfl (by rw [show numB s = (atoiV s, atoiOk s) from if_neg (Bool.eq_false_iff.1 c1)])
theorem pc_cmp_Or_int_ (xs : List Int) (hl : xs.length ≤ 1000000) :
  PureCall Tryz.prog J 67 [.one (.d (.vec 1 (xs.map fun x => [.int .i64 x])))] (.one (.d (.int .i64 (firstNe xs)))) := by
 refine PureCall.of_body tOk (fn := Tryz.f67) Tryz.func67 (by kernel_rfl) rfl (Nat.le_of_ble_eq_true rfl) (fun E => ?_)
 iterate 12 first|refine Yp rfl ?_|apply Yb|apply Y1|apply Y3|apply Yn|apply Ys
 refine W.loop (fun k st => ∃ i : Nat, i ≤ xs.length ∧ (xs.take i).all (· == 0) = true ∧ k = xs.length - i ∧ ∃ t b2 r2 m2, st = ⟨t, [] ++ b2, [] ++ r2, [] ++ m2⟩ ∧ holdsL t [(3, .one (.d (.int .i64 0))), (6, .one (.d (.vec 1 (xs.map fun x => [.int .i64 x])))), (7, .one (.d (.int .i64 ((xs.map fun x => ([.int .i64 x] : List D)).length : Int)))), (8, .one (.d (.int .i64 (i : Int))))]) (xs.length) ⟨0, Nat.zero_le _, by simp, rfl, _, _, _, _, rfl, rfl, rfl, rfl, rfl, trivial⟩ ?_
 rintro k0 _ ⟨i, f0_0, f0_1, rfl, t0, bb0, rr0, mm0, rfl, hh0⟩
 refine W.keepR _ _ _ _ _ _ _ hh0 rfl ?_
 apply Y1
 refine Yp rfl ?_
 apply Yn
 apply Ys
 refine W.cond rfl (fun c1=>?_) fun c1=>?_
 ·skip
  have hi := row_lt c1
  apply Yk
  apply Yn
  apply Ys
  apply Yb
  apply Y1
  refine YE rfl (row_ok hi) (row_at 0 hi) rfl ?_
  iterate 7 first|refine Yp rfl ?_|apply Y3|apply Yn
  refine W.cond rfl (fun c2=>?_) fun c2=>?_
  ·skip
   iterate 10 first|apply Yu|apply Yv|refine Yp rfl ?_|apply Yt|apply Y1|apply Yn
   exact Yz rfl rfl rfl (by rw [firstNe_hit hi f0_1 (by simpa using c2)])
  apply Yk
  apply Yw
  apply Y4
  iterate 2 refine Yp rfl ?_
  refine loop_n (xs.length - (i + 1)) (by omega) ⟨i + 1, hi, all_take_succ (d := 0) hi f0_1 (by simpa using c2), rfl, _, _, _, _, rfl, rfl, rfl, rfl, inc_i64 (by omega), trivial⟩
 have hi := row_ge c1
 iterate 9 first|refine Yp rfl ?_|apply Ye|apply Yt|apply Yx|apply Yq|apply Y3|apply Yn
 exact Yz rfl rfl rfl (by rw [firstNe_none hi f0_1])
theorem pc_ver_compareWords (a b : List UInt8) (ha : a.length < 4294967281) (hb : b.length < 4294967281) :
  PureCall Tryz.prog J 198 [.one (.d (.str a)), .one (.d (.str b))] (.one (.d (.int .i64 (cwB a b)))) := by
 refine PureCall.of_body tOk (fn := Tryz.f198) Tryz.func198 (by kernel_rfl) rfl (Nat.le_of_ble_eq_true rfl) (fun E => ?_)
 iterate 4 first|refine Yp rfl ?_|apply Y3|apply Y1
 refine S.call rfl rfl rfl rfl rfl (pc_ver_isNumeral _ (by omega)) ?_
 refine Yp rfl ?_
 refine S.call rfl rfl rfl rfl rfl (pc_ver_isNumeral _ (by omega)) ?_
 iterate 12 first|refine S.pickAnd tOk zOk rfl rfl tg ?_|refine Yp rfl ?_|refine Yg rfl rfl tg ?_|apply Yb|apply Y1|apply Yn|apply Ys
 refine W.cond rfl (fun c1=>?_) fun c1=>?_
 ·skip
  apply Y1
  iterate 5 refine Yp rfl ?_
  apply Yn
  refine W.cond rfl (fun c2=>?_) fun c2=>?_
  ·skip
   apply Y1
   iterate 4 refine Yp rfl ?_
   refine S.call rfl rfl rfl rfl rfl (pc_cmpInt _ _) ?_
   refine Yp rfl ?_
   apply Yn
   apply Yt
   apply Yv
   apply Yu
   exact Yz rfl rfl rfl (by simp_all [cwB])
  apply Yk
  apply Yw
  apply Y3
  iterate 2 refine Yp rfl ?_
  refine S.call rfl rfl rfl rfl rfl (pc_Compare _ _) ?_
  refine Yp rfl ?_
  apply Yn
  apply Yt
  exact Yz rfl rfl rfl (by simp_all [cwB])
 apply Y1
 iterate 2 refine Yp rfl ?_
 apply Yn
 refine W.cond rfl (fun c3=>?_) fun c3=>?_
 ·skip
  apply Y1
  refine Yp rfl ?_
  apply Yn
  apply Yt
  apply Yv
  apply Yu
  exact Yz rfl rfl rfl (by simp_all [cwB])
 apply Y1
 iterate 2 refine Yp rfl ?_
 apply Yn
 refine W.cond rfl (fun c4=>?_) fun c4=>?_
 ·skip
  apply Y1
  refine Yp rfl ?_
  apply Yn
  apply Yt
  apply Yv
  apply Yu
  exact Yz rfl rfl rfl (by simp_all [cwB])
 apply Yk
 apply Yw
 apply Y3
 iterate 2 refine Yp rfl ?_
 refine S.call rfl rfl rfl rfl rfl (pc_Compare _ _) ?_
 refine Yp rfl ?_
 apply Yn
 apply Yt
 exact Yz rfl rfl rfl (by simp_all [cwB])
theorem pc_ver_compareEarly (a b : List UInt8) (ha : a.length < 4294967281) (hb : b.length < 4294967281) :
  PureCall Tryz.prog J 137 [.one (.d (.str a)), .one (.d (.str b))] (.one (.d (.int .i64 (ceB a b)))) := by
 have hl := split_le a [46]
 have hl2 := split_le b [46]
 refine PureCall.of_body tOk (fn := Tryz.f137) Tryz.func137 (by kernel_rfl) rfl (Nat.le_of_ble_eq_true rfl) (fun E => ?_)
 iterate 11 first|refine Yp rfl ?_|apply Yb|apply Y1|apply Yn|apply Ys
 refine W.cond rfl (fun c1=>?_) fun c1=>?_
 ·skip
  apply Y1
  refine Yp rfl ?_
  apply Yn
  apply Yt
  apply Yv
  apply Yu
  exact Yz rfl rfl rfl (by simp_all [ceB])
 apply Y1
 iterate 3 refine Yp rfl ?_
 apply Yn
 refine W.cond rfl (fun c2=>?_) fun c2=>?_
 ·skip
  apply Y1
  refine Yp rfl ?_
  apply Yn
  apply Yt
  apply Yv
  apply Yu
  exact Yz rfl rfl rfl (by simp_all [ceB])
 apply Y1
 iterate 3 refine Yp rfl ?_
 apply Yn
 refine W.cond rfl (fun c3=>?_) fun c3=>?_
 ·skip
  apply Y1
  refine Yp rfl ?_
  apply Yn
  apply Yt
  apply Yv
  apply Yu
  exact Yz rfl rfl rfl (by simp_all [ceB])
 apply Yk
 apply Yw
 apply Y3
 refine Yp rfl ?_
 refine S.call rfl rfl rfl rfl rfl (pc_Split _ _ ha (by decide)) ?_
 refine Yp rfl ?_
 refine S.call rfl rfl rfl rfl rfl (pc_Split _ _ hb (by decide)) ?_
 iterate 13 first|refine Yp rfl ?_|apply Yb|apply Y1|apply Yn|apply Ys
 refine W.loop (fun k st => ∃ i : Nat, i ≤ (Lib.split a [46]).length ∧ ((List.zipWith cwB (Lib.split a [46]) (Lib.split b [46])).take i).all (· == 0) = true ∧ k = (Lib.split a [46]).length - i ∧ ∃ t b2 r2 m2, st = ⟨t, [] ++ b2, [] ++ r2, [] ++ m2⟩ ∧ holdsL t [(5, .one (.d (.vec 1 ((Lib.split a [46]).map fun x => [.str x])))), (6, .one (.d (.vec 1 ((Lib.split b [46]).map fun x => [.str x])))), (27, .one (.d (.int .i64 (if (((Lib.split b [46]).map fun x => [D.str x]).length : Int) < (((Lib.split a [46]).map fun x => [D.str x]).length : Int) then (((Lib.split b [46]).map fun x => [D.str x]).length : Int) else (((Lib.split a [46]).map fun x => [D.str x]).length : Int))))), (28, .one (.d (.int .i64 (i : Int))))]) ((Lib.split a [46]).length) ⟨0, Nat.zero_le _, by simp, rfl, _, _, _, _, rfl, rfl, rfl, rfl, rfl, trivial⟩ ?_
 rintro k1 _ ⟨i, f1_0, f1_1, rfl, t1, bb1, rr1, mm1, rfl, hh1⟩
 refine W.keepR _ _ _ _ _ _ _ hh1 rfl ?_
 apply Y1
 refine Yp rfl ?_
 apply Yn
 apply Ys
 refine W.cond rfl (fun c4=>?_) fun c4=>?_
 ·skip
  have hi := min_lt (xs := Lib.split a [46]) (ys := Lib.split b [46]) (by simp) (by simp) c4
  iterate 9 first|refine Yp rfl ?_|apply Yb|apply Yk|apply Y1|apply Ys|apply Yn
  refine W.regionD mixed (by kernel_rfl) ?_
  iterate 2 refine Ym rfl rfl ?_
  refine D.pureE tOk zOk rfl rfl (row_ok hi.1) (row_at [] hi.1) rfl ?_
  iterate 3 refine Ym rfl rfl ?_
  refine D.pureE tOk zOk rfl rfl (row_ok hi.2) (row_at [] hi.2) rfl ?_
  refine Ym rfl rfl ?_
  refine D.call rfl rfl rfl rfl rfl (pc_ver_compareWords _ _ (by have := @split_at a [46] i; omega) (by have := @split_at b [46] i; omega)) ?_
  refine Ym rfl rfl ?_
  apply Y3
  iterate 2 refine Yp rfl ?_
  apply Yn
  refine W.cond rfl (fun c5=>?_) fun c5=>?_
  ·skip
   iterate 10 first|apply Yu|apply Yv|refine Yp rfl ?_|apply Yt|apply Y1|apply Yn
   exact ⟨_, rfl, rfl, LeV.of_force rfl (by
   have hz := zip_at (f := cwB) [] [] hi.1 hi.2
   have hc : cwB ((Lib.split a [46]).getD i []) ((Lib.split b [46]).getD i []) ≠ 0 := by simpa using c5
   have hh := firstNe_hit (by simp; omega) f1_1 (by rw [hz]; exact hc); rw [hz] at hh; rw [ceB, rowsB, hh]; simp_all)⟩
  apply Yk
  apply Yw
  apply Y4
  iterate 2 refine Yp rfl ?_
  refine loop_n ((Lib.split a [46]).length - (i + 1)) (by omega) ⟨i + 1, by omega, all_take_succ (d := 0) (by simp; omega) f1_1 (by rw [zip_at [] [] hi.1 hi.2]; simpa using c5), rfl, _, _, _, _, rfl, rfl, rfl, rfl, inc_i64 (by omega), trivial⟩
 have hi := min_ge (xs := Lib.split a [46]) (ys := Lib.split b [46]) (by simp) (by simp) c4
 iterate 9 first|refine Yp rfl ?_|apply Ye|apply Yx|apply Yq|apply Y3
 refine S.call rfl rfl rfl rfl rfl (pc_cmpInt _ _) ?_
 refine Yp rfl ?_
 apply Yn
 apply Yt
 exact Yz rfl rfl rfl (by have hh := firstNe_none (l := List.zipWith cwB (Lib.split a [46]) (Lib.split b [46])) (by simp; omega) f1_1; rw [ceB, rowsB, hh]; simp_all)
theorem pc_ver_Order (v w : Ver) (hv : v.e.length < 4294967281) (hw : w.e.length < 4294967281) :
  PureCall Tryz.prog J 82 [verV v, verV w] (.one (.d (.int .i64 (orderB v w)))) := by
 refine PureCall.of_body tOk (fn := Tryz.f82) Tryz.func82 (by kernel_rfl) rfl (Nat.le_of_ble_eq_true rfl) (fun E => ?_)
 apply Y1
 iterate 2 refine S.box rfl rfl rfl rfl ?_
 refine Yp rfl ?_
 apply Yn
 apply Ys
 refine W.regionD mixed (by kernel_rfl) ?_
 iterate 4 refine Ym rfl rfl ?_
 refine D.call rfl rfl rfl rfl rfl (pc_cmpInt _ _) ?_
 iterate 4 refine Ym rfl rfl ?_
 refine D.call rfl rfl rfl rfl rfl (pc_cmpInt _ _) ?_
 iterate 4 refine Ym rfl rfl ?_
 refine D.call rfl rfl rfl rfl rfl (pc_cmpInt _ _) ?_
 iterate 4 refine Ym rfl rfl ?_
 refine D.call rfl rfl rfl rfl rfl (pc_ver_compareEarly _ _ (by omega) (by omega)) ?_
 refine D.slice tOk rfl rfl ?_
 refine D.call rfl rfl rfl rfl rfl (pc_cmp_Or_int_ [_, _, _, _] (by simp)) ?_
 refine Ym rfl rfl ?_
 apply Yn
 apply Yt
 exact ⟨_, rfl, rfl, LeV.refl _⟩
theorem pc_ver_Next (v : Ver) (he : v.e.length < 4294967281) (p : Int) :
  PureCall Tryz.prog J 323 [verV v, .one (.d (.int .i64 p))] (.tup [verV (nextB v p).1, .one (.d (.int .i64 (nextB v p).2))]) := by
 refine PureCall.of_body tOk (fn := Tryz.f323) Tryz.func323 (by kernel_rfl) rfl (Nat.le_of_ble_eq_true rfl) (fun E => ?_)
 iterate 8 first|refine Yp rfl ?_|refine S.alloc tOk rfl rfl rfl rfl ?_|refine S.box rfl rfl rfl rfl ?_|apply Y1|apply Ys|apply Yn
 refine S.call rfl rfl rfl rfl rfl (pc_ver_Check v he) ?_
 iterate 5 first|refine Yp rfl ?_|apply Y3|apply Yn
 refine W.cond rfl (fun c1=>?_) fun c1=>?_
 ·skip
  iterate 8 first|refine Yp rfl ?_|apply Yu|apply Yt|refine S.store tOk rfl rfl rfl rfl rfl rfl rfl rfl ?_|apply Y1|apply Yn
  exact Yz rfl rfl rfl (by simp_all [nextB, nextOk, Ver.check, Ver.z, w1, verV])
 iterate 19 first|refine Yp rfl ?_|apply Yb|refine S.store tOk rfl rfl rfl rfl rfl rfl rfl rfl ?_|refine S.alloc tOk rfl rfl rfl rfl ?_|apply Yk|apply Y1|apply Y3|apply Yn|apply Ys
 refine W.cond rfl (fun c2=>?_) fun c2=>?_
 ·skip
  iterate 11 first|refine Yp rfl ?_|apply Yw|refine S.store tOk rfl rfl rfl rfl rfl rfl rfl rfl ?_|apply Y1|apply Ys|apply Yn|apply Yr
  refine S.call rfl rfl rfl rfl rfl (pc_ver_Check ⟨w1 v.a, 0, 0, []⟩ (by decide : ([] : List UInt8).length < _)) ?_
  refine Yp rfl ?_
  apply Yn
  refine W.cond rfl (fun c3=>?_) fun c3=>?_
  ·skip
   iterate 7 first|refine Yp rfl ?_|apply Yu|apply Yt|refine S.store tOk rfl rfl rfl rfl rfl rfl rfl rfl ?_|apply Y1|apply Yn
   exact Yz rfl rfl rfl (by simp_all [nextB, nextOk, Ver.check, Ver.z, w1, verV])
  iterate 7 first|refine Yp rfl ?_|apply Yt|refine S.store tOk rfl rfl rfl rfl rfl rfl rfl rfl ?_|apply Yk|apply Y3|apply Yn
  exact Yz rfl rfl rfl (by simp_all [nextB, nextOk, Ver.check, Ver.z, w1, verV])
 apply Y1
 iterate 3 refine Yp rfl ?_
 apply Yn
 refine W.cond rfl (fun c4=>?_) fun c4=>?_
 ·skip
  iterate 13 first|refine Yp rfl ?_|refine S.store tOk rfl rfl rfl rfl rfl rfl rfl rfl ?_|apply Yw|apply Y1|apply Ys|apply Yn|apply Yr
  refine S.call rfl rfl rfl rfl rfl (pc_ver_Check ⟨v.a, w1 v.b, 0, []⟩ (by decide : ([] : List UInt8).length < _)) ?_
  refine Yp rfl ?_
  apply Yn
  refine W.cond rfl (fun c5=>?_) fun c5=>?_
  ·skip
   iterate 7 first|refine Yp rfl ?_|apply Yu|apply Yt|refine S.store tOk rfl rfl rfl rfl rfl rfl rfl rfl ?_|apply Y1|apply Yn
   exact Yz rfl rfl rfl (by simp_all [nextB, nextOk, Ver.check, Ver.z, w1, verV])
  iterate 7 first|refine Yp rfl ?_|apply Yt|refine S.store tOk rfl rfl rfl rfl rfl rfl rfl rfl ?_|apply Yk|apply Y3|apply Yn
  exact Yz rfl rfl rfl (by simp_all [nextB, nextOk, Ver.check, Ver.z, w1, verV])
 iterate 9 first|refine S.pickAnd tOk zOk rfl rfl tg ?_|refine Yp rfl ?_|refine Yg rfl rfl tg ?_|apply Y1
 apply Yn
 refine W.cond rfl (fun c6=>?_) fun c6=>?_
 ·skip
  iterate 11 first|refine Yp rfl ?_|apply Yw|refine S.store tOk rfl rfl rfl rfl rfl rfl rfl rfl ?_|apply Y1|apply Ys|apply Yn|apply Yr
  refine S.call rfl rfl rfl rfl rfl (pc_ver_Check ⟨v.a, v.b, w1 v.c, []⟩ (by decide : ([] : List UInt8).length < _)) ?_
  refine Yp rfl ?_
  apply Yn
  refine W.cond rfl (fun c7=>?_) fun c7=>?_
  ·skip
   iterate 7 first|refine Yp rfl ?_|apply Yu|apply Yt|refine S.store tOk rfl rfl rfl rfl rfl rfl rfl rfl ?_|apply Y1|apply Yn
   exact Yz rfl rfl rfl (by simp_all [nextB, nextOk, Ver.check, Ver.z, w1, verV])
  iterate 7 first|refine Yp rfl ?_|apply Yt|refine S.store tOk rfl rfl rfl rfl rfl rfl rfl rfl ?_|apply Yk|apply Y3|apply Yn
  exact Yz rfl rfl rfl (by simp_all [nextB, nextOk, Ver.check, Ver.z, w1, verV])
 apply Y1
 iterate 3 refine Yp rfl ?_
 apply Yn
 refine W.cond rfl (fun c8=>?_) fun c8=>?_
 ·skip
  iterate 8 first|refine Yp rfl ?_|apply Yu|apply Yv|apply Yt|refine S.store tOk rfl rfl rfl rfl rfl rfl rfl rfl ?_|apply Y1|apply Yn
  exact Yz rfl rfl rfl (by simp_all [nextB, nextOk, Ver.check, Ver.z, w1, verV])
 apply Yk
 apply Yw
 apply Yn
 apply Ys
 apply Y1
 refine Yp rfl ?_
 refine S.call rfl rfl rfl rfl rfl (pc_ver_Check ⟨v.a, v.b, v.c, []⟩ (by decide : ([] : List UInt8).length < _)) ?_
 refine Yp rfl ?_
 apply Yn
 refine W.cond rfl (fun c9=>?_) fun c9=>?_
 ·skip
  iterate 7 first|refine Yp rfl ?_|apply Yu|apply Yt|refine S.store tOk rfl rfl rfl rfl rfl rfl rfl rfl ?_|apply Y1|apply Yn
  exact Yz rfl rfl rfl (by simp_all [nextB, nextOk, Ver.check, Ver.z, w1, verV])
 iterate 7 first|refine Yp rfl ?_|apply Yt|refine S.store tOk rfl rfl rfl rfl rfl rfl rfl rfl ?_|apply Yk|apply Y3|apply Yn
 exact Yz rfl rfl rfl (by simp_all [nextB, nextOk, Ver.check, Ver.z, w1, verV])
theorem pc_ver_Parse (s : List UInt8) (hs : s.length < 4294967281) :
  PureCall Tryz.prog J 303 [.one (.d (.str s))] (.tup [verV (parseB s).1, .one (.d (.int .i64 (parseB s).2))]) := by
 have hc := cut_le s [45]
 have hm := fun i => @split_at (Lib.cut s [45]).1 [46] i
 have hsp := pc_Split (Lib.cut s [45]).1 [46] (by omega) (by decide)
 unfold parseB
 generalize hws : Lib.split (Lib.cut s [45]).1 [46] = ws at hm hsp ⊢
 refine PureCall.of_body tOk (fn := Tryz.f303) Tryz.func303 (by kernel_rfl) rfl (Nat.le_of_ble_eq_true rfl) (fun E => ?_)
 iterate 5 first|refine Yp rfl ?_|refine S.alloc tOk rfl rfl rfl rfl ?_|apply Y3|apply Y1
 refine S.call rfl rfl rfl rfl rfl (pc_Cut _ _ hs) ?_
 iterate 9 first|refine Yp rfl ?_|apply Y3
 refine S.call rfl rfl rfl rfl rfl (hsp) ?_
 iterate 15 first|refine S.pickOr tOk zOk rfl rfl tg ?_|refine S.pickAndG tOk zOk rfl rfl rfl tg tg ?_|refine Yp rfl ?_|refine Yg rfl rfl tg ?_|apply Y1|apply Yn|apply Ys
 refine W.cond rfl (fun c1=>?_) fun c1=>?_
 ·skip
  iterate 7 first|refine Yp rfl ?_|apply Yu|apply Yt|refine S.store tOk rfl rfl rfl rfl rfl rfl rfl rfl ?_|apply Y1|apply Yn
  exact Yz rfl rfl rfl (by simp_all [parseW, verV, Ver.z])
 have h3 : ws.length = 3 := by simp at c1; omega
 obtain ⟨p, q, r, rfl⟩ := three h3
 iterate 11 first|refine Yp rfl ?_|apply Yb|refine S.alloc tOk rfl rfl rfl rfl ?_|apply Yk|apply Y1|apply Y3|apply Yn|apply Ys
 refine W.rounds 4 ?_
 refine WR.succ ?_
 apply Y1
 refine Yp rfl ?_
 apply Yn
 apply Ys
 refine W.condT rfl rfl ?_
 apply Yk
 apply Yn
 apply Ys
 apply Yb
 apply Y1
 refine Yp rfl ?_
 refine YP rfl (by first | rfl | exact idx_ok (by omega) (by omega)) rfl ?_
 iterate 5 first|refine Yp rfl ?_|apply Y3
 refine S.call rfl rfl rfl rfl rfl (pc_ver_number _ (by first | (have := hm 0; simp at this; omega) | (have := hm 1; simp at this; omega) | (have := hm 2; simp at this; omega))) ?_
 iterate 11 first|refine Yp rfl ?_|apply Y1|apply Yn|apply Ys
 refine W.cond rfl (fun c3=>?_) fun c3=>?_
 ·skip
  iterate 12 first|apply Yu|apply Yv|refine Yp rfl ?_|apply Yt|refine S.store tOk rfl rfl rfl rfl rfl rfl rfl rfl ?_|apply Y1|apply Yn
  exact Yz rfl rfl rfl (by rw [parse_ok c1]; clear c1; simp_all [threeB, verV, Ver.z, Ver.check])
 apply Yk
 apply Y4
 iterate 2 refine Yp rfl ?_
 refine YP rfl (by first | rfl | exact idx_ok (by omega) (by omega)) rfl ?_
 refine S.store tOk rfl rfl rfl rfl rfl rfl rfl rfl ?_
 apply Yw
 apply Y4
 iterate 2 refine Yp rfl ?_
 apply Yn
 refine WR.succ ?_
 apply Y1
 refine Yp rfl ?_
 apply Yn
 apply Ys
 refine W.condT rfl rfl ?_
 apply Yk
 apply Yn
 apply Ys
 apply Yb
 apply Y1
 refine Yp rfl ?_
 refine YP rfl (by first | rfl | exact idx_ok (by omega) (by omega)) rfl ?_
 iterate 5 first|refine Yp rfl ?_|apply Y3
 refine S.call rfl rfl rfl rfl rfl (pc_ver_number _ (by first | (have := hm 0; simp at this; omega) | (have := hm 1; simp at this; omega) | (have := hm 2; simp at this; omega))) ?_
 iterate 11 first|refine Yp rfl ?_|apply Y1|apply Yn|apply Ys
 refine W.cond rfl (fun c5=>?_) fun c5=>?_
 ·skip
  iterate 12 first|apply Yu|apply Yv|refine Yp rfl ?_|apply Yt|refine S.store tOk rfl rfl rfl rfl rfl rfl rfl rfl ?_|apply Y1|apply Yn
  exact Yz rfl rfl rfl (by rw [parse_ok c1]; clear c1; simp_all [threeB, verV, Ver.z, Ver.check])
 apply Yk
 apply Y4
 iterate 2 refine Yp rfl ?_
 refine YP rfl (by first | rfl | exact idx_ok (by omega) (by omega)) rfl ?_
 refine S.store tOk rfl rfl rfl rfl rfl rfl rfl rfl ?_
 apply Yw
 apply Y4
 iterate 2 refine Yp rfl ?_
 apply Yn
 refine WR.succ ?_
 apply Y1
 refine Yp rfl ?_
 apply Yn
 apply Ys
 refine W.condT rfl rfl ?_
 apply Yk
 apply Yn
 apply Ys
 apply Yb
 apply Y1
 refine Yp rfl ?_
 refine YP rfl (by first | rfl | exact idx_ok (by omega) (by omega)) rfl ?_
 iterate 5 first|refine Yp rfl ?_|apply Y3
 refine S.call rfl rfl rfl rfl rfl (pc_ver_number _ (by first | (have := hm 0; simp at this; omega) | (have := hm 1; simp at this; omega) | (have := hm 2; simp at this; omega))) ?_
 iterate 11 first|refine Yp rfl ?_|apply Y1|apply Yn|apply Ys
 refine W.cond rfl (fun c7=>?_) fun c7=>?_
 ·skip
  iterate 12 first|apply Yu|apply Yv|refine Yp rfl ?_|apply Yt|refine S.store tOk rfl rfl rfl rfl rfl rfl rfl rfl ?_|apply Y1|apply Yn
  exact Yz rfl rfl rfl (by rw [parse_ok c1]; clear c1; simp_all [threeB, verV, Ver.z, Ver.check])
 apply Yk
 apply Y4
 iterate 2 refine Yp rfl ?_
 refine YP rfl (by first | rfl | exact idx_ok (by omega) (by omega)) rfl ?_
 refine S.store tOk rfl rfl rfl rfl rfl rfl rfl rfl ?_
 apply Yw
 apply Y4
 iterate 2 refine Yp rfl ?_
 apply Yn
 refine WR.succ ?_
 apply Y1
 refine Yp rfl ?_
 apply Yn
 apply Ys
 refine W.condF rfl rfl ?_
 apply Yq
 apply Ye
 apply Ye
 apply Yx
 apply Y3
 refine YP rfl (by first | rfl | exact idx_ok (by omega) (by omega)) rfl ?_
 refine Yp rfl ?_
 refine YP rfl (by first | rfl | exact idx_ok (by omega) (by omega)) rfl ?_
 refine Yp rfl ?_
 refine YP rfl (by first | rfl | exact idx_ok (by omega) (by omega)) rfl ?_
 iterate 9 first|refine Yp rfl ?_|refine S.store tOk rfl rfl rfl rfl rfl rfl rfl rfl ?_|refine S.alloc tOk rfl rfl rfl rfl ?_|apply Y1|apply Ys|apply Yn
 refine S.call rfl rfl rfl rfl rfl (pc_ver_Check ⟨(numB p).1, (numB q).1, (numB r).1, (Lib.cut s [45]).2.1⟩ (by show (Lib.cut s [45]).2.1.length < _; omega)) ?_
 iterate 5 first|refine Yp rfl ?_|apply Y3|apply Yn
 refine W.cond rfl (fun c9=>?_) fun c9=>?_
 ·skip
  iterate 8 first|refine Yp rfl ?_|apply Yu|apply Yt|refine S.store tOk rfl rfl rfl rfl rfl rfl rfl rfl ?_|apply Y1|apply Yn
  exact Yz rfl rfl rfl (by rw [parse_ok c1]; clear c1; simp_all [threeB, verV, Ver.z, Ver.check])
 iterate 7 first|refine Yp rfl ?_|apply Yt|refine S.store tOk rfl rfl rfl rfl rfl rfl rfl rfl ?_|apply Yk|apply Y3|apply Yn
 exact Yz rfl rfl rfl (by rw [parse_ok c1]; clear c1; simp_all [threeB, verV, Ver.z, Ver.check])
end
section
open Go
theorem byte_all {p : UInt8 → Bool} (h : (List.range 256).all (fun n => p (UInt8.ofNat n)) = true) (c : UInt8) : p c = true := by
 have := List.all_eq_true.1 h c.toNat (List.mem_range.2 c.toNat_lt)
 simpa using this
def smallS : List UInt8 := [97, 98, 99, 100, 101, 102, 103, 104, 105, 106, 107, 108, 109, 110, 111, 112, 113, 114, 115, 116, 117, 118, 119, 120, 121, 122]
def digitS : List UInt8 := [48, 49, 50, 51, 52, 53, 54, 55, 56, 57]
def smallDigitS : List UInt8 := [97, 98, 99, 100, 101, 102, 103, 104, 105, 106, 107, 108, 109, 110, 111, 112, 113, 114, 115, 116, 117, 118, 119, 120, 121, 122, 48, 49, 50, 51, 52, 53, 54, 55, 56, 57]
def nameS : List UInt8 := [97, 98, 99, 100, 101, 102, 103, 104, 105, 106, 107, 108, 109, 110, 111, 112, 113, 114, 115, 116, 117, 118, 119, 120, 121, 122, 48, 49, 50, 51, 52, 53, 54, 55, 56, 57, 45, 46]
def partS : List UInt8 := [97, 98, 99, 100, 101, 102, 103, 104, 105, 106, 107, 108, 109, 110, 111, 112, 113, 114, 115, 116, 117, 118, 119, 120, 121, 122, 65, 66, 67, 68, 69, 70, 71, 72, 73, 74, 75, 76, 77, 78, 79, 80, 81, 82, 83, 84, 85, 86, 87, 88, 89, 90, 48, 49, 50, 51, 52, 53, 54, 55, 56, 57, 45, 46, 95]
theorem smallS_eq (c : UInt8) : smallS.contains c = isSmall (bI c) := by
 have := byte_all (p := fun c => smallS.contains c == isSmall (bI c)) (by decide +kernel) c
 simpa using this
theorem digitS_eq (c : UInt8) : digitS.contains c = isDigit (bI c) := by
 have := byte_all (p := fun c => digitS.contains c == isDigit (bI c)) (by decide +kernel) c
 simpa using this
theorem smallDigitS_eq (c : UInt8) : smallDigitS.contains c = earlyC (bI c) := by
 have := byte_all (p := fun c => smallDigitS.contains c == earlyC (bI c)) (by decide +kernel) c
 simpa using this
theorem nameS_eq (c : UInt8) : nameS.contains c = nameC (bI c) := by
 have := byte_all (p := fun c => nameS.contains c == nameC (bI c)) (by decide +kernel) c
 simpa using this
theorem partS_eq (c : UInt8) : partS.contains c = partC' (bI c) := by
 have := byte_all (p := fun c => partS.contains c == partC' (bI c)) (by decide +kernel) c
 simpa using this
def ofB (s cs : List UInt8) : Bool := s.all fun c => cs.contains c
theorem ofB_small (s : List UInt8) : ofB s smallS = s.all fun c => isSmall (bI c) := by simp only [ofB, smallS_eq]
theorem ofB_digit (s : List UInt8) : ofB s digitS = s.all fun c => isDigit (bI c) := by simp only [ofB, digitS_eq]
theorem ofB_smallDigit (s : List UInt8) : ofB s smallDigitS = s.all fun c => earlyC (bI c) := by simp only [ofB, smallDigitS_eq]
theorem ofB_name (s : List UInt8) : ofB s nameS = s.all fun c => nameC (bI c) := by simp only [ofB, nameS_eq]
theorem ofB_part (s : List UInt8) : ofB s partS = s.all fun c => partC' (bI c) := by simp only [ofB, partS_eq]
theorem dropWhile_all {α : Type} {p : α → Bool} : ∀ {l : List α}, l.all p = true → l.dropWhile p = []
  | [], _ => rfl
  | a :: l, h => by
    simp only [List.all_cons, Bool.and_eq_true] at h
    simp only [List.dropWhile_cons, h.1, if_true]
    exact dropWhile_all h.2
theorem trim_ofB (s cs : List UInt8) (h : ofB s cs = true) : Lib.trimS s cs = [] := by
 unfold Lib.trimS Lib.trimLeftS Lib.trimRightS
 have h1 : (s.all fun c => cs.contains c) = true := h
 have h2 : (s.reverse.all fun c => cs.contains c) = true := by simpa using h1
 show ((s.reverse.dropWhile (fun c => cs.contains c)).reverse).dropWhile (fun c => cs.contains c) = []
 rw [dropWhile_all h2]; rfl
theorem of_eq (s cs : List UInt8) : (Lib.trimS s cs == [] && ofB s cs) = ofB s cs := by
 cases h : ofB s cs with
 | false => simp
 | true => simp [trim_ofB s cs h]
theorem indexByte_neg (l : List UInt8) (c : UInt8) : decide (Lib.indexByte l c < 0) = !(l.contains c) := by
 induction l with
 | nil => simp [Lib.indexByte]
 | cons a l ih =>
  unfold Lib.indexByte
  by_cases h : a = c
  ·skip
   subst h; simp
  ·skip
   have h' : ¬ c = a := fun e => h e.symm
   have hge := Lib.indexByte_ge l c
   simp only [beq_iff_eq, h, if_false, List.contains_cons, h', beq_eq_false_iff_ne.2 h', Bool.false_or]
   rw [← ih]
   split
   ·skip
    rename_i hm; simp [hm]
   ·skip
    rename_i hm; simp only [decide_eq_decide]; omega
def inB (n l h : Int) : Bool := decide (n ≥ l) && decide (n ≤ h)
theorem inB_eq (n l h : Int) : inB n l h = !outsideB n l h := by
 unfold inB outsideB
 by_cases h1 : n < l <;> by_cases h2 : n > h <;> simp_all <;> omega
theorem nameR (s : List UInt8) : (((!(s == []) && decide ((s.length : Int) ≤ 40)) && ofB s nameS) && ofB (s.take 1) smallS) = nameB s := by
 rw [ofB_name, ofB_small, nameB, eachB]
 cases s with
 | nil => simp
 | cons a l => simp [Bool.and_assoc, Bool.and_comm, Bool.and_left_comm]
theorem partR (p : List UInt8) : ((((p == [] || p == [46]) || p == [46, 46]) || decide ((p.length : Int) > 40)) || !ofB p partS) = !partB p := by
 rw [ofB_part, partB, eachB]
 have : decide ((p.length : Int) > 40) = !decide ((p.length : Int) ≤ 40) := by by_cases h : (p.length : Int) ≤ 40 <;> simp [h] <;> omega
 rw [this]
 cases (p == []) <;> cases (p == [46]) <;> cases (p == [46, 46]) <;> cases decide ((p.length : Int) ≤ 40) <;> cases (p.all fun c => partC' (bI c)) <;> rfl
theorem lead0 (s : List UInt8) (hs : s ≠ []) : (decide ((s.length : Int) > 1) && bI (s.getD 0 0) == 48) = (bI (s.getD 0 0) == 48 && !(s == [48])) := by
  match s, hs with
  | [a], _ =>
    by_cases h : a = 48
    · subst h; decide
    · have : bI a ≠ 48 := fun e => h (UInt8.toNat_inj.1 (by unfold bI at e; show a.toNat = 48; omega))
      simp [this]
  | a :: b :: l, _ => simp; intro _; omega
def numR (s : List UInt8) (m : Int) : Int × Bool :=
 if (((s == [] || decide ((s.length : Int) > m)) || !ofB s digitS) || (decide ((s.length : Int) > 1) && bI (s.getD 0 0) == 48)) then (0, false) else (atoiV s, atoiOk s)
theorem numR_eq (s : List UInt8) : numR s 9 = numB s := by
 unfold numR numB
 rw [ofB_digit, eachB]
 have : decide ((s.length : Int) > 9) = !decide ((s.length : Int) ≤ 9) := by by_cases h : (s.length : Int) ≤ 9 <;> simp [h] <;> omega
 rw [this]
 cases hs : (s == []) with
 | true => simp
 | false =>
  rw [lead0 s (by simpa using hs)]
  cases decide ((s.length : Int) ≤ 9) <;> cases (s.all fun c => isDigit (bI c)) <;> rfl
theorem wordR (w : List UInt8) : ((((w == [] || decide ((w.length : Int) > 10)) || !ofB w smallDigitS)) || ((ofB w digitS && decide ((w.length : Int) > 1)) && bI (w.getD 0 0) == 48)) = !wordB w := by
 rw [ofB_smallDigit, ofB_digit, wordB, numeralB, eachB, eachB]
 have : decide ((w.length : Int) > 10) = !decide ((w.length : Int) ≤ 10) := by by_cases h : (w.length : Int) ≤ 10 <;> simp [h] <;> omega
 rw [this]
 cases hs : (w == []) with
 | true => simp
 | false =>
  rw [Bool.and_assoc, lead0 w (by simpa using hs)]
  cases decide ((w.length : Int) ≤ 10) <;> cases (w.all fun c => isDigit (bI c)) <;> cases (w.all fun c => earlyC (bI c)) <;> simp
theorem valueR (s : List UInt8) : (s.all (fun c => !(decide (bI c < 32) || decide (bI c > 126))) && decide ((s.length : Int) ≤ 1000)) = valueB s := by
  have : (fun c : UInt8 => !(decide (bI c < 32) || decide (bI c > 126))) = fun c => valueC (bI c) := by
    funext c; unfold valueC
    by_cases h1 : bI c < 32 <;> by_cases h2 : bI c > 126 <;> simp [h1, h2] <;> omega
  rw [this, valueB, eachB]
  cases s <;> simp
theorem checkB_nil (x y z : Int) (h : checkB x y z [] ≠ 0) : checkB x y z [] = 3 := by
 unfold checkB at h ⊢
 split
 ·skip
  rfl
 ·skip
  rename_i h1; rw [if_neg h1] at h; simp at h
def cwR (p q : List UInt8) : Int :=
 if ofB p digitS && ofB q digitS then Lib.compareInt (atoiV p) (atoiV q) else if ofB p digitS then -1 else if ofB q digitS then 1 else Lib.compareBytes p q
def rowsR (xs ys : List (List UInt8)) : Int := if firstNe (List.zipWith cwR xs ys) != 0 then firstNe (List.zipWith cwR xs ys) else Lib.compareInt xs.length ys.length
def min1 (x : Int) : Int := if x < 1 then x else 1
def compareR (v w : Ver) : Int :=
 if firstNe [Lib.compareInt v.a w.a, Lib.compareInt v.b w.b, Lib.compareInt v.c w.c] != 0 then firstNe [Lib.compareInt v.a w.a, Lib.compareInt v.b w.b, Lib.compareInt v.c w.c]
 else if v.e == [] || w.e == [] then Lib.compareInt (min1 w.e.length) (min1 v.e.length) else rowsR (Lib.split v.e [46]) (Lib.split w.e [46])
theorem in_t {l : List UInt8} {c : UInt8} (h : decide (Lib.indexByte l ((c.toNat : Int).toNat.toUInt8) < 0) = false) : l.contains c = true := by
 have h1 := indexByte_neg l c
 have h2 : (c.toNat : Int).toNat.toUInt8 = c := by simp
 rw [h2, h1] at h
 simpa using h
theorem in_f {l : List UInt8} {c : UInt8} (h : decide (Lib.indexByte l ((c.toNat : Int).toNat.toUInt8) < 0) = true) : l.contains c = false := by
 have h1 := indexByte_neg l c
 have h2 : (c.toNat : Int).toNat.toUInt8 = c := by simp
 rw [h2, h1] at h
 simpa using h
theorem name_len {s : List UInt8} {a b : Bool} (h : ((!(s == []) && a) && b) = true) : (1 : Int) ≤ (s.length : Int) := by
 cases s with
 | nil => simp at h
 | cons x l => simp only [List.length_cons]; omega
theorem gt1 {s : List UInt8} (h : decide ((s.length : Int) > 1) = true) : (0 : Int) < (s.length : Int) := by
 have := of_decide_eq_true h; omega
theorem path_t {p : List UInt8} (h : ((((p == [] || p == [46]) || p == [46, 46]) || decide ((p.length : Int) > 40)) || !ofB p partS) = false) : partB p = true := by
 rw [partR] at h; simpa using h
theorem path_f {p : List UInt8} (h : ((((p == [] || p == [46]) || p == [46, 46]) || decide ((p.length : Int) > 40)) || !ofB p partS) = true) : partB p = false := by
 rw [partR] at h; simpa using h
theorem word_t' {w : List UInt8} (h : ((((w == [] || decide ((w.length : Int) > 10)) || !ofB w smallDigitS)) || ((ofB w digitS && decide ((w.length : Int) > 1)) && bI (w.getD 0 0) == 48)) = false) : wordB w = true := by
 rw [wordR] at h; simpa using h
theorem word_f' {w : List UInt8} (h : ((((w == [] || decide ((w.length : Int) > 10)) || !ofB w smallDigitS)) || ((ofB w digitS && decide ((w.length : Int) > 1)) && bI (w.getD 0 0) == 48)) = true) : wordB w = false := by
 rw [wordR] at h; simpa using h
theorem not_le_of {x y : Int} {b : Bool} (h : decide (x > y) = true) : (decide (x ≤ y) && b) = false := by
 have := of_decide_eq_true h
 rw [decide_eq_false (by omega)]; rfl
theorem le_of {x y : Int} (h : decide (x > y) = false) : decide (x ≤ y) = true := by
 have := of_decide_eq_false h
 exact decide_eq_true (by omega)
theorem not_t {a : Bool} (h : a = true) : (!a) = false := by rw [h]; rfl
theorem not_f {a : Bool} (h : a = false) : (!a) = true := by rw [h]; rfl
end
section
open Go
open Go.RowKit
attribute [local irreducible] thenK blockK W
theorem pc_outref2_In (n l h : Int) :
  PureCall Tryz.prog J 50 [.one (.d (.int .i64 n)), .one (.d (.int .i64 l)), .one (.d (.int .i64 h))] (.one (.d (.bool (inB n l h)))) := by
 refine PureCall.of_body tOk (fn := Tryz.f50) Tryz.func50 (by kernel_rfl) rfl (Nat.le_of_ble_eq_true rfl) (fun E => ?_)
 iterate 14 first|refine S.pickAnd tOk zOk rfl rfl tg ?_|refine Yp rfl ?_|refine Yg rfl rfl tg ?_|apply Yt|apply Y3|apply Y1|apply Yn
 exact ⟨_, rfl, rfl, LeV.refl _⟩
theorem pc_outref2_When (b : Bool) (e : Int) :
  PureCall Tryz.prog J 17 [.one (.d (.bool b)), .one (.d (.int .i64 e))] (.one (.d (.int .i64 (if b then e else 0)))) := by
 refine PureCall.of_body tOk (fn := Tryz.f17) Tryz.func17 (by kernel_rfl) rfl (Nat.le_of_ble_eq_true rfl) (fun E => ?_)
 iterate 7 first|refine Yp rfl ?_|apply Y1|apply Yn|apply Ys
 refine W.cond rfl (fun c1=>?_) fun c1=>?_
 ·skip
  iterate 6 first|refine Yp rfl ?_|apply Yu|apply Yt|apply Y1|apply Yn
  exact Yz rfl rfl rfl (by simp_all [])
 apply Yk
 apply Y3
 refine Yp rfl ?_
 apply Yn
 apply Yt
 exact Yz rfl rfl rfl (by simp_all [])
theorem pc_outref2_First (xs : List Int) (hl : xs.length ≤ 1000000) :
  PureCall Tryz.prog J 16 [.one (.d (.vec 1 (xs.map fun x => [.int .i64 x])))] (.one (.d (.int .i64 (firstNe xs)))) := by
 refine PureCall.of_body tOk (fn := Tryz.f16) Tryz.func16 (by kernel_rfl) rfl (Nat.le_of_ble_eq_true rfl) (fun E => ?_)
 iterate 9 first|refine Yp rfl ?_|apply Y1|apply Yn|apply Ys
 apply Yb
 refine W.loop (fun k st => ∃ i : Nat, i ≤ xs.length ∧ (xs.take i).all (· == 0) = true ∧ k = xs.length - i ∧ ∃ t b2 r2 m2, st = ⟨t, [] ++ b2, [] ++ r2, [] ++ m2⟩ ∧ holdsL t [(5, .one (.d (.vec 1 (xs.map fun x => [.int .i64 x])))), (6, .one (.d (.int .i64 ((xs.map fun x => ([.int .i64 x] : List D)).length : Int)))), (7, .one (.d (.int .i64 (i : Int))))]) (xs.length) ⟨0, Nat.zero_le _, by simp, rfl, _, _, _, _, rfl, rfl, rfl, rfl, trivial⟩ ?_
 rintro k0 _ ⟨i, f0_0, f0_1, rfl, t0, bb0, rr0, mm0, rfl, hh0⟩
 refine W.keepR _ _ _ _ _ _ _ hh0 rfl ?_
 apply Y1
 refine Yp rfl ?_
 apply Yn
 apply Ys
 refine W.cond rfl (fun c1=>?_) fun c1=>?_
 ·skip
  have hi := row_lt c1
  apply Yk
  apply Yn
  apply Ys
  apply Yb
  apply Y1
  refine YE rfl (row_ok hi) (row_at 0 hi) rfl ?_
  iterate 6 first|refine Yp rfl ?_|apply Y3|apply Yn
  refine W.cond rfl (fun c2=>?_) fun c2=>?_
  ·skip
   iterate 10 first|apply Yu|apply Yv|refine Yp rfl ?_|apply Yt|apply Y1|apply Yn
   exact Yz rfl rfl rfl (by rw [firstNe_hit hi f0_1 (by simpa using c2)])
  apply Yk
  apply Yw
  apply Y4
  iterate 2 refine Yp rfl ?_
  refine loop_n (xs.length - (i + 1)) (by omega) ⟨i + 1, hi, all_take_succ (d := 0) hi f0_1 (by simpa using c2), rfl, _, _, _, _, rfl, rfl, rfl, inc_i64 (by omega), trivial⟩
 have hi := row_ge c1
 apply Yq
 apply Ye
 apply Ye
 apply Yx
 apply Y3
 refine Yp rfl ?_
 apply Yn
 apply Yt
 exact Yz rfl rfl rfl (by rw [firstNe_none hi f0_1]; rfl)
theorem pc_outref2_inner (s cs : List UInt8) (hs : s.length < 4294967281) :
  PureCall Tryz.prog J 123 [.one (.d (.str s)), .one (.d (.str cs))] (.one (.d (.bool (ofB s cs)))) := by
 refine PureCall.of_body tOk (fn := Tryz.f123) Tryz.func123 (by kernel_rfl) rfl (Nat.le_of_ble_eq_true rfl) (fun E => ?_)
 iterate 9 first|refine Yp rfl ?_|apply Y1|apply Yn|apply Ys
 apply Yb
 refine W.loop (fun k st => ∃ i : Nat, i ≤ s.length ∧ (s.take i).all (fun c => cs.contains c) = true ∧ k = s.length - i ∧ ∃ t b2 r2 m2, st = ⟨t, [] ++ b2, [] ++ r2, [] ++ m2⟩ ∧ holdsL t [(0, .one (.d (.str s))), (1, .one (.d (.str cs))), (7, .one (.d (.int .i64 (s.length : Int)))), (8, .one (.d (.int .i64 (i : Int))))]) (s.length) ⟨0, Nat.zero_le _, by simp, rfl, _, _, _, _, rfl, rfl, rfl, rfl, rfl, trivial⟩ ?_
 rintro k0 _ ⟨i, f0_0, f0_1, rfl, t0, bb0, rr0, mm0, rfl, hh0⟩
 refine W.keepR _ _ _ _ _ _ _ hh0 rfl ?_
 apply Y1
 refine Yp rfl ?_
 apply Yn
 apply Ys
 refine W.cond rfl (fun c1=>?_) fun c1=>?_
 ·skip
  have hi : i < s.length := by simpa using c1
  iterate 11 first|refine Yp rfl ?_|apply Yb|apply Yk|apply Y3|apply Y1|apply Ys|apply Yn
  refine YP rfl (str_ok hi) rfl ?_
  refine S.call rfl rfl rfl rfl rfl (pc_IndexByte _ _) ?_
  refine Yp rfl ?_
  apply Yn
  refine W.cond rfl (fun c2=>?_) fun c2=>?_
  ·skip
   iterate 9 first|apply Yu|apply Yv|apply Yt|refine Yp rfl ?_|apply Y1|apply Yn
   exact Yz rfl rfl rfl (by rw [ofB, all_false_of (d := 0) hi (in_f c2)]; rfl)
  apply Yk
  apply Yw
  apply Y4
  iterate 2 refine Yp rfl ?_
  refine loop_n (s.length - (i + 1)) (by omega) ⟨i + 1, by omega, all_take_succ (d := 0) (φ := fun c => cs.contains c) hi f0_1 (in_t c2), rfl, _, _, _, _, rfl, rfl, rfl, rfl, inc_i64 (by omega), trivial⟩
 have hi : s.length ≤ i := by simpa using c1
 apply Yq
 apply Ye
 apply Ye
 apply Yx
 apply Y3
 refine Yp rfl ?_
 apply Yn
 apply Yt
 exact Yz rfl rfl rfl (by rw [ofB, all_of_take hi f0_1]; rfl)
theorem pc_outref2_Of (s cs : List UInt8) (hcs : cs.length < 4294967281) (ha : cs.all (fun b => decide (b.toNat < 128)) = true) (hs : s.length < 4294967281) :
  PureCall Tryz.prog J 70 [.one (.d (.str s)), .one (.d (.str cs))] (.one (.d (.bool (ofB s cs)))) := by
 refine PureCall.of_body tOk (fn := Tryz.f70) Tryz.func70 (by kernel_rfl) rfl (Nat.le_of_ble_eq_true rfl) (fun E => ?_)
 iterate 5 first|refine Yp rfl ?_|apply Y3|apply Y1
 refine S.call rfl rfl rfl rfl rfl (pc_Trim _ _ (by omega) hcs ha) ?_
 iterate 4 first|refine Yg rfl rfl tg ?_|refine Yp rfl ?_
 refine S.callG rfl rfl rfl rfl tg rfl rfl (fun _ => pc_outref2_inner _ _ (by omega)) ?_
 refine S.pickAnd tOk zOk rfl rfl tg ?_
 refine Yp rfl ?_
 apply Yn
 apply Yt
 exact ⟨_, rfl, rfl, LeV.of_eq (congrArg (fun b => V.one (C.d (D.bool b))) (of_eq s cs))⟩
theorem pc_outref2_NameOf (s : List UInt8) (hs : s.length < 4294967281) :
  PureCall Tryz.prog J 51 [.one (.d (.str s))] (.one (.d (.bool (nameB s)))) := by
 refine PureCall.of_body tOk (fn := Tryz.f51) Tryz.func51 (by kernel_rfl) rfl (Nat.le_of_ble_eq_true rfl) (fun E => ?_)
 iterate 12 first|refine S.pickAnd tOk zOk rfl rfl tg ?_|refine Yp rfl ?_|refine Yg rfl rfl tg ?_|apply Y3|apply Y1
 refine S.callG rfl rfl rfl rfl tg rfl rfl (fun _ => pc_outref2_Of _ nameS (by decide) (by decide) (by omega)) ?_
 refine S.pickAnd tOk zOk rfl rfl tg ?_
 refine Yp rfl ?_
 refine Yg rfl rfl tg ?_
 refine YG rfl rfl tg (fun h => sl_okT (l := 0) (h := 1) rfl rfl (by decide) (by decide) (name_len h)) rfl ?_
 refine S.callG rfl rfl rfl rfl tg rfl rfl (fun _ => pc_outref2_Of _ smallS (by decide) (by decide) (by simp; omega)) ?_
 refine S.pickAnd tOk zOk rfl rfl tg ?_
 refine Yp rfl ?_
 apply Yn
 apply Yt
 exact Yz rfl rfl rfl (by rw [← nameR s]; rfl)
theorem pc_outref2_PathOf (s : List UInt8) (hs : s.length < 4294967281) :
  PureCall Tryz.prog J 52 [.one (.d (.str s))] (.one (.d (.bool (pathB s)))) := by
 have hl := split_le s [47]
 have hm := fun i => @split_at s [47] i
 refine PureCall.of_body tOk (fn := Tryz.f52) Tryz.func52 (by kernel_rfl) rfl (Nat.le_of_ble_eq_true rfl) (fun E => ?_)
 iterate 9 first|refine Yp rfl ?_|apply Y1|apply Yn|apply Ys
 refine W.cond rfl (fun c1=>?_) fun c1=>?_
 ·skip
  apply Y1
  refine Yp rfl ?_
  apply Yn
  apply Yt
  apply Yu
  exact Yz rfl rfl rfl (by rw [pathB, Bool.and_comm, not_le_of c1]; rfl)
 apply Yk
 apply Yn
 apply Ys
 apply Y1
 refine Yp rfl ?_
 refine S.call rfl rfl rfl rfl rfl (pc_Split _ _ hs (by decide)) ?_
 iterate 2 refine Yp rfl ?_
 apply Yn
 apply Yb
 refine W.loop (fun k st => ∃ i : Nat, i ≤ (Lib.split s [47]).length ∧ ((Lib.split s [47]).take i).all partB = true ∧ k = (Lib.split s [47]).length - i ∧ ∃ t b2 r2 m2, st = ⟨t, [] ++ b2, [] ++ r2, [] ++ m2⟩ ∧ holdsL t [(9, .one (.d (.vec 1 ((Lib.split s [47]).map fun x => [.str x])))), (10, .one (.d (.int .i64 (((Lib.split s [47]).map fun x => ([.str x] : List D)).length : Int)))), (11, .one (.d (.int .i64 (i : Int))))]) ((Lib.split s [47]).length) ⟨0, Nat.zero_le _, by simp, rfl, _, _, _, _, rfl, rfl, rfl, rfl, trivial⟩ ?_
 rintro k0 _ ⟨i, f0_0, f0_1, rfl, t0, bb0, rr0, mm0, rfl, hh0⟩
 refine W.keepR _ _ _ _ _ _ _ hh0 rfl ?_
 apply Y1
 refine Yp rfl ?_
 apply Yn
 apply Ys
 refine W.cond rfl (fun c2=>?_) fun c2=>?_
 ·skip
  have hi := row_lt c2
  apply Yk
  apply Yn
  apply Ys
  apply Yb
  apply Y1
  refine YE rfl (row_ok hi) (row_at [] hi) rfl ?_
  iterate 20 first|refine S.pickOr tOk zOk rfl rfl tg ?_|refine Yg rfl rfl tg ?_|refine Yp rfl ?_|apply Y3
  refine S.callG rfl rfl rfl rfl tg rfl rfl (fun _ => pc_outref2_Of _ partS (by decide) (by decide) (by have := hm i; omega)) ?_
  refine Yg rfl rfl tg ?_
  refine S.pickOr tOk zOk rfl rfl tg ?_
  apply Yn
  refine W.cond rfl (fun c3=>?_) fun c3=>?_
  ·skip
   iterate 9 first|apply Yu|apply Yv|apply Yt|refine Yp rfl ?_|apply Y1|apply Yn
   exact Yz rfl rfl rfl (by rw [pathB, all_false_of (d := []) hi (path_f c3)]; rfl)
  apply Yk
  apply Yw
  apply Y4
  iterate 2 refine Yp rfl ?_
  refine loop_n ((Lib.split s [47]).length - (i + 1)) (by omega) ⟨i + 1, hi, all_take_succ (d := []) hi f0_1 (path_t c3), rfl, _, _, _, _, rfl, rfl, rfl, inc_i64 (by omega), trivial⟩
 have hi := row_ge c2
 apply Yq
 apply Ye
 apply Ye
 apply Yx
 apply Y3
 refine Yp rfl ?_
 apply Yn
 apply Yt
 exact Yz rfl rfl rfl (by rw [pathB, all_of_take hi f0_1, le_of c1]; rfl)
theorem pc_outref2_ValueOf (s : List UInt8) (hs : s.length < 4294967281) :
  PureCall Tryz.prog J 54 [.one (.d (.str s))] (.one (.d (.bool (valueB s)))) := by
 refine PureCall.of_body tOk (fn := Tryz.f54) Tryz.func54 (by kernel_rfl) rfl (Nat.le_of_ble_eq_true rfl) (fun E => ?_)
 iterate 9 first|refine Yp rfl ?_|apply Y1|apply Yn|apply Ys
 apply Yb
 refine W.loop (fun k st => ∃ i : Nat, i ≤ s.length ∧ (s.take i).all (fun c => !(decide (bI c < 32) || decide (bI c > 126))) = true ∧ k = s.length - i ∧ ∃ t b2 r2 m2, st = ⟨t, [] ++ b2, [] ++ r2, [] ++ m2⟩ ∧ holdsL t [(0, .one (.d (.str s))), (5, .one (.d (.int .i64 (s.length : Int)))), (6, .one (.d (.int .i64 (i : Int))))]) (s.length) ⟨0, Nat.zero_le _, by simp, rfl, _, _, _, _, rfl, rfl, rfl, rfl, trivial⟩ ?_
 rintro k0 _ ⟨i, f0_0, f0_1, rfl, t0, bb0, rr0, mm0, rfl, hh0⟩
 refine W.keepR _ _ _ _ _ _ _ hh0 rfl ?_
 apply Y1
 refine Yp rfl ?_
 apply Yn
 apply Ys
 refine W.cond rfl (fun c1=>?_) fun c1=>?_
 ·skip
  have hi : i < s.length := by simpa using c1
  iterate 10 first|refine Yp rfl ?_|apply Yb|apply Yk|apply Y3|apply Y1|apply Ys|apply Yn
  refine YP rfl (str_ok hi) rfl ?_
  iterate 4 first|refine Yg rfl rfl tg ?_|refine Yp rfl ?_
  refine YG rfl rfl tg (fun _ => str_ok hi) rfl ?_
  refine Yg rfl rfl tg ?_
  refine S.pickOr tOk zOk rfl rfl tg ?_
  apply Yn
  refine W.cond rfl (fun c2=>?_) fun c2=>?_
  ·skip
   iterate 9 first|apply Yu|apply Yv|apply Yt|refine Yp rfl ?_|apply Y1|apply Yn
   exact Yz rfl rfl rfl (by rw [← valueR, all_false_of (d := 0) hi (not_t c2)]; rfl)
  apply Yk
  apply Yw
  apply Y4
  iterate 2 refine Yp rfl ?_
  refine loop_n (s.length - (i + 1)) (by omega) ⟨i + 1, by omega, all_take_succ (d := 0) hi f0_1 (not_f c2), rfl, _, _, _, _, rfl, rfl, rfl, inc_i64 (by omega), trivial⟩
 have hi : s.length ≤ i := by simpa using c1
 iterate 11 first|refine Yp rfl ?_|apply Ye|apply Yt|apply Yx|apply Yq|apply Y3|apply Yn
 exact Yz rfl rfl rfl (by rw [← valueR, all_of_take hi f0_1]; rfl)
theorem pc_outref2_Number (s : List UInt8) (m : Int) (hm : 0 ≤ m) (hs : s.length < 4294967281) :
  PureCall Tryz.prog J 293 [.one (.d (.str s)), .one (.d (.int .i64 m))] (.tup [.one (.d (.int .i64 (numR s m).1)), .one (.d (.bool (numR s m).2))]) := by
 refine PureCall.of_body tOk (fn := Tryz.f293) Tryz.func293 (by kernel_rfl) rfl (Nat.le_of_ble_eq_true rfl) (fun E => ?_)
 iterate 16 first|refine S.pickOr tOk zOk rfl rfl tg ?_|refine Yp rfl ?_|refine Yg rfl rfl tg ?_|apply Y1|apply Ys|apply Yn
 refine S.callG rfl rfl rfl rfl tg rfl rfl (fun _ => pc_outref2_Of _ digitS (by decide) (by decide) (by omega)) ?_
 iterate 8 first|refine S.pickOr tOk zOk rfl rfl tg ?_|refine Yg rfl rfl tg ?_|refine Yp rfl ?_
 refine YG rfl rfl tg (fun h => idx_ok (Int.le_refl _) (gt1 (andr h))) rfl ?_
 refine Yg rfl rfl tg ?_
 refine S.pickAndG tOk zOk rfl rfl rfl tg tg ?_
 refine S.pickOr tOk zOk rfl rfl tg ?_
 apply Yn
 refine W.cond rfl (fun c1=>?_) fun c1=>?_
 ·skip
  iterate 6 first|refine Yp rfl ?_|apply Yu|apply Yt|apply Y1|apply Yn
  exact Yz rfl rfl rfl (by rw [show numR s m = (0, false) from if_pos c1]; rfl)
 apply Yk
 apply Y3
 refine Yp rfl ?_
 refine S.call rfl rfl rfl rfl rfl (pc_Atoi _ (by omega)) ?_
 iterate 5 refine Yp rfl ?_
 apply Yn
 apply Ys
 refine W.regionD mixed (by kernel_rfl) ?_
 iterate 5 refine Ym rfl rfl ?_
 apply Yn
 apply Yt
 exact Yz rfl rfl rfl (by rw [show numR s m = (atoiV s, atoiOk s) from if_neg (Bool.eq_false_iff.1 c1)])
end
section
open Go
theorem index_none {c : UInt8} : ∀ {s : List UInt8}, c ∉ s → Lib.index s [c] = -1
  | [], _ => rfl
  | b :: l, h => by
    have h1 : c ≠ b := fun e => h (e ▸ List.mem_cons_self ..)
    have h2 := index_none (s := l) (fun e => h (List.mem_cons_of_mem _ e))
    have hp : List.isPrefixOf [c] (b :: l) = false := by simp [List.isPrefixOf, h1]
    unfold Lib.index
    rw [hp, h2]; rfl
theorem index_at {c : UInt8} {y : List UInt8} : ∀ {x : List UInt8}, c ∉ x → Lib.index (x ++ c :: y) [c] = x.length
  | [], _ => by
    have hp : List.isPrefixOf [c] (c :: y) = true := by simp [List.isPrefixOf]
    show Lib.index (c :: y) [c] = 0
    unfold Lib.index
    rw [hp]; rfl
  | b :: l, h => by
    have h1 : c ≠ b := fun e => h (e ▸ List.mem_cons_self ..)
    have h2 := index_at (x := l) (y := y) (fun e => h (List.mem_cons_of_mem _ e))
    have hp : List.isPrefixOf [c] (b :: (l ++ c :: y)) = false := by simp [List.isPrefixOf, h1]
    show Lib.index (b :: (l ++ c :: y)) [c] = _
    unfold Lib.index
    rw [hp, h2]
    simp only [List.length_cons, Bool.false_eq_true, if_false]
    rw [if_neg (by simp)]
    rfl
theorem cut_none {c : UInt8} {s : List UInt8} (h : c ∉ s) : Lib.cut s [c] = (s, [], false) := by
 unfold Lib.cut
 rw [index_none h]; rfl
theorem cut_at {c : UInt8} {x y : List UInt8} (h : c ∉ x) : Lib.cut (x ++ c :: y) [c] = (x, y, true) := by
 unfold Lib.cut
 rw [index_at h, if_pos (by omega)]
 have e1 : ((x.length : Int)).toNat = x.length := by omega
 rw [e1]
 have e2 : x.length + [c].length = (x ++ [c]).length := by simp
 rw [e2]
 have e3 : x ++ c :: y = (x ++ [c]) ++ y := by simp
 rw [e3, List.drop_left]
 simp
theorem countFrom_fuel {sub : List UInt8} (hs : sub ≠ []) : ∀ (f g : Nat) (s : List UInt8), s.length < f → s.length < g → Lib.countFrom sub f s = Lib.countFrom sub g s
  | 0, _, _, h, _ => absurd h (Nat.not_lt_zero _)
  | _ + 1, 0, _, _, h => absurd h (Nat.not_lt_zero _)
  | f + 1, g + 1, s, h1, h2 => by
    unfold Lib.countFrom
    split
    · rfl
    · rename_i hi
      have h0 : 0 ≤ Lib.index s sub := by
        rcases Lib.index_spec s sub with h | ⟨i, h, _⟩
        · simp [h.1] at hi
        · omega
      have hr := Lib.index_room s sub h0
      have hl : 1 ≤ sub.length := by cases sub with | nil => exact absurd rfl hs | cons a l => simp
      rw [countFrom_fuel hs f g _ (by simp; omega) (by simp; omega)]
theorem split_none {c : UInt8} {s : List UInt8} (h : c ∉ s) : Lib.split s [c] = [s] := by
 have : Lib.count s [c] = 0 := by simp [Lib.count, Lib.countFrom, index_none h]
 unfold Lib.split
 rw [this]; rfl
theorem split_cons {c : UInt8} {x y : List UInt8} (h : c ∉ x) : Lib.split (x ++ c :: y) [c] = x :: Lib.split y [c] := by
 have hi := index_at (y := y) h
 have hm : ¬ (Lib.index (x ++ c :: y) [c] == -1) = true := by rw [hi]; simp
 have e1 : ((x.length : Int)).toNat = x.length := by omega
 have hd : (x ++ c :: y).drop (x.length + [c].length) = y := by
  have e2 : x.length + [c].length = (x ++ [c]).length := by simp
  have e3 : x ++ c :: y = (x ++ [c]) ++ y := by simp
  rw [e2, e3, List.drop_left]
 have hc : Lib.count (x ++ c :: y) [c] = Lib.count y [c] + 1 := by
  unfold Lib.count
  rw [Lib.countFrom, if_neg hm, hi, e1, hd, Nat.add_comm 1]
  rw [countFrom_fuel (by simp) _ (y.length + 1) y (by simp; omega) (by omega)]
 unfold Lib.split
 rw [hc, Lib.splitK, if_neg hm, hi, e1, hd]
 simp
def dstep (a : Nat) (c : UInt8) : Nat := a * 10 + (c.toNat - 48)
theorem dstep_eq (a : Nat) (c : UInt8) : dstep a c = a * 10 + (c.toNat - 48) := by unfold dstep; rfl
def dec (acc : Nat) (l : List UInt8) : Nat := l.foldl dstep acc
theorem dec_nil (acc : Nat) : dec acc [] = acc := by unfold dec; rw [List.foldl_nil]
theorem dec_cons (acc : Nat) (c : UInt8) (l : List UInt8) : dec acc (c :: l) = dec (acc * 10 + (c.toNat - 48)) l := by unfold dec; rw [List.foldl_cons, dstep_eq]
end
section
open Go
section
variable {v : Ver}
theorem chk_a (h : (!inB v.a 0 999999) = true) : v.check = 3 := by
 rw [inB_eq, Bool.not_not] at h
 simp [Ver.check, checkB, outsideN, h]
theorem in_out {x : Int} (h : (!inB x 0 999999) = false) : outsideN x = false := by
 rw [inB_eq, Bool.not_not] at h; exact h
theorem chk_b (ha : (!inB v.a 0 999999) = false) (h : (!inB v.b 0 999999) = true) : v.check = 3 := by
 rw [inB_eq, Bool.not_not] at h
 simp [Ver.check, checkB, outsideN, h]
theorem chk_c (ha : (!inB v.a 0 999999) = false) (hb : (!inB v.b 0 999999) = false) (h : (!inB v.c 0 999999) = true) : v.check = 3 := by
 rw [inB_eq, Bool.not_not] at h
 simp [Ver.check, checkB, outsideN, h]
theorem chk_0 (ha : (!inB v.a 0 999999) = false) (hb : (!inB v.b 0 999999) = false) (hc : (!inB v.c 0 999999) = false) (he : (v.e == []) = true) : v.check = 0 := by
 simp [Ver.check, checkB, in_out ha, in_out hb, in_out hc, he]
theorem chk_e (ha : (!inB v.a 0 999999) = false) (hb : (!inB v.b 0 999999) = false) (hc : (!inB v.c 0 999999) = false) (he : (v.e == []) = false) : v.check = if earlyB v.e then 0 else 2 := by
 simp only [Ver.check, checkB, in_out ha, in_out hb, in_out hc, he]
 cases earlyB v.e <;> rfl
theorem chk_len (ha : (!inB v.a 0 999999) = false) (hb : (!inB v.b 0 999999) = false) (hc : (!inB v.c 0 999999) = false) (he : (v.e == []) = false) (h : decide ((v.e.length : Int) > 40) = true) : v.check = 2 := by
 rw [chk_e ha hb hc he, earlyB, Bool.and_comm, not_le_of h]; rfl
theorem chk_word {j : Nat} (ha : (!inB v.a 0 999999) = false) (hb : (!inB v.b 0 999999) = false) (hc : (!inB v.c 0 999999) = false) (he : (v.e == []) = false) (hj : j < (Lib.split v.e [46]).length) (h : wordB ((Lib.split v.e [46]).getD j []) = false) : v.check = 2 := by
 rw [chk_e ha hb hc he, earlyB, all_false_of hj h]; rfl
theorem chk_ok {j : Nat} (ha : (!inB v.a 0 999999) = false) (hb : (!inB v.b 0 999999) = false) (hc : (!inB v.c 0 999999) = false) (he : (v.e == []) = false) (hl : decide ((v.e.length : Int) ≤ 40) = true) (hj : (Lib.split v.e [46]).length ≤ j) (h : ((Lib.split v.e [46]).take j).all wordB = true) : v.check = 0 := by
 rw [chk_e ha hb hc he, earlyB, all_of_take hj h, hl]; rfl
end
theorem verr_at {vs : List Ver} {i : Nat} (hi : i < vs.length) : (vs.map Ver.check).getD i 0 = (vs.getD i Ver.z).check := by
 simp [List.getD, List.getElem?_eq_getElem hi]
theorem verr_go {vs : List Ver} {i : Nat} (hi : i < vs.length) (h : (vs.getD i Ver.z).check = 0) : ((vs.map Ver.check).getD i 0 == 0) = true := by
 rw [verr_at hi, h]; rfl
theorem verr_hit {vs : List Ver} {i : Nat} {n : Int} (hi : i < vs.length) (ht : ((vs.map Ver.check).take i).all (· == 0) = true) (h : (vs.getD i Ver.z).check = n) (hn : n ≠ 0) : firstNe (vs.map Ver.check) = n := by
 rw [firstNe_hit (by simpa using hi) ht (by rw [verr_at hi, h]; exact hn), verr_at hi, h]
theorem ver_at {vs : List Ver} {i n : Nat} (hv : ∀ v ∈ vs, v.e.length < n) (hi : i < vs.length) : (vs.getD i Ver.z).e.length < n := by
 rw [List.getD_eq_getElem?_getD, List.getElem?_eq_getElem hi]
 exact hv _ (List.getElem_mem hi)
theorem cw_pq {p q : List UInt8} (h : (ofB p digitS && ofB q digitS) = true) : cwR p q = Lib.compareInt (atoiV p) (atoiV q) := if_pos h
theorem cw_p {p q : List UInt8} (h : (ofB p digitS && ofB q digitS) = false) (hp : ofB p digitS = true) : cwR p q = -1 := by rw [cwR, if_neg (Bool.eq_false_iff.1 h), if_pos hp]
theorem cw_q {p q : List UInt8} (h : (ofB p digitS && ofB q digitS) = false) (hp : ofB p digitS = false) (hq : ofB q digitS = true) : cwR p q = 1 := by rw [cwR, if_neg (Bool.eq_false_iff.1 h), if_neg (Bool.eq_false_iff.1 hp), if_pos hq]
theorem cw_n {p q : List UInt8} (h : (ofB p digitS && ofB q digitS) = false) (hp : ofB p digitS = false) (hq : ofB q digitS = false) : cwR p q = Lib.compareBytes p q := by rw [cwR, if_neg (Bool.eq_false_iff.1 h), if_neg (Bool.eq_false_iff.1 hp), if_neg (Bool.eq_false_iff.1 hq)]
theorem cw_go {xs ys : List (List UInt8)} {i : Nat} {x : Int} (hi : i < xs.length ∧ i < ys.length) (h : cwR (xs.getD i []) (ys.getD i []) = x) (hx : (x != 0) = false) : ((List.zipWith cwR xs ys).getD i 0 == 0) = true := by
 rw [zip_at [] [] hi.1 hi.2, h]; simpa using hx
theorem cw_lt {xs ys : List (List UInt8)} {i : Nat} (hi : i < xs.length ∧ i < ys.length) : i < (List.zipWith cwR xs ys).length := by simp; omega
theorem cw_hit {xs ys : List (List UInt8)} {i : Nat} {x : Int} (hi : i < xs.length ∧ i < ys.length) (ht : ((List.zipWith cwR xs ys).take i).all (· == 0) = true) (h : cwR (xs.getD i []) (ys.getD i []) = x) (hx : (x != 0) = true) : rowsR xs ys = x := by
 have hz := zip_at (f := cwR) [] [] hi.1 hi.2
 have hh := firstNe_hit (cw_lt hi) ht (by rw [hz, h]; simpa using hx)
 rw [hz, h] at hh
 rw [rowsR, hh, if_pos hx]
theorem cw_end {xs ys : List (List UInt8)} {i : Nat} (hi : xs.length ≤ i ∨ ys.length ≤ i) (ht : ((List.zipWith cwR xs ys).take i).all (· == 0) = true) : rowsR xs ys = Lib.compareInt xs.length ys.length := by
 rw [rowsR, firstNe_none (by simp; omega) ht]; rfl
section
variable {v w : Ver}
theorem cmp_1 (h : (firstNe [Lib.compareInt v.a w.a, Lib.compareInt v.b w.b, Lib.compareInt v.c w.c] != 0) = true) : compareR v w = firstNe [Lib.compareInt v.a w.a, Lib.compareInt v.b w.b, Lib.compareInt v.c w.c] := if_pos h
theorem cmp_2 (h : (firstNe [Lib.compareInt v.a w.a, Lib.compareInt v.b w.b, Lib.compareInt v.c w.c] != 0) = false) (he : (v.e == [] || w.e == []) = true) : compareR v w = Lib.compareInt (min1 w.e.length) (min1 v.e.length) := by
 rw [compareR, if_neg (Bool.eq_false_iff.1 h), if_pos he]
theorem cmp_3 (h : (firstNe [Lib.compareInt v.a w.a, Lib.compareInt v.b w.b, Lib.compareInt v.c w.c] != 0) = false) (he : (v.e == [] || w.e == []) = false) : compareR v w = rowsR (Lib.split v.e [46]) (Lib.split w.e [46]) := by
 rw [compareR, if_neg (Bool.eq_false_iff.1 h), if_neg (Bool.eq_false_iff.1 he)]
end
theorem dec_ge : ∀ (l : List UInt8) (acc : Nat), acc * 10 ^ l.length ≤ dec acc l
  | [], acc => by rw [dec_nil]; exact Nat.le_of_eq (Nat.mul_one acc)
  | c :: l, acc => by
    have h := dec_ge l (acc * 10 + (c.toNat - 48))
    simp only [dec_cons, List.length_cons, Nat.pow_succ]
    refine Nat.le_trans ?_ h
    rw [Nat.mul_comm (10 ^ l.length) 10, ← Nat.mul_assoc]
    exact Nat.mul_le_mul_right _ (by omega)
theorem dig_le {c : UInt8} (h : isDigit (bI c) = true) : 48 ≤ c.toNat ∧ c.toNat ≤ 57 := by
 unfold isDigit bI at h; simp at h; omega
theorem dec_lt : ∀ (l : List UInt8) (acc : Nat), (l.all fun c => isDigit (bI c)) = true → dec acc l < (acc + 1) * 10 ^ l.length
  | [], acc, _ => by rw [dec_nil]; exact Nat.lt_of_lt_of_le (Nat.lt_succ_self acc) (Nat.le_of_eq (Nat.mul_one _).symm)
  | c :: l, acc, h => by
    simp only [List.all_cons, Bool.and_eq_true] at h
    have h1 := dig_le h.1
    have h2 := dec_lt l (acc * 10 + (c.toNat - 48)) h.2
    simp only [dec_cons, List.length_cons, Nat.pow_succ]
    refine Nat.lt_of_lt_of_le h2 ?_
    rw [Nat.mul_comm (10 ^ l.length) 10, ← Nat.mul_assoc]
    exact Nat.mul_le_mul_right _ (by omega)
theorem dec_mono {l m : List UInt8} {a b : Nat} (hn : l.length = m.length) (hl : (l.all fun c => isDigit (bI c)) = true) (h : a < b) : dec a l < dec b m := by
 refine Nat.lt_of_lt_of_le (dec_lt l a hl) (Nat.le_trans ?_ (dec_ge m b))
 rw [hn]; exact Nat.mul_le_mul_right _ h
theorem cmp_refl (x : Int) : Lib.compareInt x x = 0 := by unfold Lib.compareInt; rw [if_neg (by omega), if_neg (by omega)]
theorem cmp_lt {x y : Int} (h : x < y) : Lib.compareInt x y = -1 := by unfold Lib.compareInt; rw [if_pos h]
theorem cmp_gt {x y : Int} (h : y < x) : Lib.compareInt x y = 1 := by unfold Lib.compareInt; rw [if_neg (by omega), if_pos h]
theorem dec_cmp : ∀ (l m : List UInt8) (acc : Nat), l.length = m.length → (l.all fun c => isDigit (bI c)) = true → (m.all fun c => isDigit (bI c)) = true → Lib.compareBytes l m = Lib.compareInt (dec acc l) (dec acc m)
  | [], [], acc, _, _, _ => by rw [dec_nil, cmp_refl]; rfl
  | [], _ :: _, _, h, _, _ => by simp at h
  | _ :: _, [], _, h, _, _ => by simp at h
  | a :: l, b :: m, acc, h, hl, hm => by
    simp only [List.length_cons, Nat.add_right_cancel_iff] at h
    simp only [List.all_cons, Bool.and_eq_true] at hl hm
    have h1 := dig_le hl.1
    have h2 := dig_le hm.1
    unfold Lib.compareBytes
    split
    · rename_i hab
      have hab' : a.toNat < b.toNat := hab
      have := dec_mono (l := l) (m := m) (a := acc * 10 + (a.toNat - 48)) (b := acc * 10 + (b.toNat - 48)) h hl.2 (by omega)
      rw [cmp_lt (by rw [dec_cons, dec_cons]; omega)]
    · split
      · rename_i hab
        have hab' : b.toNat < a.toNat := hab
        have := dec_mono (l := m) (m := l) (a := acc * 10 + (b.toNat - 48)) (b := acc * 10 + (a.toNat - 48)) h.symm hm.2 (by omega)
        rw [cmp_gt (by rw [dec_cons, dec_cons]; omega)]
      · rename_i h3 h4
        have h3' : ¬ a.toNat < b.toNat := h3
        have h4' : ¬ b.toNat < a.toNat := h4
        have e : a.toNat = b.toNat := by omega
        rw [dec_cons, dec_cons, e]
        exact dec_cmp l m _ h hl.2 hm.2
theorem decFrom_dec : ∀ (l : List UInt8) (acc : Nat), (l.all fun c => isDigit (bI c)) = true → Lib.decFrom acc l = some (dec acc l)
  | [], acc, _ => by rw [dec_nil]; rfl
  | c :: l, acc, h => by
    simp only [List.all_cons, Bool.and_eq_true] at h
    have h1 := dig_le h.1
    unfold Lib.decFrom
    rw [show Lib.digitVal c = some (c.toNat - 48) by unfold Lib.digitVal; rw [if_pos h1]]
    rw [dec_cons]
    exact decFrom_dec l _ h.2
theorem atoi_dec {l : List UInt8} (hn : l ≠ []) (hl : l.length ≤ 18) (h : (l.all fun c => isDigit (bI c)) = true) : atoiV l = dec 0 l ∧ atoiOk l = true := by
 have e : Lib.atoiAll l = .ok ((dec 0 l : Nat) : Int) := by
  rw [Lib.atoiAll_short l hl]
  have : Lib.atoi l = some ((dec 0 l : Nat) : Int) := by
   match l, hn with
   | c :: r, _ =>
    have hd := decFrom_dec (c :: r) 0 h
    simp only [List.all_cons, Bool.and_eq_true] at h
    have h1 := dig_le h.1
    have h45 : (c == 45) = false := by rw [beq_eq_false_iff_ne]; intro e; subst e; simp at h1
    have h43 : (c == 43) = false := by rw [beq_eq_false_iff_ne]; intro e; subst e; simp at h1
    simp only [Lib.atoi, h45, h43, Lib.decNat, hd]
    rfl
  rw [this]; rfl
 unfold atoiV atoiOk
 rw [e]; exact ⟨rfl, rfl⟩
theorem numeral_of {w : List UInt8} (h : numeralB w = true) : (w.all fun c => isDigit (bI c)) = true ∧ w ≠ [] ∧ w.length ≤ 10 := by
 unfold numeralB eachB at h
 simp only [Bool.and_eq_true, Bool.not_eq_true', beq_eq_false_iff_ne, decide_eq_true_eq] at h
 exact ⟨h.1, h.2.1, by omega⟩
theorem word_of {w : List UInt8} (h : wordB w = true) : w ≠ [] ∧ w.length ≤ 10 ∧ numeralB w = ofB w digitS ∧ (numeralB w = true → bI (w.getD 0 0) = 48 → w = [48]) := by
 unfold wordB eachB at h
 simp only [Bool.and_eq_true, Bool.not_eq_true', beq_eq_false_iff_ne, decide_eq_true_eq] at h
 refine ⟨h.1.2.1, by omega, ?_, fun h1 h2 => ?_⟩
 ·skip
  rw [ofB_digit, numeralB, eachB]
  have h10 : decide ((w.length : Int) ≤ 10) = true := decide_eq_true h.1.2.2
  rw [h10, show (w == []) = false from beq_eq_false_iff_ne.2 h.1.2.1]
  simp
 ·skip
  have := h.2
  rw [h1, h2] at this
  simpa using this
theorem dec_long {p q : List UInt8} (hp : numeralB p = true) (hq : numeralB q = true) (h0 : bI (q.getD 0 0) = 48 → q = [48]) (h : p.length < q.length) : dec 0 p < dec 0 q := by
 obtain ⟨p1, p2, p3⟩ := numeral_of hp
 obtain ⟨q1, q2, q3⟩ := numeral_of hq
 have hlt := dec_lt p 0 p1
 match q, q2 with
 | c :: r, _ =>
  have hr : p.length ≤ r.length := by simp at h; omega
  have hc : c.toNat - 48 ≥ 1 := by
   simp only [List.all_cons, Bool.and_eq_true] at q1
   have h1 := dig_le q1.1
   apply Decidable.byContradiction; intro hh
   have e := h0 (by simp [bI]; omega)
   have : p.length = 0 := by
    have := congrArg List.length e; simp at this; simp [this] at hr
    exact hr ▸ rfl
   exact p2 (List.length_eq_zero_iff.1 this)
  have hge := dec_ge r (c.toNat - 48)
  have h2 : 10 ^ p.length ≤ 10 ^ r.length := Nat.pow_le_pow_right (by decide) hr
  have h3 : 1 * 10 ^ r.length ≤ (c.toNat - 48) * 10 ^ r.length := Nat.mul_le_mul_right _ hc
  simp only [dec_cons, Nat.zero_mul, Nat.zero_add] at hge ⊢
  omega
theorem cw_eq {p q : List UInt8} (hp : wordB p = true) (hq : wordB q = true) : cwB p q = cwR p q := by
  obtain ⟨p1, p2, p3, p4⟩ := word_of hp
  obtain ⟨q1, q2, q3, q4⟩ := word_of hq
  unfold cwB cwR
  rw [← p3, ← q3]
  cases np : numeralB p <;> cases nq : numeralB q <;> simp only [Bool.and_true, Bool.and_false, Bool.false_and, Bool.true_and, if_true, if_false, Bool.false_eq_true]
  · obtain ⟨dp, _, _⟩ := numeral_of np
    obtain ⟨dq, _, _⟩ := numeral_of nq
    rw [(atoi_dec p1 (by omega) dp).1, (atoi_dec q1 (by omega) dq).1]
    by_cases hl : p.length = q.length
    · rw [if_neg (by simp [hl])]
      exact dec_cmp p q 0 hl dp dq
    · rw [if_pos (by simp; omega)]
      by_cases h : p.length < q.length
      · rw [cmp_lt (by omega), cmp_lt (by have := dec_long np nq (q4 nq) h; omega)]
      · rw [cmp_gt (by omega), cmp_gt (by have := dec_long nq np (p4 np) (by omega); omega)]
theorem zip_eq : ∀ {xs ys : List (List UInt8)}, xs.all wordB = true → ys.all wordB = true → List.zipWith cwB xs ys = List.zipWith cwR xs ys
  | [], _, _, _ => by simp
  | _ :: _, [], _, _ => by simp
  | x :: xs, y :: ys, h1, h2 => by
    simp only [List.all_cons, Bool.and_eq_true] at h1 h2
    simp only [List.zipWith_cons_cons, cw_eq h1.1 h2.1, zip_eq h1.2 h2.2]
theorem bytes_refl : ∀ (l : List UInt8), Lib.compareBytes l l = 0
  | [] => rfl
  | a :: l => by
    unfold Lib.compareBytes
    rw [if_neg (by show ¬ a.toNat < a.toNat; omega), if_neg (by show ¬ a.toNat < a.toNat; omega)]
    exact bytes_refl l
theorem cwB_refl (p : List UInt8) : cwB p p = 0 := by
 unfold cwB
 cases numeralB p <;> simp [bytes_refl]
theorem rows_refl (xs : List (List UInt8)) : rowsB xs xs = 0 := by
 have : firstNe (List.zipWith cwB xs xs) = 0 := by
  unfold firstNe
  rw [List.find?_eq_none.2]
  ·skip
   rfl
  ·skip
   intro x hx
   have : ∀ (l : List (List UInt8)), ∀ x ∈ List.zipWith cwB l l, x = 0 := by
    intro l
    induction l with
    | nil => simp
    | cons a l ih => intro x hx; simp only [List.zipWith_cons_cons, List.mem_cons, cwB_refl] at hx; exact hx.elim id (ih x)
   simp [this xs x hx]
 rw [rowsB, this, cmp_refl]; rfl
theorem check_early {v : Ver} (h : v.check = 0) : v.e = [] ∨ (Lib.split v.e [46]).all wordB = true := by
 unfold Ver.check checkB at h
 split at h
 ·skip
  cases h
 ·skip
  split at h
  ·skip
   cases h
  ·skip
   rename_i h2
   cases he : (v.e == []) with
   | true => exact .inl (by simpa using he)
   | false =>
    refine .inr ?_
    rw [he] at h2
    simp only [Bool.not_false, Bool.true_and, Bool.not_eq_true, Bool.not_eq_false'] at h2
    unfold earlyB at h2
    exact (Bool.and_eq_true_iff.1 h2).1
theorem first3 (a b c d : Int) : firstNe [a, b, c, d] = if firstNe [a, b, c] != 0 then firstNe [a, b, c] else d := by
 unfold firstNe
 by_cases ha : a = 0 <;> by_cases hb : b = 0 <;> by_cases hc : c = 0 <;> by_cases hd : d = 0 <;> simp [ha, hb, hc, hd, bne_iff_ne]
theorem min1_nil : min1 (([] : List UInt8).length : Int) = 0 := rfl
theorem min1_pos {l : List UInt8} (h : l ≠ []) : min1 (l.length : Int) = 1 := by
 unfold min1
 cases l with
 | nil => exact absurd rfl h
 | cons a l => rw [if_neg (by simp only [List.length_cons]; omega)]
theorem compare_eq {v w : Ver} (hv : v.check = 0) (hw : w.check = 0) : compareR v w = orderB v w := by
  unfold compareR orderB
  rw [first3]
  split
  · rfl
  · unfold ceB
    by_cases e1 : v.e = []
    · by_cases e2 : w.e = []
      · simp [e1, e2, min1, Lib.compareInt]
      · have hs : (([] : List UInt8) == w.e) = false := by rw [beq_eq_false_iff_ne]; exact fun e => e2 e.symm
        rw [e1, min1_nil, min1_pos e2, hs]; rfl
    · by_cases e2 : w.e = []
      · have hs : (v.e == ([] : List UInt8)) = false := by rw [beq_eq_false_iff_ne]; exact e1
        rw [e2, min1_nil, min1_pos e1, hs]; rfl
      · have h1 : (v.e == ([] : List UInt8)) = false := by rw [beq_eq_false_iff_ne]; exact e1
        have h2 : (w.e == ([] : List UInt8)) = false := by rw [beq_eq_false_iff_ne]; exact e2
        rw [h1, h2]
        have hr : rowsR (Lib.split v.e [46]) (Lib.split w.e [46]) = rowsB (Lib.split v.e [46]) (Lib.split w.e [46]) := by
          unfold rowsR rowsB
          rw [zip_eq ((check_early hv).resolve_left e1) ((check_early hw).resolve_left e2)]
        simp only [Bool.or_self, Bool.false_eq_true, if_false]
        rw [hr]
        by_cases e : v.e = w.e
        · rw [e, rows_refl]; simp
        · rw [if_neg (by simpa using e)]
end
section
open Go
open Go.RowKit
attribute [local irreducible] thenK blockK W
theorem pc_outref2_VersionError (vs : List Ver) (hl : vs.length ≤ 2000000) (hv : ∀ v ∈ vs, v.e.length < 4294967281) :
  PureCall Tryz.prog J 80 [.one (.d (.vec 4 (vs.map verD)))] (.one (.d (.int .i64 (firstNe (vs.map Ver.check))))) := by
 refine PureCall.of_body tOk (fn := Tryz.f80) Tryz.func80 (by kernel_rfl) rfl (Nat.le_of_ble_eq_true rfl) (fun E => ?_)
 iterate 9 first|refine Yp rfl ?_|apply Y1|apply Yn|apply Ys
 apply Yb
 refine W.loop (fun k st => ∃ i : Nat, i ≤ vs.length ∧ ((vs.map Ver.check).take i).all (· == 0) = true ∧ k = vs.length - i ∧ ∃ t b2 r2 m2, st = ⟨t, [] ++ b2, [] ++ r2, [] ++ m2⟩ ∧ holdsL t [(9, .one (.d (.vec 4 (vs.map fun x => verD x)))), (10, .one (.d (.int .i64 ((vs.map fun x => (verD x : List D)).length : Int)))), (11, .one (.d (.int .i64 (i : Int))))]) (vs.length) ⟨0, Nat.zero_le _, by simp, rfl, _, _, _, _, rfl, rfl, rfl, rfl, trivial⟩ ?_
 rintro k0 _ ⟨i, f0_0, f0_1, rfl, t0, bb0, rr0, mm0, rfl, hh0⟩
 refine W.keepR _ _ _ _ _ _ _ hh0 rfl ?_
 apply Y1
 refine Yp rfl ?_
 apply Yn
 apply Ys
 refine W.cond rfl (fun c1=>?_) fun c1=>?_
 ·skip
  have hi := row_lt c1
  have hei : (vs.getD i Ver.z).e.length < 4294967281 := ver_at hv hi
  have hsl := split_le (vs.getD i Ver.z).e [46]
  have hsm := fun j => @split_at (vs.getD i Ver.z).e [46] j
  apply Yk
  apply Yn
  apply Ys
  apply Yb
  apply Y1
  refine YE rfl (row_ok hi) (row_at Ver.z hi) rfl ?_
  iterate 12 first|refine Yp rfl ?_|refine S.store tOk rfl rfl rfl rfl rfl rfl rfl rfl ?_|refine S.alloc tOk rfl rfl rfl rfl ?_|apply Y1|apply Ys|apply Yn
  refine S.slice tOk rfl rfl ?_
  iterate 2 refine Yp rfl ?_
  apply Yn
  apply Yb
  refine W.rounds 4 ?_
  refine WR.succ ?_
  apply Y1
  refine Yp rfl ?_
  apply Yn
  apply Ys
  refine W.condT rfl rfl ?_
  apply Yk
  apply Yn
  apply Ys
  apply Yb
  apply Y1
  refine YP rfl (by first | rfl | exact idx_ok (by omega) (by omega)) rfl ?_
  iterate 4 first|refine Yp rfl ?_|apply Y3
  refine S.call rfl rfl rfl rfl rfl (pc_outref2_In _ _ _) ?_
  refine Yp rfl ?_
  apply Yn
  refine W.cond rfl (fun c3=>?_) fun c3=>?_
  ·skip
   iterate 14 first|apply Yu|apply Yv|apply Yt|refine Yp rfl ?_|apply Y1|apply Yn
   exact ⟨_, rfl, rfl, LeV.of_eq (congrArg (fun x => V.one (C.d (D.int .i64 x))) (verr_hit hi f0_1 (chk_a c3) (by decide)).symm)⟩
  iterate 6 first|refine Yp rfl ?_|apply Yw|apply Yk|apply Y4|apply Yn
  refine WR.succ ?_
  apply Y1
  refine Yp rfl ?_
  apply Yn
  apply Ys
  refine W.condT rfl rfl ?_
  apply Yk
  apply Yn
  apply Ys
  apply Yb
  apply Y1
  refine YP rfl (by first | rfl | exact idx_ok (by omega) (by omega)) rfl ?_
  iterate 4 first|refine Yp rfl ?_|apply Y3
  refine S.call rfl rfl rfl rfl rfl (pc_outref2_In _ _ _) ?_
  refine Yp rfl ?_
  apply Yn
  refine W.cond rfl (fun c5=>?_) fun c5=>?_
  ·skip
   iterate 14 first|apply Yu|apply Yv|apply Yt|refine Yp rfl ?_|apply Y1|apply Yn
   exact ⟨_, rfl, rfl, LeV.of_eq (congrArg (fun x => V.one (C.d (D.int .i64 x))) (verr_hit hi f0_1 (chk_b c3 c5) (by decide)).symm)⟩
  iterate 6 first|refine Yp rfl ?_|apply Yw|apply Yk|apply Y4|apply Yn
  refine WR.succ ?_
  apply Y1
  refine Yp rfl ?_
  apply Yn
  apply Ys
  refine W.condT rfl rfl ?_
  apply Yk
  apply Yn
  apply Ys
  apply Yb
  apply Y1
  refine YP rfl (by first | rfl | exact idx_ok (by omega) (by omega)) rfl ?_
  iterate 4 first|refine Yp rfl ?_|apply Y3
  refine S.call rfl rfl rfl rfl rfl (pc_outref2_In _ _ _) ?_
  refine Yp rfl ?_
  apply Yn
  refine W.cond rfl (fun c7=>?_) fun c7=>?_
  ·skip
   iterate 14 first|apply Yu|apply Yv|apply Yt|refine Yp rfl ?_|apply Y1|apply Yn
   exact ⟨_, rfl, rfl, LeV.of_eq (congrArg (fun x => V.one (C.d (D.int .i64 x))) (verr_hit hi f0_1 (chk_c c3 c5 c7) (by decide)).symm)⟩
  iterate 6 first|refine Yp rfl ?_|apply Yw|apply Yk|apply Y4|apply Yn
  refine WR.succ ?_
  apply Y1
  refine Yp rfl ?_
  apply Yn
  apply Ys
  refine W.condF rfl rfl ?_
  iterate 11 first|refine Yp rfl ?_|apply Ye|apply Yx|apply Yq|apply Y1|apply Yn|apply Ys
  refine W.cond rfl (fun c9=>?_) fun c9=>?_
  ·skip
   iterate 6 first|refine Yp rfl ?_|apply Yx|apply Ye|apply Yq|apply Y4
   refine loop_n (vs.length - (i + 1)) (by omega) ⟨i + 1, hi, all_take_succ (d := 0) (by simpa using hi) f0_1 (verr_go hi (chk_0 c3 c5 c7 c9)), rfl, _, _, _, _, rfl, rfl, rfl, inc_i64 (by omega), trivial⟩
  iterate 9 first|refine Yp rfl ?_|apply Yk|apply Y1|apply Yn|apply Ys
  refine W.cond rfl (fun c10=>?_) fun c10=>?_
  ·skip
   iterate 10 first|apply Yu|apply Yv|apply Yt|refine Yp rfl ?_|apply Y1|apply Yn
   exact ⟨_, rfl, rfl, LeV.of_eq (congrArg (fun x => V.one (C.d (D.int .i64 x))) (verr_hit hi f0_1 (chk_len c3 c5 c7 c9 c10) (by decide)).symm)⟩
  apply Yk
  apply Y3
  iterate 2 refine Yp rfl ?_
  refine S.call rfl rfl rfl rfl rfl (pc_Split _ _ hei (by decide)) ?_
  iterate 2 refine Yp rfl ?_
  apply Yn
  apply Yb
  refine W.loop (fun k st => ∃ j : Nat, j ≤ (Lib.split (vs.getD i Ver.z).e [46]).length ∧ ((Lib.split (vs.getD i Ver.z).e [46]).take j).all wordB = true ∧ k = (Lib.split (vs.getD i Ver.z).e [46]).length - j ∧ ∃ t b2 r2 m2, st = ⟨t, [(verD (vs.getD i Ver.z)).map .d] ++ b2, [] ++ r2, [] ++ m2⟩ ∧ holdsL t [(9, .one (.d (.vec 4 (vs.map verD)))), (10, .one (.d (.int .i64 ((vs.map verD).length : Int)))), (11, .one (.d (.int .i64 (i : Int)))), (40, .one (.d (.vec 1 ((Lib.split (vs.getD i Ver.z).e [46]).map fun x => [.str x])))), (41, .one (.d (.int .i64 (((Lib.split (vs.getD i Ver.z).e [46]).map fun x => [D.str x]).length : Int)))), (42, .one (.d (.int .i64 (j : Int))))]) ((Lib.split (vs.getD i Ver.z).e [46]).length) ⟨0, Nat.zero_le _, by simp, rfl, _, _, _, _, rfl, rfl, rfl, rfl, rfl, rfl, rfl, trivial⟩ ?_
  rintro k4 _ ⟨j, f4_0, f4_1, rfl, t4, bb4, rr4, mm4, rfl, hh4⟩
  refine W.keepR _ _ _ _ _ _ _ hh4 rfl ?_
  apply Y1
  refine Yp rfl ?_
  apply Yn
  apply Ys
  refine W.cond rfl (fun c11=>?_) fun c11=>?_
  ·skip
   have hj := row_lt c11
   apply Yk
   apply Yn
   apply Ys
   apply Yb
   apply Y1
   refine YE rfl (row_ok hj) (row_at [] hj) rfl ?_
   iterate 12 first|refine S.pickOr tOk zOk rfl rfl tg ?_|refine Yp rfl ?_|refine Yg rfl rfl tg ?_|apply Y3
   refine S.callG rfl rfl rfl rfl tg rfl rfl (fun _ => pc_outref2_Of _ smallDigitS (by decide) (by decide) (by have := hsm j; omega)) ?_
   iterate 4 first|refine S.pickOr tOk zOk rfl rfl tg ?_|refine Yg rfl rfl tg ?_|refine Yp rfl ?_
   refine S.callG rfl rfl rfl rfl tg rfl rfl (fun _ => pc_outref2_Of _ digitS (by decide) (by decide) (by have := hsm j; omega)) ?_
   iterate 7 first|refine S.pickAndG tOk zOk rfl rfl rfl tg tg ?_|refine Yg rfl rfl tg ?_
   refine YG rfl rfl tg (fun h => idx_ok (Int.le_refl _) (gt1 (andr (andr h)))) rfl ?_
   refine Yg rfl rfl tg ?_
   refine S.pickAndG tOk zOk rfl rfl rfl tg tg ?_
   refine S.pickOr tOk zOk rfl rfl tg ?_
   apply Yn
   refine W.cond rfl (fun c12=>?_) fun c12=>?_
   ·skip
    iterate 13 first|apply Yu|apply Yv|apply Yt|refine Yp rfl ?_|apply Y1|apply Yn
    exact ⟨_, rfl, rfl, LeV.of_eq (congrArg (fun x => V.one (C.d (D.int .i64 x))) (verr_hit hi f0_1 (chk_word c3 c5 c7 c9 hj (word_f' c12)) (by decide)).symm)⟩
   iterate 5 first|refine Yp rfl ?_|apply Yw|apply Yk|apply Y4
   refine loop_n ((Lib.split (vs.getD i Ver.z).e [46]).length - (j + 1)) (by omega) ⟨j + 1, hj, all_take_succ (d := []) hj f4_1 (word_t' c12), rfl, _, _, _, _, rfl, rfl, rfl, rfl, rfl, rfl, inc_i64 (by omega), trivial⟩
  have hj := row_ge c11
  iterate 8 first|refine Yp rfl ?_|apply Ye|apply Yw|apply Yx|apply Yq|apply Y4
  refine loop_n (vs.length - (i + 1)) (by omega) ⟨i + 1, hi, all_take_succ (d := 0) (by simpa using hi) f0_1 (verr_go hi (chk_ok c3 c5 c7 c9 (le_of c10) hj f4_1)), rfl, _, _, _, _, rfl, rfl, rfl, inc_i64 (by omega), trivial⟩
 have hi := row_ge c1
 apply Yq
 apply Ye
 apply Ye
 apply Yx
 apply Y3
 refine Yp rfl ?_
 apply Yn
 apply Yt
 exact ⟨_, rfl, rfl, LeV.of_eq (congrArg (fun x => V.one (C.d (D.int .i64 x))) (firstNe_none (by simpa using hi) f0_1).symm)⟩
theorem pc_outref2_CompareOf (v w : Ver) (hv : v.e.length < 4294967281) (hw : w.e.length < 4294967281) :
  PureCall Tryz.prog J 24 [verV v, verV w] (.one (.d (.int .i64 (compareR v w)))) := by
 have hl := split_le v.e [46]
 have hl2 := split_le w.e [46]
 refine PureCall.of_body tOk (fn := Tryz.f24) Tryz.func24 (by kernel_rfl) rfl (Nat.le_of_ble_eq_true rfl) (fun E => ?_)
 iterate 7 first|refine S.box rfl rfl rfl rfl ?_|refine Yp rfl ?_|apply Y1|apply Ys|apply Yn
 refine W.regionD mixed (by kernel_rfl) ?_
 iterate 4 refine Ym rfl rfl ?_
 refine D.call rfl rfl rfl rfl rfl (pc_cmpInt _ _) ?_
 iterate 4 refine Ym rfl rfl ?_
 refine D.call rfl rfl rfl rfl rfl (pc_cmpInt _ _) ?_
 iterate 4 refine Ym rfl rfl ?_
 refine D.call rfl rfl rfl rfl rfl (pc_cmpInt _ _) ?_
 refine D.slice tOk rfl rfl ?_
 refine D.call rfl rfl rfl rfl rfl (pc_cmp_Or_int_ [_, _, _] (by simp)) ?_
 refine Ym rfl rfl ?_
 apply Y3
 iterate 2 refine Yp rfl ?_
 apply Yn
 refine W.cond rfl (fun c1=>?_) fun c1=>?_
 ·skip
  iterate 6 first|refine Yp rfl ?_|apply Yu|apply Yt|apply Y1|apply Yn
  exact ⟨_, rfl, rfl, LeV.of_eq (congrArg (fun x => V.one (C.d (D.int .i64 x))) (cmp_1 c1).symm)⟩
 iterate 13 first|refine S.pickOr tOk zOk rfl rfl tg ?_|refine Yp rfl ?_|refine Yg rfl rfl tg ?_|apply Yk|apply Y1|apply Yn|apply Ys
 refine W.cond rfl (fun c2=>?_) fun c2=>?_
 ·skip
  apply Y1
  iterate 8 refine Yp rfl ?_
  refine S.call rfl rfl rfl rfl rfl (pc_cmpInt _ _) ?_
  refine Yp rfl ?_
  apply Yn
  apply Yt
  apply Yu
  exact ⟨_, rfl, rfl, LeV.of_eq (congrArg (fun x => V.one (C.d (D.int .i64 x))) (cmp_2 c1 c2).symm)⟩
 apply Yk
 apply Yn
 apply Ys
 refine W.regionD mixed (by kernel_rfl) ?_
 iterate 2 refine Ym rfl rfl ?_
 refine D.call rfl rfl rfl rfl rfl (pc_Split _ _ hv (by decide)) ?_
 iterate 2 refine Ym rfl rfl ?_
 refine D.call rfl rfl rfl rfl rfl (pc_Split _ _ hw (by decide)) ?_
 iterate 2 refine Ym rfl rfl ?_
 iterate 11 first|refine Yp rfl ?_|apply Yb|apply Y1|apply Yn|apply Ys
 refine W.loop (fun k st => ∃ i : Nat, i ≤ (Lib.split v.e [46]).length ∧ ((List.zipWith cwR (Lib.split v.e [46]) (Lib.split w.e [46])).take i).all (· == 0) = true ∧ k = (Lib.split v.e [46]).length - i ∧ ∃ t b2 r2 m2, st = ⟨t, [] ++ b2, [] ++ r2, [] ++ m2⟩ ∧ holdsL t [(6, .one (.d (.vec 1 ((Lib.split v.e [46]).map fun x => [.str x])))), (7, .one (.d (.vec 1 ((Lib.split w.e [46]).map fun x => [.str x])))), (63, .one (.d (.int .i64 (if (((Lib.split w.e [46]).map fun x => [D.str x]).length : Int) < (((Lib.split v.e [46]).map fun x => [D.str x]).length : Int) then (((Lib.split w.e [46]).map fun x => [D.str x]).length : Int) else (((Lib.split v.e [46]).map fun x => [D.str x]).length : Int))))), (64, .one (.d (.int .i64 (i : Int))))]) ((Lib.split v.e [46]).length) ⟨0, Nat.zero_le _, by simp, rfl, _, _, _, _, rfl, rfl, rfl, rfl, rfl, trivial⟩ ?_
 rintro k0 _ ⟨i, f0_0, f0_1, rfl, t0, bb0, rr0, mm0, rfl, hh0⟩
 refine W.keepR _ _ _ _ _ _ _ hh0 rfl ?_
 apply Y1
 refine Yp rfl ?_
 apply Yn
 apply Ys
 refine W.cond rfl (fun c3=>?_) fun c3=>?_
 ·skip
  have hi := min_lt (xs := (Lib.split v.e [46])) (ys := (Lib.split w.e [46])) (by simp) (by simp) c3
  iterate 9 first|refine Yp rfl ?_|apply Yb|apply Yk|apply Y1|apply Ys|apply Yn
  refine W.regionD mixed (by kernel_rfl) ?_
  iterate 2 refine Ym rfl rfl ?_
  refine D.pureE tOk zOk rfl rfl (row_ok hi.1) (row_at [] hi.1) rfl ?_
  refine Ym rfl rfl ?_
  refine D.call rfl rfl rfl rfl rfl (pc_outref2_Of _ digitS (by decide) (by decide) (by have := @split_at v.e [46] i; omega)) ?_
  iterate 2 refine Ym rfl rfl ?_
  refine D.pureE tOk zOk rfl rfl (row_ok hi.2) (row_at [] hi.2) rfl ?_
  refine Ym rfl rfl ?_
  refine D.call rfl rfl rfl rfl rfl (pc_outref2_Of _ digitS (by decide) (by decide) (by have := @split_at w.e [46] i; omega)) ?_
  iterate 2 refine Ym rfl rfl ?_
  apply Y3
  iterate 2 refine Yp rfl ?_
  refine YE rfl (row_ok hi.1) (row_at [] hi.1) rfl ?_
  refine Yp rfl ?_
  refine S.call rfl rfl rfl rfl rfl (pc_Atoi _ (by have := @split_at v.e [46] i; omega)) ?_
  iterate 8 first|refine Yp rfl ?_|apply Y3
  refine YE rfl (row_ok hi.2) (row_at [] hi.2) rfl ?_
  refine Yp rfl ?_
  refine S.call rfl rfl rfl rfl rfl (pc_Atoi _ (by have := @split_at w.e [46] i; omega)) ?_
  iterate 5 refine Yp rfl ?_
  apply Yn
  apply Ys
  refine W.regionD mixed (by kernel_rfl) ?_
  iterate 2 refine Ym rfl rfl ?_
  refine D.pureE tOk zOk rfl rfl (row_ok hi.1) (row_at [] hi.1) rfl ?_
  iterate 3 refine Ym rfl rfl ?_
  refine D.pureE tOk zOk rfl rfl (row_ok hi.2) (row_at [] hi.2) rfl ?_
  refine Ym rfl rfl ?_
  refine D.call rfl rfl rfl rfl rfl (pc_Compare _ _) ?_
  refine Ym rfl rfl ?_
  iterate 10 first|refine S.pickAnd tOk zOk rfl rfl tg ?_|refine Yp rfl ?_|refine Yg rfl rfl tg ?_|apply Yb|apply Y1|apply Yn|apply Ys
  refine W.cond rfl (fun c4=>?_) fun c4=>?_
  ·skip
   apply Yr
   iterate 2 refine Yp rfl ?_
   refine S.call rfl rfl rfl rfl rfl (pc_cmpInt _ _) ?_
   iterate 6 first|refine Yp rfl ?_|apply Yw|apply Y3|apply Yn
   refine W.cond rfl (fun c5=>?_) fun c5=>?_
   ·skip
    iterate 10 first|apply Yu|apply Yv|refine Yp rfl ?_|apply Yt|apply Y1|apply Yn
    exact ⟨_, rfl, rfl, LeV.of_eq (congrArg (fun x => V.one (C.d (D.int .i64 x))) ((cmp_3 c1 c2).trans (cw_hit hi f0_1 (cw_pq c4) c5)).symm)⟩
   iterate 5 first|refine Yp rfl ?_|apply Yw|apply Yk|apply Y4
   refine loop_n ((Lib.split v.e [46]).length - (i + 1)) (by omega) ⟨i + 1, by omega, all_take_succ (d := 0) (cw_lt hi) f0_1 (cw_go hi (cw_pq c4) c5), rfl, _, _, _, _, rfl, rfl, rfl, rfl, inc_i64 (by omega), trivial⟩
  apply Y1
  iterate 2 refine Yp rfl ?_
  apply Yn
  refine W.cond rfl (fun c6=>?_) fun c6=>?_
  ·skip
   iterate 7 first|refine Yp rfl ?_|apply Yw|apply Y3|apply Yn|apply Yr
   refine W.cond rfl (fun c7=>?_) fun c7=>?_
   ·skip
    iterate 10 first|apply Yu|apply Yv|refine Yp rfl ?_|apply Yt|apply Y1|apply Yn
    exact ⟨_, rfl, rfl, LeV.of_eq (congrArg (fun x => V.one (C.d (D.int .i64 x))) ((cmp_3 c1 c2).trans (cw_hit hi f0_1 (cw_p c4 c6) c7)).symm)⟩
   iterate 5 first|refine Yp rfl ?_|apply Yw|apply Yk|apply Y4
   refine loop_n ((Lib.split v.e [46]).length - (i + 1)) (by omega) ⟨i + 1, by omega, all_take_succ (d := 0) (cw_lt hi) f0_1 (cw_go hi (cw_p c4 c6) c7), rfl, _, _, _, _, rfl, rfl, rfl, rfl, inc_i64 (by omega), trivial⟩
  apply Y1
  iterate 2 refine Yp rfl ?_
  apply Yn
  refine W.cond rfl (fun c8=>?_) fun c8=>?_
  ·skip
   iterate 7 first|refine Yp rfl ?_|apply Yw|apply Y3|apply Yn|apply Yr
   refine W.cond rfl (fun c9=>?_) fun c9=>?_
   ·skip
    iterate 10 first|apply Yu|apply Yv|refine Yp rfl ?_|apply Yt|apply Y1|apply Yn
    exact ⟨_, rfl, rfl, LeV.of_eq (congrArg (fun x => V.one (C.d (D.int .i64 x))) ((cmp_3 c1 c2).trans (cw_hit hi f0_1 (cw_q c4 c6 c8) c9)).symm)⟩
   iterate 5 first|refine Yp rfl ?_|apply Yw|apply Yk|apply Y4
   refine loop_n ((Lib.split v.e [46]).length - (i + 1)) (by omega) ⟨i + 1, by omega, all_take_succ (d := 0) (cw_lt hi) f0_1 (cw_go hi (cw_q c4 c6 c8) c9), rfl, _, _, _, _, rfl, rfl, rfl, rfl, inc_i64 (by omega), trivial⟩
  iterate 6 first|refine Yp rfl ?_|apply Yw|apply Yk|apply Y3|apply Yn
  refine W.cond rfl (fun c10=>?_) fun c10=>?_
  ·skip
   iterate 10 first|apply Yu|apply Yv|refine Yp rfl ?_|apply Yt|apply Y1|apply Yn
   exact ⟨_, rfl, rfl, LeV.of_eq (congrArg (fun x => V.one (C.d (D.int .i64 x))) ((cmp_3 c1 c2).trans (cw_hit hi f0_1 (cw_n c4 c6 c8) c10)).symm)⟩
  apply Yk
  apply Yw
  apply Y4
  iterate 2 refine Yp rfl ?_
  refine loop_n ((Lib.split v.e [46]).length - (i + 1)) (by omega) ⟨i + 1, by omega, all_take_succ (d := 0) (cw_lt hi) f0_1 (cw_go hi (cw_n c4 c6 c8) c10), rfl, _, _, _, _, rfl, rfl, rfl, rfl, inc_i64 (by omega), trivial⟩
 have hi := min_ge (xs := (Lib.split v.e [46])) (ys := (Lib.split w.e [46])) (by simp) (by simp) c3
 iterate 9 first|refine Yp rfl ?_|apply Ye|apply Yx|apply Yq|apply Y3
 refine S.call rfl rfl rfl rfl rfl (pc_cmpInt _ _) ?_
 refine Yp rfl ?_
 apply Yn
 apply Yt
 exact Yz rfl rfl rfl (by rw [(cmp_3 c1 c2).trans (cw_end hi f0_1)]; simp)
end
section
open Go
def firstB (a b : Int) : Int := if a != 0 then a else b
theorem first2 (a b : Int) : firstNe [a, b] = firstB a b := by
 unfold firstNe firstB
 by_cases ha : a = 0 <;> by_cases hb : b = 0 <;> simp [ha, hb, bne_iff_ne]
theorem first1 (a : Int) : firstNe [a] = a := by
 unfold firstNe
 by_cases ha : a = 0 <;> simp [ha, bne_iff_ne]
def partE (p : Int) : Int := if !inB p 0 2 then 3 else 0
section
variable {v : Ver} {p : Int}
theorem part_ok (h : (firstB v.check (partE p) != 0) = false) : v.check = 0 ∧ 0 ≤ p ∧ p ≤ 2 := by
 unfold firstB partE at h
 by_cases hc : v.check = 0
 ·skip
  simp [hc] at h
  unfold inB at h
  simp at h
  exact ⟨hc, by omega⟩
 ·skip
  simp [hc] at h
theorem nxt_err (h : (firstB v.check (partE p) != 0) = true) : nextB v p = (Ver.z, firstB v.check (partE p)) := by
 unfold nextB
 by_cases hc : v.check = 0
 ·skip
  have hp : partE p = 3 ∧ ¬ (0 ≤ p ∧ p ≤ 2) := by
   unfold firstB at h
   simp [hc] at h
   unfold partE at h ⊢
   cases hi : inB p 0 2 with
   | true => simp [hi] at h
   | false => unfold inB at hi; simp at hi; exact ⟨rfl, by omega⟩
  have h0 : (p == 0) = false := by simp; omega
  have h1 : (p == 1) = false := by simp; omega
  have h2 : (p == 2) = false := by simp; omega
  unfold firstB
  rw [hc, h0, h1, h2, hp.1]; rfl
 ·skip
  unfold firstB
  rw [if_pos (by simpa using hc), if_pos (by simpa using hc)]
theorem nxt_0 (h : (firstB v.check (partE p) != 0) = false) (h0 : (p == 0) = true) : nextB v p = nextOk (w1 v.a) 0 0 := by
 unfold nextB
 rw [(part_ok h).1, h0]; rfl
theorem nxt_1 (h : (firstB v.check (partE p) != 0) = false) (h0 : (p == 0) = false) (h1 : (p == 1) = true) : nextB v p = nextOk v.a (w1 v.b) 0 := by
 unfold nextB
 rw [(part_ok h).1, h0, h1]; rfl
theorem two_of (h : (firstB v.check (partE p) != 0) = false) (h0 : (p == 0) = false) (h1 : (p == 1) = false) : (p == 2) = true := by
 have := part_ok h
 simp at h0 h1 ⊢; omega
theorem nxt_2 (h : (firstB v.check (partE p) != 0) = false) (h0 : (p == 0) = false) (h1 : (p == 1) = false) (h2 : (!(!(v.e == []))) = true) : nextB v p = nextOk v.a v.b (w1 v.c) := by
 unfold nextB
 rw [(part_ok h).1, h0, h1, two_of h h0 h1]
 rw [Bool.not_not] at h2
 rw [h2]; rfl
theorem nxt_3 (h : (firstB v.check (partE p) != 0) = false) (h0 : (p == 0) = false) (h1 : (p == 1) = false) (h2 : (!(!(v.e == []))) = false) : nextB v p = nextOk v.a v.b v.c := by
 unfold nextB
 rw [(part_ok h).1, h0, h1, two_of h h0 h1]
 rw [Bool.not_not] at h2
 rw [h2]; rfl
theorem nextOk_err {x y z : Int} (h : (checkB x y z [] != 0) = true) : nextOk x y z = (Ver.z, checkB x y z []) := by
 unfold nextOk
 rw [if_pos h, checkB_nil x y z (by simpa using h)]
theorem nextOk_ok {x y z : Int} (h : (checkB x y z [] != 0) = false) : nextOk x y z = (⟨x, y, z, []⟩, 0) := if_neg (Bool.eq_false_iff.1 h)
end
end
section
open Go
open Go.RowKit
attribute [local irreducible] thenK blockK W
theorem pc_verr1 (v : Ver) (he : v.e.length < 4294967281) : PureCall Tryz.prog J 80 [.one (.d (.vec 4 [verD v]))] (.one (.d (.int .i64 v.check))) := by
 have h := pc_outref2_VersionError [v] (by simp) (by simpa using he)
 rw [show firstNe ([v].map Ver.check) = v.check from first1 _] at h
 exact h
theorem pc_first2 (a b : Int) : PureCall Tryz.prog J 16 [.one (.d (.vec 1 [[.int .i64 a], [.int .i64 b]]))] (.one (.d (.int .i64 (firstB a b)))) := by
 have h := pc_outref2_First [a, b] (by simp)
 rw [first2] at h
 exact h
theorem pc_num9 (s : List UInt8) (hs : s.length < 4294967281) : PureCall Tryz.prog J 293 [.one (.d (.str s)), .one (.d (.int .i64 9))] (.tup [.one (.d (.int .i64 (numB s).1)), .one (.d (.bool (numB s).2))]) := by
 have h := pc_outref2_Number s 9 (by decide) hs
 rw [numR_eq] at h
 exact h
theorem pc_outref2_NextOf (v : Ver) (he : v.e.length < 4294967281) (p : Int) :
  PureCall Tryz.prog J 295 [verV v, .one (.d (.int .i64 p))] (.tup [verV (nextB v p).1, .one (.d (.int .i64 (nextB v p).2))]) := by
 refine PureCall.of_body tOk (fn := Tryz.f295) Tryz.func295 (by kernel_rfl) rfl (Nat.le_of_ble_eq_true rfl) (fun E => ?_)
 iterate 8 first|refine Yp rfl ?_|refine S.alloc tOk rfl rfl rfl rfl ?_|refine S.box rfl rfl rfl rfl ?_|apply Y1|apply Ys|apply Yn
 refine S.slice tOk rfl rfl ?_
 refine S.call rfl rfl rfl rfl rfl (pc_verr1 v he) ?_
 refine Yp rfl ?_
 refine S.call rfl rfl rfl rfl rfl (pc_outref2_In _ _ _) ?_
 refine Yp rfl ?_
 refine S.call rfl rfl rfl rfl rfl (pc_outref2_When _ _) ?_
 refine S.slice tOk rfl rfl ?_
 refine S.call rfl rfl rfl rfl rfl (pc_first2 v.check (partE p)) ?_
 iterate 5 first|refine Yp rfl ?_|apply Y3|apply Yn
 refine W.cond rfl (fun c1=>?_) fun c1=>?_
 ·skip
  iterate 8 first|refine Yp rfl ?_|apply Yu|apply Yt|refine S.store tOk rfl rfl rfl rfl rfl rfl rfl rfl ?_|apply Y1|apply Yn
  exact Yz rfl rfl rfl (by rw [nxt_err c1]; rfl)
 iterate 17 first|refine Yp rfl ?_|apply Yb|refine S.store tOk rfl rfl rfl rfl rfl rfl rfl rfl ?_|apply Yk|apply Y3|apply Y1|apply Yn|apply Ys
 refine W.cond rfl (fun c2=>?_) fun c2=>?_
 ·skip
  iterate 11 first|refine Yp rfl ?_|apply Yw|refine S.store tOk rfl rfl rfl rfl rfl rfl rfl rfl ?_|apply Y1|apply Ys|apply Yn|apply Yr
  refine S.slice tOk rfl rfl ?_
  refine S.call rfl rfl rfl rfl rfl (pc_verr1 ⟨w1 v.a, 0, 0, []⟩ (by decide : ([] : List UInt8).length < _)) ?_
  iterate 5 first|refine Yp rfl ?_|apply Y3|apply Yn
  refine W.cond rfl (fun c3=>?_) fun c3=>?_
  ·skip
   iterate 8 first|refine Yp rfl ?_|apply Yu|apply Yt|refine S.store tOk rfl rfl rfl rfl rfl rfl rfl rfl ?_|apply Y1|apply Yn
   exact Yz rfl rfl rfl (by rw [(nxt_0 c1 c2).trans (nextOk_err c3)]; rfl)
  iterate 7 first|refine Yp rfl ?_|apply Yt|refine S.store tOk rfl rfl rfl rfl rfl rfl rfl rfl ?_|apply Yk|apply Y3|apply Yn
  exact Yz rfl rfl rfl (by rw [(nxt_0 c1 c2).trans (nextOk_ok c3)]; rfl)
 apply Y1
 iterate 3 refine Yp rfl ?_
 apply Yn
 refine W.cond rfl (fun c4=>?_) fun c4=>?_
 ·skip
  iterate 13 first|refine Yp rfl ?_|apply Yw|refine S.store tOk rfl rfl rfl rfl rfl rfl rfl rfl ?_|apply Y1|apply Ys|apply Yn|apply Yr
  refine S.slice tOk rfl rfl ?_
  refine S.call rfl rfl rfl rfl rfl (pc_verr1 ⟨v.a, w1 v.b, 0, []⟩ (by decide : ([] : List UInt8).length < _)) ?_
  iterate 5 first|refine Yp rfl ?_|apply Y3|apply Yn
  refine W.cond rfl (fun c5=>?_) fun c5=>?_
  ·skip
   iterate 8 first|refine Yp rfl ?_|apply Yu|apply Yt|refine S.store tOk rfl rfl rfl rfl rfl rfl rfl rfl ?_|apply Y1|apply Yn
   exact Yz rfl rfl rfl (by rw [(nxt_1 c1 c2 c4).trans (nextOk_err c5)]; rfl)
  iterate 7 first|refine Yp rfl ?_|apply Yt|refine S.store tOk rfl rfl rfl rfl rfl rfl rfl rfl ?_|apply Yk|apply Y3|apply Yn
  exact Yz rfl rfl rfl (by rw [(nxt_1 c1 c2 c4).trans (nextOk_ok c5)]; rfl)
 apply Y1
 iterate 3 refine Yp rfl ?_
 apply Yn
 refine W.cond rfl (fun c6=>?_) fun c6=>?_
 ·skip
  iterate 11 first|refine Yp rfl ?_|apply Yw|refine S.store tOk rfl rfl rfl rfl rfl rfl rfl rfl ?_|apply Y1|apply Ys|apply Yn|apply Yr
  refine S.slice tOk rfl rfl ?_
  refine S.call rfl rfl rfl rfl rfl (pc_verr1 ⟨v.a, v.b, w1 v.c, []⟩ (by decide : ([] : List UInt8).length < _)) ?_
  iterate 5 first|refine Yp rfl ?_|apply Y3|apply Yn
  refine W.cond rfl (fun c7=>?_) fun c7=>?_
  ·skip
   iterate 8 first|refine Yp rfl ?_|apply Yu|apply Yt|refine S.store tOk rfl rfl rfl rfl rfl rfl rfl rfl ?_|apply Y1|apply Yn
   exact Yz rfl rfl rfl (by rw [(nxt_2 c1 c2 c4 c6).trans (nextOk_err c7)]; rfl)
  iterate 7 first|refine Yp rfl ?_|apply Yt|refine S.store tOk rfl rfl rfl rfl rfl rfl rfl rfl ?_|apply Yk|apply Y3|apply Yn
  exact Yz rfl rfl rfl (by rw [(nxt_2 c1 c2 c4 c6).trans (nextOk_ok c7)]; rfl)
 apply Yk
 apply Yw
 apply Yn
 apply Ys
 apply Y1
 refine Yp rfl ?_
 refine S.slice tOk rfl rfl ?_
 refine S.call rfl rfl rfl rfl rfl (pc_verr1 ⟨v.a, v.b, v.c, []⟩ (by decide : ([] : List UInt8).length < _)) ?_
 iterate 5 first|refine Yp rfl ?_|apply Y3|apply Yn
 refine W.cond rfl (fun c8=>?_) fun c8=>?_
 ·skip
  iterate 8 first|refine Yp rfl ?_|apply Yu|apply Yt|refine S.store tOk rfl rfl rfl rfl rfl rfl rfl rfl ?_|apply Y1|apply Yn
  exact Yz rfl rfl rfl (by rw [(nxt_3 c1 c2 c4 c6).trans (nextOk_err c8)]; rfl)
 iterate 7 first|refine Yp rfl ?_|apply Yt|refine S.store tOk rfl rfl rfl rfl rfl rfl rfl rfl ?_|apply Yk|apply Y3|apply Yn
 exact Yz rfl rfl rfl (by rw [(nxt_3 c1 c2 c4 c6).trans (nextOk_ok c8)]; rfl)
theorem pc_outref2_ReadVersion (s : List UInt8) (hs : s.length < 4294967281) :
  PureCall Tryz.prog J 264 [.one (.d (.str s))] (.tup [verV (parseB s).1, .one (.d (.int .i64 (parseB s).2))]) := by
 have hc := cut_le s [45]
 have hm := fun i => @split_at (Lib.cut s [45]).1 [46] i
 have hsp := pc_Split (Lib.cut s [45]).1 [46] (by omega) (by decide)
 unfold parseB
 generalize hws : Lib.split (Lib.cut s [45]).1 [46] = ws at hm hsp ⊢
 refine PureCall.of_body tOk (fn := Tryz.f264) Tryz.func264 (by kernel_rfl) rfl (Nat.le_of_ble_eq_true rfl) (fun E => ?_)
 iterate 5 first|refine Yp rfl ?_|refine S.alloc tOk rfl rfl rfl rfl ?_|apply Y3|apply Y1
 refine S.call rfl rfl rfl rfl rfl (pc_Cut _ _ hs) ?_
 iterate 9 first|refine Yp rfl ?_|apply Y3
 refine S.call rfl rfl rfl rfl rfl (hsp) ?_
 iterate 15 first|refine S.pickOr tOk zOk rfl rfl tg ?_|refine S.pickAndG tOk zOk rfl rfl rfl tg tg ?_|refine Yp rfl ?_|refine Yg rfl rfl tg ?_|apply Y1|apply Yn|apply Ys
 refine W.cond rfl (fun c1=>?_) fun c1=>?_
 ·skip
  iterate 7 first|refine Yp rfl ?_|apply Yu|apply Yt|refine S.store tOk rfl rfl rfl rfl rfl rfl rfl rfl ?_|apply Y1|apply Yn
  exact Yz rfl rfl rfl (by simp_all [parseW, verV, Ver.z])
 have h3 : ws.length = 3 := by simp at c1; omega
 obtain ⟨p, q, r, rfl⟩ := three h3
 iterate 9 first|apply Yb|refine Yp rfl ?_|refine S.alloc tOk rfl rfl rfl rfl ?_|apply Yk|apply Y1|apply Y3|apply Yn|apply Ys
 refine W.rounds 4 ?_
 refine WR.succ ?_
 apply Y1
 refine Yp rfl ?_
 apply Yn
 apply Ys
 refine W.condT rfl rfl ?_
 apply Yk
 iterate 9 first|refine Yp rfl ?_|apply Yb|apply Y3|apply Y1|apply Ys|apply Yn
 refine YP rfl (by first | rfl | exact idx_ok (by omega) (by omega)) rfl ?_
 refine Yp rfl ?_
 refine S.call rfl rfl rfl rfl rfl (pc_num9 _ (by first | (have := hm 0; simp at this; omega) | (have := hm 1; simp at this; omega) | (have := hm 2; simp at this; omega))) ?_
 iterate 11 first|refine Yp rfl ?_|apply Y1|apply Yn|apply Ys
 refine W.cond rfl (fun c3=>?_) fun c3=>?_
 ·skip
  iterate 12 first|apply Yu|apply Yv|refine Yp rfl ?_|apply Yt|refine S.store tOk rfl rfl rfl rfl rfl rfl rfl rfl ?_|apply Y1|apply Yn
  exact Yz rfl rfl rfl (by rw [parse_ok c1]; clear c1; simp_all [threeB, verV, Ver.z, Ver.check])
 apply Yk
 apply Y4
 iterate 2 refine Yp rfl ?_
 refine YP rfl (by first | rfl | exact idx_ok (by omega) (by omega)) rfl ?_
 refine S.store tOk rfl rfl rfl rfl rfl rfl rfl rfl ?_
 apply Yw
 apply Y4
 iterate 2 refine Yp rfl ?_
 apply Yn
 refine WR.succ ?_
 apply Y1
 refine Yp rfl ?_
 apply Yn
 apply Ys
 refine W.condT rfl rfl ?_
 apply Yk
 iterate 9 first|refine Yp rfl ?_|apply Yb|apply Y3|apply Y1|apply Ys|apply Yn
 refine YP rfl (by first | rfl | exact idx_ok (by omega) (by omega)) rfl ?_
 refine Yp rfl ?_
 refine S.call rfl rfl rfl rfl rfl (pc_num9 _ (by first | (have := hm 0; simp at this; omega) | (have := hm 1; simp at this; omega) | (have := hm 2; simp at this; omega))) ?_
 iterate 11 first|refine Yp rfl ?_|apply Y1|apply Yn|apply Ys
 refine W.cond rfl (fun c5=>?_) fun c5=>?_
 ·skip
  iterate 12 first|apply Yu|apply Yv|refine Yp rfl ?_|apply Yt|refine S.store tOk rfl rfl rfl rfl rfl rfl rfl rfl ?_|apply Y1|apply Yn
  exact Yz rfl rfl rfl (by rw [parse_ok c1]; clear c1; simp_all [threeB, verV, Ver.z, Ver.check])
 apply Yk
 apply Y4
 iterate 2 refine Yp rfl ?_
 refine YP rfl (by first | rfl | exact idx_ok (by omega) (by omega)) rfl ?_
 refine S.store tOk rfl rfl rfl rfl rfl rfl rfl rfl ?_
 apply Yw
 apply Y4
 iterate 2 refine Yp rfl ?_
 apply Yn
 refine WR.succ ?_
 apply Y1
 refine Yp rfl ?_
 apply Yn
 apply Ys
 refine W.condT rfl rfl ?_
 apply Yk
 iterate 9 first|refine Yp rfl ?_|apply Yb|apply Y3|apply Y1|apply Ys|apply Yn
 refine YP rfl (by first | rfl | exact idx_ok (by omega) (by omega)) rfl ?_
 refine Yp rfl ?_
 refine S.call rfl rfl rfl rfl rfl (pc_num9 _ (by first | (have := hm 0; simp at this; omega) | (have := hm 1; simp at this; omega) | (have := hm 2; simp at this; omega))) ?_
 iterate 11 first|refine Yp rfl ?_|apply Y1|apply Yn|apply Ys
 refine W.cond rfl (fun c7=>?_) fun c7=>?_
 ·skip
  iterate 12 first|apply Yu|apply Yv|refine Yp rfl ?_|apply Yt|refine S.store tOk rfl rfl rfl rfl rfl rfl rfl rfl ?_|apply Y1|apply Yn
  exact Yz rfl rfl rfl (by rw [parse_ok c1]; clear c1; simp_all [threeB, verV, Ver.z, Ver.check])
 apply Yk
 apply Y4
 iterate 2 refine Yp rfl ?_
 refine YP rfl (by first | rfl | exact idx_ok (by omega) (by omega)) rfl ?_
 refine S.store tOk rfl rfl rfl rfl rfl rfl rfl rfl ?_
 apply Yw
 apply Y4
 iterate 2 refine Yp rfl ?_
 apply Yn
 refine WR.succ ?_
 apply Y1
 refine Yp rfl ?_
 apply Yn
 apply Ys
 refine W.condF rfl rfl ?_
 apply Yq
 apply Ye
 apply Ye
 apply Yx
 apply Y3
 refine YP rfl (by first | rfl | exact idx_ok (by omega) (by omega)) rfl ?_
 refine Yp rfl ?_
 refine YP rfl (by first | rfl | exact idx_ok (by omega) (by omega)) rfl ?_
 refine Yp rfl ?_
 refine YP rfl (by first | rfl | exact idx_ok (by omega) (by omega)) rfl ?_
 iterate 9 first|refine Yp rfl ?_|refine S.store tOk rfl rfl rfl rfl rfl rfl rfl rfl ?_|refine S.alloc tOk rfl rfl rfl rfl ?_|apply Y1|apply Ys|apply Yn
 refine S.slice tOk rfl rfl ?_
 refine S.call rfl rfl rfl rfl rfl (pc_verr1 ⟨(numB p).1, (numB q).1, (numB r).1, (Lib.cut s [45]).2.1⟩ (by show (Lib.cut s [45]).2.1.length < _; omega)) ?_
 iterate 5 first|refine Yp rfl ?_|apply Y3|apply Yn
 refine W.cond rfl (fun c9=>?_) fun c9=>?_
 ·skip
  iterate 8 first|refine Yp rfl ?_|apply Yu|apply Yt|refine S.store tOk rfl rfl rfl rfl rfl rfl rfl rfl ?_|apply Y1|apply Yn
  exact Yz rfl rfl rfl (by rw [parse_ok c1]; clear c1; simp_all [threeB, verV, Ver.z, Ver.check])
 iterate 7 first|refine Yp rfl ?_|apply Yt|refine S.store tOk rfl rfl rfl rfl rfl rfl rfl rfl ?_|apply Yk|apply Y3|apply Yn
 exact Yz rfl rfl rfl (by rw [parse_ok c1]; clear c1; simp_all [threeB, verV, Ver.z, Ver.check])
end
section
open Go
structure Sp where
 hf : Bool
 ht : Bool
 f : Ver
 t : Ver
 deriving DecidableEq
def Sp.z : Sp := ⟨false, false, Ver.z, Ver.z⟩
def Ver.eqb (v w : Ver) : Bool := v.a == w.a && (v.b == w.b && (v.c == w.c && (v.e == w.e && true)))
theorem Ver.eqb_iff {v w : Ver} : v.eqb w = true ↔ v = w := by
 cases v; cases w
 simp [Ver.eqb]
def Sp.eqb (s u : Sp) : Bool := s.hf == u.hf && (s.ht == u.ht && (s.f.eqb u.f && (s.t.eqb u.t && true)))
theorem Sp.eqb_iff {v w : Sp} : v.eqb w = true ↔ v = w := by
 cases v; cases w
 simp [Sp.eqb, Ver.eqb_iff]
def spanE (s : Sp) : Int :=
 if (!(s.f.eqb Ver.z) && !s.hf) || (!(s.t.eqb Ver.z) && !s.ht) then 2
 else if s.hf && s.f.check != 0 then s.f.check
 else if s.ht && s.t.check != 0 then s.t.check
 else if (s.hf && s.ht) && decide (orderB s.f s.t ≥ 0) then 7 else 0
section
variable {s : Sp}
theorem spE_form (h1 : ((!(s.f.eqb Ver.z) && !s.hf) || (!(s.t.eqb Ver.z) && !s.ht)) = true) : spanE s = 2 := if_pos h1
theorem spE_f (h1 : ((!(s.f.eqb Ver.z) && !s.hf) || (!(s.t.eqb Ver.z) && !s.ht)) = false) (h2 : (s.hf && s.f.check != 0) = true) : spanE s = s.f.check := by
 rw [spanE, if_neg (Bool.eq_false_iff.1 h1), if_pos h2]
theorem spE_t (h1 : ((!(s.f.eqb Ver.z) && !s.hf) || (!(s.t.eqb Ver.z) && !s.ht)) = false) (h2 : (s.hf && s.f.check != 0) = false) (h3 : (s.ht && s.t.check != 0) = true) : spanE s = s.t.check := by
 rw [spanE, if_neg (Bool.eq_false_iff.1 h1), if_neg (Bool.eq_false_iff.1 h2), if_pos h3]
theorem spE_o (h1 : ((!(s.f.eqb Ver.z) && !s.hf) || (!(s.t.eqb Ver.z) && !s.ht)) = false) (h2 : (s.hf && s.f.check != 0) = false) (h3 : (s.ht && s.t.check != 0) = false) (h4 : ((s.hf && s.ht) && decide (orderB s.f s.t ≥ 0)) = true) : spanE s = 7 := by
 rw [spanE, if_neg (Bool.eq_false_iff.1 h1), if_neg (Bool.eq_false_iff.1 h2), if_neg (Bool.eq_false_iff.1 h3), if_pos h4]
theorem spE_ok (h1 : ((!(s.f.eqb Ver.z) && !s.hf) || (!(s.t.eqb Ver.z) && !s.ht)) = false) (h2 : (s.hf && s.f.check != 0) = false) (h3 : (s.ht && s.t.check != 0) = false) (h4 : ((s.hf && s.ht) && decide (orderB s.f s.t ≥ 0)) = false) : spanE s = 0 := by
 rw [spanE, if_neg (Bool.eq_false_iff.1 h1), if_neg (Bool.eq_false_iff.1 h2), if_neg (Bool.eq_false_iff.1 h3), if_neg (Bool.eq_false_iff.1 h4)]
end
def behindE (p s : Sp) : Int := if (!p.ht || !s.hf) || decide (orderB s.f p.t ≤ 0) then 7 else 0
def spAt (ss : List Sp) (i : Nat) : Int :=
 if spanE (ss.getD i Sp.z) != 0 then spanE (ss.getD i Sp.z) else if (i : Int) == 0 then 0 else behindE (ss.getD (i - 1) Sp.z) (ss.getD i Sp.z)
def rangeE (ss : List Sp) : Int := if decide ((ss.length : Int) > 10) then 4 else firstNe ((List.range ss.length).map (spAt ss))
theorem spAt_get {ss : List Sp} {i : Nat} (hi : i < ss.length) : ((List.range ss.length).map (spAt ss)).getD i 0 = spAt ss i := by
 simp [List.getD, hi]
theorem spAt_go {ss : List Sp} {i : Nat} (hi : i < ss.length) (h : spAt ss i = 0) : (((List.range ss.length).map (spAt ss)).getD i 0 == 0) = true := by
 rw [spAt_get hi, h]; rfl
theorem spAt_hit {ss : List Sp} {i : Nat} {n : Int} (hi : i < ss.length) (ht : (((List.range ss.length).map (spAt ss)).take i).all (· == 0) = true) (h : spAt ss i = n) (hn : n ≠ 0) : firstNe ((List.range ss.length).map (spAt ss)) = n := by
 rw [firstNe_hit (by simpa using hi) ht (by rw [spAt_get hi, h]; exact hn), spAt_get hi, h]
theorem rangeE_large {ss : List Sp} (h : decide ((ss.length : Int) > 10) = true) : rangeE ss = 4 := if_pos h
theorem rangeE_list {ss : List Sp} (h : decide ((ss.length : Int) > 10) = false) : rangeE ss = firstNe ((List.range ss.length).map (spAt ss)) := if_neg (Bool.eq_false_iff.1 h)
theorem spAt_own {ss : List Sp} {i : Nat} (h : (spanE (ss.getD i Sp.z) != 0) = true) : spAt ss i = spanE (ss.getD i Sp.z) := if_pos h
theorem spAt_first {ss : List Sp} {i : Nat} (h : (spanE (ss.getD i Sp.z) != 0) = false) (h0 : ((i : Int) == 0) = true) : spAt ss i = 0 := by
 rw [spAt, if_neg (Bool.eq_false_iff.1 h), if_pos h0]
theorem spAt_bad {ss : List Sp} {i : Nat} (h : (spanE (ss.getD i Sp.z) != 0) = false) (h0 : ((i : Int) == 0) = false)
  (hb : ((!(ss.getD (i - 1) Sp.z).ht || !(ss.getD i Sp.z).hf) || decide (orderB (ss.getD i Sp.z).f (ss.getD (i - 1) Sp.z).t ≤ 0)) = true) : spAt ss i = 7 := by
 rw [spAt, if_neg (Bool.eq_false_iff.1 h), if_neg (Bool.eq_false_iff.1 h0), behindE, if_pos hb]
theorem spAt_ok {ss : List Sp} {i : Nat} (h : (spanE (ss.getD i Sp.z) != 0) = false) (h0 : ((i : Int) == 0) = false)
  (hb : ((!(ss.getD (i - 1) Sp.z).ht || !(ss.getD i Sp.z).hf) || decide (orderB (ss.getD i Sp.z).f (ss.getD (i - 1) Sp.z).t ≤ 0)) = false) : spAt ss i = 0 := by
 rw [spAt, if_neg (Bool.eq_false_iff.1 h), if_neg (Bool.eq_false_iff.1 h0), behindE, if_neg (Bool.eq_false_iff.1 hb)]
def SpLen (s : Sp) : Prop := s.f.e.length < 4294967281 ∧ s.t.e.length < 4294967281
theorem sp_at {ss : List Sp} {i : Nat} (hv : ∀ s ∈ ss, SpLen s) (hi : i < ss.length) : SpLen (ss.getD i Sp.z) := by
 rw [List.getD_eq_getElem?_getD, List.getElem?_eq_getElem hi]
 exact hv _ (List.getElem_mem hi)
structure It where
 sign : Int
 first : List UInt8
 last : List UInt8
def rowB (s : List UInt8) : Bool := !(Lib.contains s [32])
def wrongB (s : List UInt8) : Bool := (parseB s).2 == 8
def SpOk (s : Sp) : Prop := VerOk s.f ∧ VerOk s.t
theorem take_snoc2 {α β γ : Type} {f : β → γ} {p : α → β} {l : List α} {i : Nat} (d : α) (h : i < l.length) : ((l.take i).map p).map f ++ [f (p (l.getD i d))] = ((l.take (i + 1)).map p).map f := by
 rw [List.take_add_one, List.getElem?_eq_getElem h, List.map_append, List.map_append]
 simp [List.getD, List.getElem?_eq_getElem h]
theorem take_snoc3 {α β γ : Type} {f : β → γ} {p : α → β} {l : List α} {i : Nat} {d : α} {x : β} (hx : x = p (l.getD i d)) (h : i < l.length) : ((l.take i).map p).map f ++ [f x] = ((l.take (i + 1)).map p).map f := by
 rw [hx]; exact take_snoc2 d h
end
section
open Go Go.RowKit
def spD (s : Sp) : List D := [.bool s.hf, .bool s.ht, .int .i64 s.f.a, .int .i64 s.f.b, .int .i64 s.f.c, .str s.f.e, .int .i64 s.t.a, .int .i64 s.t.b, .int .i64 s.t.c, .str s.t.e]
def spV (s : Sp) : V := .agg [.d (.bool s.hf), .d (.bool s.ht), .d (.int .i64 s.f.a), .d (.int .i64 s.f.b), .d (.int .i64 s.f.c), .d (.str s.f.e), .d (.int .i64 s.t.a), .d (.int .i64 s.t.b), .d (.int .i64 s.t.c), .d (.str s.t.e)]
def rgV (ss : List Sp) : V := .agg [.d (.vec 10 (ss.map spD))]
end
section
open Go
open Go.RowKit
attribute [local irreducible] thenK blockK W
theorem pc_ver_spanFault (s : Sp) (h1 : s.f.e.length < 4294967281) (h2 : s.t.e.length < 4294967281) :
  PureCall Tryz.prog J 129 [spV s] (.one (.d (.int .i64 (spanE s)))) := by
 refine PureCall.of_body tOk (fn := Tryz.f129) Tryz.func129 (by kernel_rfl) rfl (Nat.le_of_ble_eq_true rfl) (fun E => ?_)
 apply Y1
 refine S.box rfl rfl rfl rfl ?_
 iterate 26 first|refine S.pickAnd tOk zOk rfl rfl tg ?_|refine Yg rfl rfl tg ?_|refine Yp rfl ?_|refine S.store tOk rfl rfl rfl rfl rfl rfl rfl rfl ?_|refine S.alloc tOk rfl rfl rfl rfl ?_|apply Y1|apply Y3|apply Ys|apply Yn
 refine S.pickAndG tOk zOk rfl rfl rfl tg tg ?_
 refine S.pickOr tOk zOk rfl rfl tg ?_
 apply Yn
 refine W.cond rfl (fun c1=>?_) fun c1=>?_
 ·skip
  apply Y1
  refine Yp rfl ?_
  apply Yn
  apply Yt
  apply Yu
  exact ⟨_, rfl, rfl, LeV.of_eq (congrArg (fun x => V.one (C.d (D.int .i64 x))) (spE_form c1).symm)⟩
 apply Yk
 apply Yn
 apply Ys
 apply Y1
 iterate 2 refine Yp rfl ?_
 refine S.call rfl rfl rfl rfl rfl (pc_ver_Check s.f h1) ?_
 iterate 9 first|refine S.pickAnd tOk zOk rfl rfl tg ?_|refine Yp rfl ?_|refine Yg rfl rfl tg ?_|apply Y3|apply Yn
 refine W.cond rfl (fun c2=>?_) fun c2=>?_
 ·skip
  iterate 6 first|refine Yp rfl ?_|apply Yu|apply Yt|apply Y1|apply Yn
  exact ⟨_, rfl, rfl, LeV.of_eq (congrArg (fun x => V.one (C.d (D.int .i64 x))) (spE_f c1 c2).symm)⟩
 apply Yk
 apply Yn
 apply Ys
 apply Y1
 iterate 2 refine Yp rfl ?_
 refine S.call rfl rfl rfl rfl rfl (pc_ver_Check s.t h2) ?_
 iterate 9 first|refine S.pickAnd tOk zOk rfl rfl tg ?_|refine Yp rfl ?_|refine Yg rfl rfl tg ?_|apply Y3|apply Yn
 refine W.cond rfl (fun c3=>?_) fun c3=>?_
 ·skip
  iterate 6 first|refine Yp rfl ?_|apply Yu|apply Yt|apply Y1|apply Yn
  exact ⟨_, rfl, rfl, LeV.of_eq (congrArg (fun x => V.one (C.d (D.int .i64 x))) (spE_t c1 c2 c3).symm)⟩
 iterate 15 first|refine S.pickAnd tOk zOk rfl rfl tg ?_|refine Yg rfl rfl tg ?_|refine Yp rfl ?_|apply Yk|apply Y1|apply Ys|apply Yn
 refine S.callG rfl rfl rfl rfl tg rfl rfl (fun _ => pc_ver_Order s.f s.t h1 h2) ?_
 refine Yg rfl rfl tg ?_
 refine S.pickAnd tOk zOk rfl rfl tg ?_
 apply Yn
 refine W.cond rfl (fun c4=>?_) fun c4=>?_
 ·skip
  apply Y1
  refine Yp rfl ?_
  apply Yn
  apply Yt
  apply Yu
  exact ⟨_, rfl, rfl, LeV.of_eq (congrArg (fun x => V.one (C.d (D.int .i64 x))) (spE_o c1 c2 c3 c4).symm)⟩
 apply Yk
 apply Y3
 refine Yp rfl ?_
 apply Yn
 apply Yt
 exact ⟨_, rfl, rfl, LeV.of_eq (congrArg (fun x => V.one (C.d (D.int .i64 x))) (spE_ok c1 c2 c3 c4).symm)⟩
theorem pc_ver_CheckRange (ss : List Sp) (hl : ss.length ≤ 1000000000) (hv : ∀ s ∈ ss, SpLen s) :
  PureCall Tryz.prog J 76 [rgV ss] (.one (.d (.int .i64 (rangeE ss)))) := by
 refine PureCall.of_body tOk (fn := Tryz.f76) Tryz.func76 (by kernel_rfl) rfl (Nat.le_of_ble_eq_true rfl) (fun E => ?_)
 iterate 11 first|refine Yp rfl ?_|refine S.box rfl rfl rfl rfl ?_|apply Y1|apply Yn|apply Ys
 refine W.cond rfl (fun c1=>?_) fun c1=>?_
 ·skip
  apply Y1
  refine Yp rfl ?_
  apply Yn
  apply Yt
  apply Yu
  exact ⟨_, rfl, rfl, LeV.of_eq (congrArg (fun x => V.one (C.d (D.int .i64 x))) (rangeE_large (by simpa using c1)).symm)⟩
 have hlen := rangeE_list (ss := ss) (by simpa using c1)
 iterate 9 first|refine Yp rfl ?_|apply Yk|apply Y1|apply Yn|apply Ys
 apply Yb
 refine W.loop (fun k st => ∃ i : Nat, i ≤ ss.length ∧ (((List.range ss.length).map (spAt ss)).take i).all (· == 0) = true ∧ k = ss.length - i ∧ ∃ t b2 r2 m2, st = ⟨t, [[.d (.vec 10 (ss.map spD))]] ++ b2, [] ++ r2, [] ++ m2⟩ ∧ holdsL t [(1, .one (.ptr 0 0)), (12, .one (.d (.vec 10 (ss.map spD)))), (13, .one (.d (.int .i64 ((ss.map spD).length : Int)))), (14, .one (.d (.int .i64 (i : Int))))]) (ss.length) ⟨0, Nat.zero_le _, by simp, rfl, _, _, _, _, rfl, rfl, rfl, rfl, rfl, trivial⟩ ?_
 rintro k0 _ ⟨i, f0_0, f0_1, rfl, t0, bb0, rr0, mm0, rfl, hh0⟩
 refine W.keepR _ _ _ _ _ _ _ hh0 rfl ?_
 apply Y1
 refine Yp rfl ?_
 apply Yn
 apply Ys
 refine W.cond rfl (fun c2=>?_) fun c2=>?_
 ·skip
  have hi := row_lt c2
  have hs := sp_at hv hi
  apply Yk
  apply Yn
  apply Ys
  apply Yb
  apply Y1
  refine Yp rfl ?_
  refine YE rfl (row_ok hi) (row_at Sp.z hi) rfl ?_
  iterate 8 first|refine Yp rfl ?_|refine S.store tOk rfl rfl rfl rfl rfl rfl rfl rfl ?_|refine S.alloc tOk rfl rfl rfl rfl ?_|apply Y1|apply Ys|apply Yn
  refine S.call rfl rfl rfl rfl rfl (pc_ver_spanFault (ss.getD i Sp.z) hs.1 hs.2) ?_
  iterate 5 first|refine Yp rfl ?_|apply Y3|apply Yn
  refine W.cond rfl (fun c3=>?_) fun c3=>?_
  ·skip
   iterate 11 first|apply Yu|apply Yv|refine Yp rfl ?_|apply Yt|apply Y1|apply Yn
   exact ⟨_, rfl, rfl, LeV.of_eq (congrArg (fun x => V.one (C.d (D.int .i64 x))) (hlen.trans (spAt_hit hi f0_1 (spAt_own c3) (by simpa using c3))).symm)⟩
  iterate 7 first|refine Yp rfl ?_|apply Yk|apply Y1|apply Yn|apply Ys
  refine W.cond rfl (fun c4=>?_) fun c4=>?_
  ·skip
   iterate 6 first|refine Yp rfl ?_|apply Yx|apply Ye|apply Yq|apply Y4
   refine loop_n (ss.length - (i + 1)) (by omega) ⟨i + 1, hi, all_take_succ (d := 0) (by simpa using hi) f0_1 (spAt_go hi (spAt_first c3 c4)), rfl, _, _, _, _, rfl, rfl, rfl, rfl, inc_i64 (by omega), trivial⟩
  have hi1 : i - 1 < ss.length := by omega
  have hs1 := sp_at hv hi1
  apply Yk
  apply Y3
  iterate 3 refine Yp rfl ?_
  refine YE rfl rfl (dec_i64 c4 (by omega)) rfl ?_
  refine YE rfl (row_ok hi1) (row_at Sp.z hi1) rfl ?_
  iterate 17 first|refine S.pickOr tOk zOk rfl rfl tg ?_|refine Yg rfl rfl tg ?_|refine Yp rfl ?_|refine S.store tOk rfl rfl rfl rfl rfl rfl rfl rfl ?_|refine S.alloc tOk rfl rfl rfl rfl ?_|apply Y3
  refine S.callG rfl rfl rfl rfl tg rfl rfl (fun _ => pc_ver_Order (ss.getD i Sp.z).f (ss.getD (i - 1) Sp.z).t hs.1 hs1.2) ?_
  refine Yg rfl rfl tg ?_
  refine S.pickOr tOk zOk rfl rfl tg ?_
  apply Yn
  refine W.cond rfl (fun c5=>?_) fun c5=>?_
  ·skip
   iterate 9 first|apply Yu|apply Yv|apply Yt|refine Yp rfl ?_|apply Y1|apply Yn
   exact ⟨_, rfl, rfl, LeV.of_eq (congrArg (fun x => V.one (C.d (D.int .i64 x))) (hlen.trans (spAt_hit hi f0_1 (spAt_bad c3 c4 c5) (by decide))).symm)⟩
  apply Yk
  apply Yw
  apply Y4
  iterate 2 refine Yp rfl ?_
  refine loop_n (ss.length - (i + 1)) (by omega) ⟨i + 1, hi, all_take_succ (d := 0) (by simpa using hi) f0_1 (spAt_go hi (spAt_ok c3 c4 c5)), rfl, _, _, _, _, rfl, rfl, rfl, rfl, inc_i64 (by omega), trivial⟩
 have hi := row_ge c2
 apply Yq
 apply Ye
 apply Ye
 apply Yx
 apply Y3
 refine Yp rfl ?_
 apply Yn
 apply Yt
 exact ⟨_, rfl, rfl, LeV.of_eq (congrArg (fun x => V.one (C.d (D.int .i64 x))) (hlen.trans (firstNe_none (by simpa using hi) f0_1)).symm)⟩
theorem pc_ver_isRow (s : List UInt8) (hs : s.length < 4294967281) :
  PureCall Tryz.prog J 312 [.one (.d (.str s))] (.one (.d (.bool (rowB s)))) := by
 refine PureCall.of_body tOk (fn := Tryz.f312) Tryz.func312 (by kernel_rfl) rfl (Nat.le_of_ble_eq_true rfl) (fun E => ?_)
 iterate 4 first|refine Yp rfl ?_|apply Y3|apply Y1
 refine S.call rfl rfl rfl rfl rfl (pc_Contains _ _ (by omega)) ?_
 iterate 2 refine Yp rfl ?_
 apply Yn
 apply Yt
 exact ⟨_, rfl, rfl, LeV.refl _⟩
theorem pc_ver_wrong (s : List UInt8) (hs : s.length < 4294967281) :
  PureCall Tryz.prog J 291 [.one (.d (.str s))] (.one (.d (.bool (wrongB s)))) := by
 refine PureCall.of_body tOk (fn := Tryz.f291) Tryz.func291 (by kernel_rfl) rfl (Nat.le_of_ble_eq_true rfl) (fun E => ?_)
 iterate 4 first|refine Yp rfl ?_|apply Y3|apply Y1
 refine S.call rfl rfl rfl rfl rfl (pc_ver_Parse _ (by omega)) ?_
 iterate 12 first|refine Yp rfl ?_|apply Yt|refine S.store tOk rfl rfl rfl rfl rfl rfl rfl rfl ?_|refine S.alloc tOk rfl rfl rfl rfl ?_|apply Y3|apply Yn
 exact ⟨_, rfl, rfl, LeV.refl _⟩
end
end Go.Proofs.YtpelfildfidnbaaGreatDoor
namespace Go.Proofs.YtpelfildfidnbaaGreatDoor
section
open Go
theorem cmpInt_neg (x y : Int) : Lib.compareInt y x = -Lib.compareInt x y := by
 unfold Lib.compareInt
 by_cases h1 : x < y
 ·skip
  rw [if_pos h1, if_neg (by omega), if_pos h1]; rfl
 ·skip
  by_cases h2 : y < x
  ·skip
   rw [if_pos h2, if_neg h1, if_pos h2]
  ·skip
   rw [if_neg h2, if_neg h1, if_neg h1, if_neg h2]; rfl
theorem cmpBytes_neg : ∀ (a b : List UInt8), Lib.compareBytes b a = -Lib.compareBytes a b
  | [], [] => rfl
  | [], _ :: _ => rfl
  | _ :: _, [] => rfl
  | a :: l, b :: m => by
    have ih := cmpBytes_neg l m
    by_cases h1 : a < b
    · have h2 : ¬ b < a := by
        have h1' : a.toNat < b.toNat := h1
        show ¬ b.toNat < a.toNat
        omega
      simp only [Lib.compareBytes, h1, h2, if_true, if_false]; rfl
    · by_cases h2 : b < a
      · simp only [Lib.compareBytes, h1, h2, if_true, if_false]
      · simp only [Lib.compareBytes, h1, h2, if_false]; exact ih
theorem cwB_neg (a b : List UInt8) : cwB b a = -cwB a b := by
 unfold cwB
 cases ha : numeralB a <;> cases hb : numeralB b <;> simp only [Bool.and_true, Bool.and_false, Bool.false_and, Bool.true_and, if_true, if_false, Bool.false_eq_true]
 ·skip
  exact cmpBytes_neg a b
 ·skip
  rfl
 ·skip
  by_cases h : a.length = b.length
  ·skip
   rw [if_neg (by simp [h]), if_neg (by simp [h])]; exact cmpBytes_neg a b
  ·skip
   rw [if_pos (by simp; omega), if_pos (by simp; omega)]; exact cmpInt_neg _ _
theorem firstNe_neg (l : List Int) : firstNe (l.map fun x => -x) = -firstNe l := by
  induction l with
  | nil => rfl
  | cons a l ih =>
    unfold firstNe at ih ⊢
    by_cases h : a = 0
    · subst h; simpa using ih
    · have h' : ¬ -a = 0 := by omega
      simp [List.find?_cons, bne_iff_ne, h, h']
theorem zip_neg : ∀ (xs ys : List (List UInt8)), List.zipWith cwB ys xs = (List.zipWith cwB xs ys).map fun x => -x
 | [], ys => by cases ys <;> rfl
 | x :: xs, [] => rfl
 | x :: xs, y :: ys => by simp only [List.zipWith_cons_cons, List.map_cons, zip_neg xs ys, cwB_neg x y]
theorem rowsB_neg (xs ys : List (List UInt8)) : rowsB ys xs = -rowsB xs ys := by
  unfold rowsB
  rw [zip_neg, firstNe_neg]
  by_cases h : firstNe (List.zipWith cwB xs ys) = 0
  · rw [h]; exact cmpInt_neg _ _
  · have h' : ¬ -firstNe (List.zipWith cwB xs ys) = 0 := by omega
    rw [if_pos (by simpa using h), if_pos (by simpa using h')]
theorem ceB_neg (a b : List UInt8) : ceB b a = -ceB a b := by
  unfold ceB
  by_cases h : a = b
  · subst h; simp
  · have h1 : (a == b) = false := by simpa using h
    have h2 : (b == a) = false := by rw [beq_eq_false_iff_ne]; exact fun e => h e.symm
    rw [h1, h2]
    cases ha : (a == []) <;> cases hb : (b == [])
    · exact rowsB_neg _ _
    · rfl
    · rfl
    · exact absurd ((by simpa using ha : a = []).trans (by simpa using hb : b = []).symm) h
theorem orderB_neg (v w : Ver) : orderB w v = -orderB v w := by
 unfold orderB
 rw [← firstNe_neg]
 simp only [List.map_cons, List.map_nil, cmpInt_neg v.a w.a, cmpInt_neg v.b w.b, cmpInt_neg v.c w.c, ceB_neg v.e w.e]
theorem check_z : Ver.z.check = 0 := by decide
theorem form_f {s : Sp} (h : ((!(s.f.eqb Ver.z) && !s.hf) || (!(s.t.eqb Ver.z) && !s.ht)) = false) : (s.hf = false → s.f = Ver.z) ∧ (s.ht = false → s.t = Ver.z) := by
 rw [Bool.or_eq_false_iff] at h
 constructor
 ·skip
  intro hf
  have := h.1
  rw [hf] at this
  simp at this
  exact Ver.eqb_iff.1 this
 ·skip
  intro ht
  have := h.2
  rw [ht] at this
  simp at this
  exact Ver.eqb_iff.1 this
def formR (s : Sp) : Bool := (!s.hf && !(s.f.eqb Ver.z)) || (!s.ht && !(s.t.eqb Ver.z))
theorem formR_eq (s : Sp) : formR s = ((!(s.f.eqb Ver.z) && !s.hf) || (!(s.t.eqb Ver.z) && !s.ht)) := by
 unfold formR; rw [Bool.and_comm, Bool.and_comm (!s.ht)]
theorem spanR_form {s : Sp} (h : formR s = true) : spanE s = 2 := spE_form (by rw [← formR_eq]; exact h)
theorem spanR_ver {s : Sp} (h : formR s = false) (h2 : (firstB s.f.check s.t.check != 0) = true) : spanE s = firstB s.f.check s.t.check := by
  rw [formR_eq] at h
  obtain ⟨hf, ht⟩ := form_f h
  unfold firstB at h2 ⊢
  by_cases hc : s.f.check = 0
  · simp only [hc, bne_self_eq_false, Bool.false_eq_true, if_false] at h2 ⊢
    have h3 : s.ht = true := by
      cases hh : s.ht with
      | true => rfl
      | false => rw [ht hh, check_z] at h2; cases h2
    exact spE_t h (by simp [hc]) (by rw [h3]; simpa using h2)
  · rw [if_pos (by simpa using hc)]
    have h3 : s.hf = true := by
      cases hh : s.hf with
      | true => rfl
      | false => rw [hf hh] at hc; exact absurd check_z hc
    exact spE_f h (by rw [h3]; simpa using hc)
theorem checks_0 {s : Sp} (h2 : (firstB s.f.check s.t.check != 0) = false) : s.f.check = 0 ∧ s.t.check = 0 := by
 unfold firstB at h2
 by_cases hc : s.f.check = 0
 ·skip
  exact ⟨hc, by simpa [hc] using h2⟩
 ·skip
  simp [hc] at h2
theorem spanR_order {s : Sp} (h : formR s = false) (h2 : (firstB s.f.check s.t.check != 0) = false) (h3 : ((s.hf && s.ht) && decide (compareR s.f s.t ≥ 0)) = true) : spanE s = 7 := by
 rw [formR_eq] at h
 obtain ⟨c1, c2⟩ := checks_0 h2
 rw [compare_eq c1 c2] at h3
 exact spE_o h (by simp [c1]) (by simp [c2]) h3
theorem spanR_ok {s : Sp} (h : formR s = false) (h2 : (firstB s.f.check s.t.check != 0) = false) (h3 : ((s.hf && s.ht) && decide (compareR s.f s.t ≥ 0)) = false) : spanE s = 0 := by
 rw [formR_eq] at h
 obtain ⟨c1, c2⟩ := checks_0 h2
 rw [compare_eq c1 c2] at h3
 exact spE_ok h (by simp [c1]) (by simp [c2]) h3
theorem span_checks {s : Sp} (h : spanE s = 0) : s.f.check = 0 ∧ s.t.check = 0 := by
 have hform : ((!(s.f.eqb Ver.z) && !s.hf) || (!(s.t.eqb Ver.z) && !s.ht)) = false := by
  cases hh : ((!(s.f.eqb Ver.z) && !s.hf) || (!(s.t.eqb Ver.z) && !s.ht)) with
  | false => rfl
  | true => rw [spE_form hh] at h; cases h
 obtain ⟨hf, ht⟩ := form_f hform
 have h1 : s.f.check = 0 := by
  apply Decidable.byContradiction; intro hc
  have hh : s.hf = true := by
   cases hh : s.hf with
   | true => rfl
   | false => rw [hf hh] at hc; exact absurd check_z hc
  rw [spE_f hform (by rw [hh]; simpa using hc)] at h
  exact hc h
 refine ⟨h1, ?_⟩
 apply Decidable.byContradiction; intro hc
 have hh : s.ht = true := by
  cases hh : s.ht with
  | true => rfl
  | false => rw [ht hh] at hc; exact absurd check_z hc
 rw [spE_t hform (by simp [h1]) (by rw [hh]; simpa using hc)] at h
 exact hc h
theorem prev_ok {ss : List Sp} {i : Nat} (hi : i < ss.length) (h0 : 0 < i) (ht : (((List.range ss.length).map (spAt ss)).take i).all (· == 0) = true) : spanE (ss.getD (i - 1) Sp.z) = 0 := by
 have h1 : spAt ss (i - 1) = 0 := by
  have h2 := List.all_eq_true.1 ht (spAt ss (i - 1)) (by
   rw [List.mem_iff_getElem?]
   refine ⟨i - 1, ?_⟩
   rw [List.getElem?_take, if_pos (by omega)]
   have : i - 1 < ss.length := by omega
   simp [this])
  simpa using h2
 apply Decidable.byContradiction; intro hne
 rw [spAt_own (by simpa using hne)] at h1
 exact hne h1
theorem behindR {p s : Sp} (hp : p.t.check = 0) (hs : s.f.check = 0) : decide (compareR p.t s.f ≥ 0) = decide (orderB s.f p.t ≤ 0) := by
 rw [compare_eq hp hs, orderB_neg s.f p.t]
 simp only [decide_eq_decide]; omega
theorem spAt_form {ss : List Sp} {i : Nat} (h : formR (ss.getD i Sp.z) = true) : spAt ss i = 2 := (spAt_own (by rw [spanR_form h]; rfl)).trans (spanR_form h)
theorem spAt_ver {ss : List Sp} {i : Nat} (h : formR (ss.getD i Sp.z) = false) (h2 : (firstB (ss.getD i Sp.z).f.check (ss.getD i Sp.z).t.check != 0) = true) : spAt ss i = firstB (ss.getD i Sp.z).f.check (ss.getD i Sp.z).t.check :=
 (spAt_own (by rw [spanR_ver h h2]; exact h2)).trans (spanR_ver h h2)
theorem spAt_ord {ss : List Sp} {i : Nat} (h : formR (ss.getD i Sp.z) = false) (h2 : (firstB (ss.getD i Sp.z).f.check (ss.getD i Sp.z).t.check != 0) = false)
  (h3 : (((ss.getD i Sp.z).hf && (ss.getD i Sp.z).ht) && decide (compareR (ss.getD i Sp.z).f (ss.getD i Sp.z).t ≥ 0)) = true) : spAt ss i = 7 := (spAt_own (by rw [spanR_order h h2 h3]; rfl)).trans (spanR_order h h2 h3)
section
variable {ss : List Sp} {i : Nat} (hi : i < ss.length) (ht : (((List.range ss.length).map (spAt ss)).take i).all (· == 0) = true) (h : formR (ss.getD i Sp.z) = false) (h2 : (firstB (ss.getD i Sp.z).f.check (ss.getD i Sp.z).t.check != 0) = false)
  (h3 : (((ss.getD i Sp.z).hf && (ss.getD i Sp.z).ht) && decide (compareR (ss.getD i Sp.z).f (ss.getD i Sp.z).t ≥ 0)) = false)
include hi ht h h2 h3
theorem spAt_r7 (h6 : (decide ((i : Int) > 0) && ((!(ss.getD (i - 1) Sp.z).ht || !(ss.getD i Sp.z).hf) || decide (compareR (ss.getD (i - 1) Sp.z).t (ss.getD i Sp.z).f ≥ 0))) = true) : spAt ss i = 7 := by
 rw [Bool.and_eq_true] at h6
 have h0 : 0 < i := by have := of_decide_eq_true h6.1; omega
 have hp := (span_checks (prev_ok hi h0 ht)).2
 rw [behindR hp (checks_0 h2).1] at h6
 exact spAt_bad (by rw [spanR_ok h h2 h3]; rfl) (by simp; omega) h6.2
theorem spAt_r0 (h6 : (decide ((i : Int) > 0) && ((!(ss.getD (i - 1) Sp.z).ht || !(ss.getD i Sp.z).hf) || decide (compareR (ss.getD (i - 1) Sp.z).t (ss.getD i Sp.z).f ≥ 0))) = false) : spAt ss i = 0 := by
 by_cases h0 : 0 < i
 ·skip
  have hp := (span_checks (prev_ok hi h0 ht)).2
  rw [show decide ((i : Int) > 0) = true from decide_eq_true (by omega), Bool.true_and, behindR hp (checks_0 h2).1] at h6
  exact spAt_ok (by rw [spanR_ok h h2 h3]; rfl) (by simp; omega) h6
 ·skip
  exact spAt_first (by rw [spanR_ok h h2 h3]; rfl) (by simp; omega)
end
end
section
open Go
open Go.RowKit
attribute [local irreducible] thenK blockK W
theorem pc_verr2 (v w : Ver) (hv : v.e.length < 4294967281) (hw : w.e.length < 4294967281) : PureCall Tryz.prog J 80 [.one (.d (.vec 4 [verD v, verD w]))] (.one (.d (.int .i64 (firstB v.check w.check)))) := by
 have h := pc_outref2_VersionError [v, w] (by simp) (by intro u hu; simp at hu; rcases hu with rfl | rfl <;> assumption)
 rw [show firstNe ([v, w].map Ver.check) = firstB v.check w.check from first2 _ _] at h
 exact h
theorem pc_outref2_RangeError (ss : List Sp) (hl : ss.length ≤ 1000000000) (hv : ∀ s ∈ ss, SpLen s) :
  PureCall Tryz.prog J 79 [rgV ss] (.one (.d (.int .i64 (rangeE ss)))) := by
 refine PureCall.of_body tOk (fn := Tryz.f79) Tryz.func79 (by kernel_rfl) rfl (Nat.le_of_ble_eq_true rfl) (fun E => ?_)
 iterate 11 first|refine Yp rfl ?_|refine S.box rfl rfl rfl rfl ?_|apply Y1|apply Yn|apply Ys
 refine W.cond rfl (fun c1=>?_) fun c1=>?_
 ·skip
  apply Y1
  refine Yp rfl ?_
  apply Yn
  apply Yt
  apply Yu
  exact ⟨_, rfl, rfl, LeV.of_eq (congrArg (fun x => V.one (C.d (D.int .i64 x))) (rangeE_large (by simpa using c1)).symm)⟩
 have hlen := rangeE_list (ss := ss) (by simpa using c1)
 iterate 9 first|refine Yp rfl ?_|apply Yk|apply Y1|apply Yn|apply Ys
 apply Yb
 refine W.loop (fun k st => ∃ i : Nat, i ≤ ss.length ∧ (((List.range ss.length).map (spAt ss)).take i).all (· == 0) = true ∧ k = ss.length - i ∧ ∃ t b2 r2 m2, st = ⟨t, [[.d (.vec 10 (ss.map spD))]] ++ b2, [] ++ r2, [] ++ m2⟩ ∧ holdsL t [(1, .one (.ptr 0 0)), (11, .one (.d (.vec 10 (ss.map spD)))), (12, .one (.d (.int .i64 ((ss.map spD).length : Int)))), (13, .one (.d (.int .i64 (i : Int))))]) (ss.length) ⟨0, Nat.zero_le _, by simp, rfl, _, _, _, _, rfl, rfl, rfl, rfl, rfl, trivial⟩ ?_
 rintro k0 _ ⟨i, f0_0, f0_1, rfl, t0, bb0, rr0, mm0, rfl, hh0⟩
 refine W.keepR _ _ _ _ _ _ _ hh0 rfl ?_
 apply Y1
 refine Yp rfl ?_
 apply Yn
 apply Ys
 refine W.cond rfl (fun c2=>?_) fun c2=>?_
 ·skip
  have hi := row_lt c2
  have hs := sp_at hv hi
  have hi1 : i - 1 < ss.length := by omega
  have hs1 := sp_at hv hi1
  apply Yk
  apply Yn
  apply Ys
  apply Yb
  apply Y1
  refine Yp rfl ?_
  refine YE rfl (row_ok hi) (row_at Sp.z hi) rfl ?_
  iterate 26 first|refine S.pickAndG tOk zOk rfl rfl rfl tg tg ?_|refine S.pickAnd tOk zOk rfl rfl tg ?_|refine Yg rfl rfl tg ?_|refine Yp rfl ?_|refine S.store tOk rfl rfl rfl rfl rfl rfl rfl rfl ?_|refine S.alloc tOk rfl rfl rfl rfl ?_|apply Y1|apply Ys|apply Yn
  refine S.pickOr tOk zOk rfl rfl tg ?_
  apply Yn
  refine W.cond rfl (fun c3=>?_) fun c3=>?_
  ·skip
   iterate 10 first|apply Yu|apply Yv|apply Yt|refine Yp rfl ?_|apply Y1|apply Yn
   exact ⟨_, rfl, rfl, LeV.of_eq (congrArg (fun x => V.one (C.d (D.int .i64 x))) (hlen.trans (spAt_hit hi f0_1 (spAt_form c3) (by decide))).symm)⟩
  iterate 8 first|refine Yp rfl ?_|apply Yk|apply Y1|apply Ys|apply Yn
  refine S.slice tOk rfl rfl ?_
  refine S.call rfl rfl rfl rfl rfl (pc_verr2 (ss.getD i Sp.z).f (ss.getD i Sp.z).t hs.1 hs.2) ?_
  iterate 5 first|refine Yp rfl ?_|apply Y3|apply Yn
  refine W.cond rfl (fun c4=>?_) fun c4=>?_
  ·skip
   iterate 11 first|apply Yu|apply Yv|refine Yp rfl ?_|apply Yt|apply Y1|apply Yn
   exact ⟨_, rfl, rfl, LeV.of_eq (congrArg (fun x => V.one (C.d (D.int .i64 x))) (hlen.trans (spAt_hit hi f0_1 (spAt_ver c3 c4) (by simpa using c4))).symm)⟩
  iterate 15 first|refine S.pickAnd tOk zOk rfl rfl tg ?_|refine Yg rfl rfl tg ?_|refine Yp rfl ?_|apply Yk|apply Y1|apply Ys|apply Yn
  refine S.callG rfl rfl rfl rfl tg rfl rfl (fun _ => pc_outref2_CompareOf (ss.getD i Sp.z).f (ss.getD i Sp.z).t hs.1 hs.2) ?_
  refine Yg rfl rfl tg ?_
  refine S.pickAnd tOk zOk rfl rfl tg ?_
  apply Yn
  refine W.cond rfl (fun c5=>?_) fun c5=>?_
  ·skip
   iterate 10 first|apply Yu|apply Yv|apply Yt|refine Yp rfl ?_|apply Y1|apply Yn
   exact ⟨_, rfl, rfl, LeV.of_eq (congrArg (fun x => V.one (C.d (D.int .i64 x))) (hlen.trans (spAt_hit hi f0_1 (spAt_ord c3 c4 c5) (by decide))).symm)⟩
  apply Yk
  apply Yn
  apply Ys
  refine W.regionD mixed (by kernel_rfl) ?_
  iterate 7 first|refine Yy rfl rfl rfl tg ?_|refine Ym rfl rfl ?_
  refine D.pureEG tOk zOk rfl rfl rfl tg (fun h => pred_ok h hi (by omega)) (row_pred Sp.z hi (by omega)) rfl ?_
  iterate 7 refine Yy rfl rfl rfl tg ?_
  refine D.pickOrG tOk zOk rfl rfl rfl tg tg ?_
  iterate 5 refine Yy rfl rfl rfl tg ?_
  refine D.pureEG tOk zOk rfl rfl rfl tg (fun h => pred_ok (andl h) hi (by omega)) (row_pred Sp.z hi (by omega)) rfl ?_
  iterate 4 refine Yy rfl rfl rfl tg ?_
  refine D.callG rfl rfl rfl rfl tg rfl rfl (fun _ => pc_outref2_CompareOf (ss.getD (i - 1) Sp.z).t (ss.getD i Sp.z).f hs1.2 hs.1) ?_
  refine Yy rfl rfl rfl tg ?_
  refine D.pickOrG tOk zOk rfl rfl rfl tg tg ?_
  refine D.pickAnd tOk zOk rfl rfl tg ?_
  apply Yn
  refine W.cond rfl (fun c6=>?_) fun c6=>?_
  ·skip
   iterate 9 first|apply Yu|apply Yv|apply Yt|refine Yp rfl ?_|apply Y1|apply Yn
   exact ⟨_, rfl, rfl, LeV.of_eq (congrArg (fun x => V.one (C.d (D.int .i64 x))) (hlen.trans (spAt_hit hi f0_1 (spAt_r7 hi f0_1 c3 c4 c5 c6) (by decide))).symm)⟩
  apply Yk
  apply Yw
  apply Y4
  iterate 2 refine Yp rfl ?_
  refine loop_n (ss.length - (i + 1)) (by omega) ⟨i + 1, hi, all_take_succ (d := 0) (by simpa using hi) f0_1 (spAt_go hi (spAt_r0 hi f0_1 c3 c4 c5 c6)), rfl, _, _, _, _, rfl, rfl, rfl, rfl, inc_i64 (by omega), trivial⟩
 have hi := row_ge c2
 apply Yq
 apply Ye
 apply Ye
 apply Yx
 apply Y3
 refine Yp rfl ?_
 apply Yn
 apply Yt
 exact ⟨_, rfl, rfl, LeV.of_eq (congrArg (fun x => V.one (C.d (D.int .i64 x))) (hlen.trans (firstNe_none (by simpa using hi) f0_1)).symm)⟩
end
section
open Go
theorem same_go {α : Type} {xs ys : List α} {d : α} {i : Nat} (h1 : i < xs.length) (h2 : i < ys.length) (h : xs.take i = ys.take i) (he : xs.getD i d = ys.getD i d) : xs.take (i + 1) = ys.take (i + 1) := by
 rw [List.take_add_one, List.take_add_one, h]
 simp only [List.getD, List.getElem?_eq_getElem h1, List.getElem?_eq_getElem h2, Option.getD_some] at he
 rw [List.getElem?_eq_getElem h1, List.getElem?_eq_getElem h2, he]
theorem same_end {α : Type} {xs ys : List α} {i : Nat} (hl : xs.length = ys.length) (h : xs.length ≤ i) (ht : xs.take i = ys.take i) : xs = ys := by
 rwa [List.take_of_length_le h, List.take_of_length_le (by omega)] at ht
theorem same_not {α : Type} {xs ys : List α} {d : α} {i : Nat} (h : xs.getD i d ≠ ys.getD i d) : xs ≠ ys := fun e => h (by rw [e])
theorem sp_ne {s u : Sp} (h : (!(s.eqb u)) = true) : s ≠ u := fun e => by
 have := Sp.eqb_iff.2 e
 rw [this] at h; cases h
theorem sp_eq {s u : Sp} (h : (!(s.eqb u)) = false) : s = u := Sp.eqb_iff.1 (by simpa using h)
end
section
open Go
open Go.RowKit
attribute [local irreducible] thenK blockK W
theorem pc_Equal_Span (xs ys : List Sp) (hl : xs.length ≤ 1000000000) :
  PureCall Tryz.prog J 127 [.one (.d (.vec 10 (xs.map spD))), .one (.d (.vec 10 (ys.map spD)))] (.one (.d (.bool (decide (xs = ys))))) := by
 refine PureCall.of_body tOk (fn := Tryz.f127) Tryz.func127 (by kernel_rfl) rfl (Nat.le_of_ble_eq_true rfl) (fun E => ?_)
 iterate 11 first|refine Yp rfl ?_|apply Y1|apply Yn|apply Ys
 refine W.cond rfl (fun c1=>?_) fun c1=>?_
 ·skip
  apply Y1
  refine Yp rfl ?_
  apply Yn
  apply Yt
  apply Yu
  exact Yz rfl rfl rfl (by rw [decide_eq_false (fun e => by rw [e] at c1; simp at c1)]; rfl)
 have hll : xs.length = ys.length := by simp at c1; omega
 iterate 9 first|refine Yp rfl ?_|apply Yb|apply Yk|apply Y1|apply Yn|apply Ys
 refine W.loop (fun k st => ∃ i : Nat, i ≤ xs.length ∧ xs.take i = ys.take i ∧ k = xs.length - i ∧ ∃ t b2 r2 m2, st = ⟨t, [] ++ b2, [] ++ r2, [] ++ m2⟩ ∧ holdsL t [(0, .one (.d (.vec 10 (xs.map spD)))), (1, .one (.d (.vec 10 (ys.map spD)))), (12, .one (.d (.int .i64 ((xs.map spD).length : Int)))), (13, .one (.d (.int .i64 (i : Int))))]) (xs.length) ⟨0, Nat.zero_le _, rfl, rfl, _, _, _, _, rfl, rfl, rfl, rfl, rfl, trivial⟩ ?_
 rintro k0 _ ⟨i, f0_0, f0_1, rfl, t0, bb0, rr0, mm0, rfl, hh0⟩
 refine W.keepR _ _ _ _ _ _ _ hh0 rfl ?_
 apply Y1
 refine Yp rfl ?_
 apply Yn
 apply Ys
 refine W.cond rfl (fun c2=>?_) fun c2=>?_
 ·skip
  have hi := row_lt c2
  have hi2 : i < ys.length := by omega
  iterate 9 first|refine Yp rfl ?_|apply Yb|apply Yk|apply Y1|apply Ys|apply Yn
  refine W.regionD mixed (by kernel_rfl) ?_
  iterate 2 refine Ym rfl rfl ?_
  refine D.pureE tOk zOk rfl rfl (row_ok hi) (row_at Sp.z hi) rfl ?_
  iterate 3 refine Ym rfl rfl ?_
  refine D.pureE tOk zOk rfl rfl (row_ok hi2) (row_at Sp.z hi2) rfl ?_
  iterate 2 refine Ym rfl rfl ?_
  apply Yn
  refine W.cond rfl (fun c3=>?_) fun c3=>?_
  ·skip
   iterate 9 first|apply Yu|apply Yv|apply Yt|refine Yp rfl ?_|apply Y1|apply Yn
   exact Yz rfl rfl rfl (by rw [decide_eq_false (same_not (sp_ne c3))]; rfl)
  apply Yk
  apply Yw
  apply Y4
  iterate 2 refine Yp rfl ?_
  refine loop_n (xs.length - (i + 1)) (by omega) ⟨i + 1, hi, same_go hi hi2 f0_1 (sp_eq c3), rfl, _, _, _, _, rfl, rfl, rfl, rfl, inc_i64 (by omega), trivial⟩
 have hi := row_ge c2
 apply Yq
 apply Ye
 apply Ye
 apply Yx
 apply Y3
 refine Yp rfl ?_
 apply Yn
 apply Yt
 exact Yz rfl rfl rfl (by rw [decide_eq_true (same_end hll hi f0_1)]; rfl)
end
section
open Go
def itemB (s : List UInt8) : It × Bool :=
  if s == [42] then (⟨42, [], []⟩, true)
  else if Lib.hasPrefix s [62, 61] then
    (if (Lib.cut (Lib.trimPrefix s [62, 61]) [32]).2.2 then
      (⟨98, (Lib.cut (Lib.trimPrefix s [62, 61]) [32]).1, Lib.trimPrefix (Lib.cut (Lib.trimPrefix s [62, 61]) [32]).2.1 [60]⟩,
        (Lib.hasPrefix (Lib.cut (Lib.trimPrefix s [62, 61]) [32]).2.1 [60] && rowB (Lib.cut (Lib.trimPrefix s [62, 61]) [32]).1) && rowB (Lib.trimPrefix (Lib.cut (Lib.trimPrefix s [62, 61]) [32]).2.1 [60]))
     else (⟨62, Lib.trimPrefix s [62, 61], []⟩, rowB (Lib.trimPrefix s [62, 61])))
  else if !(s == []) && decide (Lib.indexByte [60, 61, 94, 126] (bI (s.getD 0 0)).toNat.toUInt8 ≥ 0) then (⟨bI (s.getD 0 0), s.drop 1, []⟩, rowB (s.drop 1))
  else (⟨94, s, []⟩, rowB s)
def behindB (v : Ver) (g : Int) : Ver × Int :=
 if g == 61 && !(v.e == []) then (⟨v.a, v.b, v.c, v.e ++ [46, 48]⟩, checkB v.a v.b v.c (v.e ++ [46, 48]))
 else if g == 61 then (⟨(nextB v 2).1.a, (nextB v 2).1.b, (nextB v 2).1.c, [48]⟩, (nextB v 2).2)
 else if g == 94 && !(v.a == 0) then nextB v 0 else nextB v 1
def spanB (it : It) : Sp × Int :=
 if it.sign == 42 then (Sp.z, 0)
 else if (parseB it.first).2 != 0 then (Sp.z, (parseB it.first).2)
 else if it.sign == 62 then (⟨true, false, (parseB it.first).1, Ver.z⟩, 0)
 else if it.sign == 60 then (⟨false, true, Ver.z, (parseB it.first).1⟩, 0)
 else if it.sign == 98 then (⟨true, true, (parseB it.first).1, (parseB it.last).1⟩, (parseB it.last).2)
 else (⟨true, true, (parseB it.first).1, (behindB (parseB it.first).1 it.sign).1⟩, (behindB (parseB it.first).1 it.sign).2)
def badB (t : List UInt8) : Bool := (!(itemB t).2 || (!((itemB t).1.sign == 42) && wrongB (itemB t).1.first)) || ((itemB t).1.sign == 98 && wrongB (itemB t).1.last)
abbrev partsR (s : List UInt8) : List (List UInt8) := Lib.split s [44, 32]
def rangeB (s : List UInt8) : List Sp × Int :=
 if decide ((s.length : Int) > 1000) then ([], 4) else if s == [110, 111, 110, 101] then ([], 0)
 else if (partsR s).any badB then ([], 8)
 else if firstNe ((partsR s).map fun t => (spanB (itemB t).1).2) != 0 then ([], firstNe ((partsR s).map fun t => (spanB (itemB t).1).2))
 else if rangeE ((partsR s).map fun t => (spanB (itemB t).1).1) != 0 then ([], rangeE ((partsR s).map fun t => (spanB (itemB t).1).1))
 else ((partsR s).map fun t => (spanB (itemB t).1).1, 0)
theorem trim_le (s p : List UInt8) : (Lib.trimPrefix s p).length ≤ s.length := by
 unfold Lib.trimPrefix
 split <;> simp
theorem cut3_le (s p : List UInt8) : (Lib.trimPrefix (Lib.cut s p).2.1 [60]).length ≤ s.length := Nat.le_trans (trim_le _ _) (cut_le s p).2
theorem checkB_ver (v : Ver) : checkB v.a v.b v.c v.e = v.check := rfl
theorem item_le (s : List UInt8) : (itemB s).1.first.length ≤ s.length ∧ (itemB s).1.last.length ≤ s.length := by
 unfold itemB
 have h1 := trim_le s [62, 61]
 have h2 := cut_le (Lib.trimPrefix s [62, 61]) [32]
 have h3 := cut3_le (Lib.trimPrefix s [62, 61]) [32]
 split
 ·skip
  simp
 ·skip
  split
  ·skip
   split
   ·skip
    exact ⟨by simp only; omega, by simp only; omega⟩
   ·skip
    exact ⟨h1, by simp⟩
  ·skip
   split
   ·skip
    simp
   ·skip
    simp
theorem parse_e (s : List UInt8) : (parseB s).1.e.length ≤ s.length := by
 have hc := cut_le s [45]
 unfold parseB parseW
 split
 ·skip
  simp [Ver.z]
 ·skip
  split
  ·skip
   unfold threeB
   split
   ·skip
    simp [Ver.z]
   ·skip
    split
    ·skip
     simp [Ver.z]
    ·skip
     split
     ·skip
      simp [Ver.z]
     ·skip
      split
      ·skip
       simp [Ver.z]
      ·skip
       exact hc.2
  ·skip
   simp [Ver.z]
theorem next_e (v : Ver) (p : Int) : (nextB v p).1.e = [] := by
 have h : ∀ x y z, (nextOk x y z).1.e = [] := fun x y z => by unfold nextOk; split <;> rfl
 unfold nextB
 split
 ·skip
  rfl
 ·skip
  split
  ·skip
   exact h _ _ _
  ·skip
   split
   ·skip
    exact h _ _ _
   ·skip
    split
    ·skip
     exact h _ _ _
    ·skip
     split
     ·skip
      rfl
     ·skip
      exact h _ _ _
theorem behind_e (v : Ver) (g : Int) : (behindB v g).1.e.length ≤ v.e.length + 2 := by
 unfold behindB
 split
 ·skip
  simp
 ·skip
  split
  ·skip
   simp
  ·skip
   split
   ·skip
    rw [next_e]; simp
   ·skip
    rw [next_e]; simp
theorem span_e (t : List UInt8) : (spanB (itemB t).1).1.f.e.length ≤ t.length + 2 ∧ (spanB (itemB t).1).1.t.e.length ≤ t.length + 2 := by
 have h := item_le t
 have h1 := parse_e (itemB t).1.first
 have h2 := parse_e (itemB t).1.last
 have h3 := behind_e (parseB (itemB t).1.first).1 (itemB t).1.sign
 unfold spanB
 split
 ·skip
  simp [Sp.z, Ver.z]
 ·skip
  split
  ·skip
   simp [Sp.z, Ver.z]
  ·skip
   split
   ·skip
    exact ⟨by simp only; omega, by simp [Ver.z]⟩
   ·skip
    split
    ·skip
     exact ⟨by simp [Ver.z], by simp only; omega⟩
    ·skip
     split
     ·skip
      exact ⟨by simp only; omega, by simp only; omega⟩
     ·skip
      exact ⟨by simp only; omega, by simp only; omega⟩
def spRes (t : List UInt8) : Sp := (spanB (itemB t).1).1
theorem any_take {α : Type} {xs : List α} {p : α → Bool} {i : Nat} {d : α} (hi : i < xs.length) (h : (xs.take i).any p = false) (hp : p (xs.getD i d) = false) : (xs.take (i + 1)).any p = false := by
 rw [List.take_add_one, List.any_append, h]
 simp only [List.getD_eq_getElem?_getD, List.getElem?_eq_getElem hi, Option.getD_some] at hp
 simp [List.getElem?_eq_getElem hi, hp]
theorem any_hit {α : Type} {xs : List α} {p : α → Bool} {i : Nat} {d : α} (hi : i < xs.length) (hp : p (xs.getD i d) = true) : xs.any p = true := by
 simp only [List.getD_eq_getElem?_getD, List.getElem?_eq_getElem hi, Option.getD_some] at hp
 exact List.any_eq_true.2 ⟨_, List.getElem_mem hi, hp⟩
theorem any_end {α : Type} {xs : List α} {p : α → Bool} {i : Nat} (hi : xs.length ≤ i) (h : (xs.take i).any p = false) : xs.any p = false := by rwa [List.take_of_length_le hi] at h
section
variable {s : List UInt8}
theorem rB_large (h : decide ((s.length : Int) > 1000) = true) : rangeB s = ([], 4) := if_pos h
theorem rB_none (h : decide ((s.length : Int) > 1000) = false) (h2 : (s == [110, 111, 110, 101]) = true) : rangeB s = ([], 0) := by
 rw [rangeB, if_neg (Bool.eq_false_iff.1 h), if_pos h2]
theorem rB_bad (h : decide ((s.length : Int) > 1000) = false) (h2 : (s == [110, 111, 110, 101]) = false) (h3 : (partsR s).any badB = true) : rangeB s = ([], 8) := by
 rw [rangeB, if_neg (Bool.eq_false_iff.1 h), if_neg (Bool.eq_false_iff.1 h2), if_pos h3]
theorem rB_err {n : Int} (h : decide ((s.length : Int) > 1000) = false) (h2 : (s == [110, 111, 110, 101]) = false) (h3 : (partsR s).any badB = false) (h4 : firstNe ((partsR s).map fun t => (spanB (itemB t).1).2) = n) (hn : n ≠ 0) : rangeB s = ([], n) := by
 rw [rangeB, if_neg (Bool.eq_false_iff.1 h), if_neg (Bool.eq_false_iff.1 h2), if_neg (Bool.eq_false_iff.1 h3), h4, if_pos (by simpa using hn)]
theorem rB_range (h : decide ((s.length : Int) > 1000) = false) (h2 : (s == [110, 111, 110, 101]) = false) (h3 : (partsR s).any badB = false) (h4 : firstNe ((partsR s).map fun t => (spanB (itemB t).1).2) = 0)
  (h5 : (rangeE ((partsR s).map spRes) != 0) = true) : rangeB s = ([], rangeE ((partsR s).map spRes)) := by
 rw [rangeB, if_neg (Bool.eq_false_iff.1 h), if_neg (Bool.eq_false_iff.1 h2), if_neg (Bool.eq_false_iff.1 h3), h4, if_neg (by simp)]
 exact if_pos h5
theorem rB_ok (h : decide ((s.length : Int) > 1000) = false) (h2 : (s == [110, 111, 110, 101]) = false) (h3 : (partsR s).any badB = false) (h4 : firstNe ((partsR s).map fun t => (spanB (itemB t).1).2) = 0)
  (h5 : (rangeE ((partsR s).map spRes) != 0) = false) : rangeB s = ((partsR s).map spRes, 0) := by
 rw [rangeB, if_neg (Bool.eq_false_iff.1 h), if_neg (Bool.eq_false_iff.1 h2), if_neg (Bool.eq_false_iff.1 h3), h4, if_neg (by simp)]
 exact if_neg (Bool.eq_false_iff.1 h5)
end
theorem code_at {ts : List (List UInt8)} {i : Nat} {f : List UInt8 → Int} (hi : i < ts.length) : (ts.map f).getD i 0 = f (ts.getD i []) := by
 simp [List.getD_eq_getElem?_getD, hi]
theorem code_go {ts : List (List UInt8)} {i : Nat} {f : List UInt8 → Int} (hi : i < ts.length) (h : (f (ts.getD i []) != 0) = false) : ((ts.map f).getD i 0 == 0) = true := by
 rw [code_at hi]; simpa using h
theorem code_hit {ts : List (List UInt8)} {i : Nat} {f : List UInt8 → Int} (hi : i < ts.length) (ht : ((ts.map f).take i).all (· == 0) = true) (h : (f (ts.getD i []) != 0) = true) : firstNe (ts.map f) = f (ts.getD i []) := by
 rw [firstNe_hit (by simpa using hi) ht (by rw [code_at hi]; simpa using h), code_at hi]
theorem code_end {ts : List (List UInt8)} {i : Nat} {f : List UInt8 → Int} (hi : ts.length ≤ i) (ht : ((ts.map f).take i).all (· == 0) = true) : firstNe (ts.map f) = 0 := firstNe_none (by simpa using hi) ht
def behindR' (v : Ver) (g : Int) : Ver × Int :=
 if g == 61 && !(v.e == []) then (⟨v.a, v.b, v.c, v.e ++ [46, 48]⟩, checkB v.a v.b v.c (v.e ++ [46, 48]))
 else if g == 61 then (⟨(nextB v 2).1.a, (nextB v 2).1.b, (nextB v 2).1.c, [48]⟩, (nextB v 2).2)
 else if g == 94 && decide (v.a > 0) then nextB v 0 else nextB v 1
def shortV (k : Int) (w : List UInt8) : Sp × Int :=
 if (parseB w).2 != 0 then (Sp.z, (parseB w).2)
 else if k == 61 && !((parseB w).1.e == []) then (⟨true, true, (parseB w).1, ⟨(parseB w).1.a, (parseB w).1.b, (parseB w).1.c, (parseB w).1.e ++ [46, 48]⟩⟩, checkB (parseB w).1.a (parseB w).1.b (parseB w).1.c ((parseB w).1.e ++ [46, 48]))
 else if k == 61 then (⟨true, true, (parseB w).1, ⟨(nextB (parseB w).1 2).1.a, (nextB (parseB w).1 2).1.b, (nextB (parseB w).1 2).1.c, [48]⟩⟩, (nextB (parseB w).1 2).2)
 else if k == 94 && decide ((parseB w).1.a > 0) then (⟨true, true, (parseB w).1, (nextB (parseB w).1 0).1⟩, (nextB (parseB w).1 0).2) else (⟨true, true, (parseB w).1, (nextB (parseB w).1 1).1⟩, (nextB (parseB w).1 1).2)
theorem shortV_def (k : Int) (w : List UInt8) : shortV k w = if (parseB w).2 != 0 then (Sp.z, (parseB w).2) else (⟨true, true, (parseB w).1, (behindR' (parseB w).1 k).1⟩, (behindR' (parseB w).1 k).2) := by
 unfold shortV behindR'
 split
 ·skip
  rfl
 ·skip
  split
  ·skip
   rfl
  ·skip
   split
   ·skip
    rfl
   ·skip
    split <;> rfl
def shortB (w : List UInt8) : Sp × Int :=
 if w == [42] then (Sp.z, 0)
 else if !(w == []) && decide (Lib.indexByte [61, 94, 126] (bI (w.getD 0 0)).toNat.toUInt8 ≥ 0) then shortV (bI (w.getD 0 0)) (w.drop 1) else shortV 94 w
abbrev wordsR (t : List UInt8) : List (List UInt8) := Lib.split t [32]
def tokW (ws : List (List UInt8)) (f l : List UInt8) : Sp × Int :=
 if (ws.length : Int) == 1 && Lib.hasPrefix f [62, 61] then (⟨true, false, (parseB (Lib.trimPrefix f [62, 61])).1, Ver.z⟩, (parseB (Lib.trimPrefix f [62, 61])).2)
 else if (ws.length : Int) == 1 && Lib.hasPrefix l [60] then (⟨false, true, Ver.z, (parseB (Lib.trimPrefix l [60])).1⟩, (parseB (Lib.trimPrefix l [60])).2)
 else if (ws.length : Int) == 1 then shortB f
 else if ((ws.length : Int) == 2 && Lib.hasPrefix f [62, 61]) && Lib.hasPrefix l [60] then
  (⟨true, true, (parseB (Lib.trimPrefix f [62, 61])).1, (parseB (Lib.trimPrefix l [60])).1⟩,
   if (parseB (Lib.trimPrefix f [62, 61])).2 == 8 || (parseB (Lib.trimPrefix l [60])).2 == 8 then 8 else firstB (parseB (Lib.trimPrefix f [62, 61])).2 (parseB (Lib.trimPrefix l [60])).2)
 else (Sp.z, 8)
def tokR (t : List UInt8) : Sp × Int := tokW (wordsR t) ((wordsR t).getD 0 []) ((wordsR t).getD ((wordsR t).length - 1) [])
def tokS (t : List UInt8) : Sp := (tokR t).1
def tokE (t : List UInt8) : Int := (tokR t).2
def rangeR (s : List UInt8) : List Sp × Int :=
 if decide ((s.length : Int) > 1000) then ([], 4) else if s == [110, 111, 110, 101] then ([], 0)
 else if (partsR s).any (fun t => tokE t == 8) then ([], 8)
 else if firstB (firstNe ((partsR s).map tokE)) (rangeE ((partsR s).map tokS)) != 0 then ([], firstB (firstNe ((partsR s).map tokE)) (rangeE ((partsR s).map tokS)))
 else ((partsR s).map tokS, 0)
theorem firstNe_snoc (l : List Int) (x : Int) : firstNe (l ++ [x]) = firstB (firstNe l) x := by
 induction l with
 | nil => by_cases h : x = 0 <;> simp [firstNe, firstB, h]
 | cons a l ih =>
  simp only [List.cons_append, firstNe] at ih ⊢
  by_cases h : a = 0
  ·skip
   subst h; simpa using ih
  ·skip
   simp [h, firstB]
theorem tok_acc {ts : List (List UInt8)} {i : Nat} (hi : i < ts.length) : firstB (firstNe ((ts.take i).map tokE)) (tokE (ts.getD i [])) = firstNe ((ts.take (i + 1)).map tokE) := by
 rw [List.take_add_one, List.getElem?_eq_getElem hi, List.map_append]
 simp only [Option.toList_some, List.map_cons, List.map_nil]
 rw [firstNe_snoc]
 simp [List.getD_eq_getElem?_getD, List.getElem?_eq_getElem hi]
theorem short_e (w : List UInt8) : (shortB w).1.f.e.length ≤ w.length + 2 ∧ (shortB w).1.t.e.length ≤ w.length + 2 := by
 have hb : ∀ (v : Ver) (g : Int), (behindR' v g).1.e.length ≤ v.e.length + 2 := fun v g => by
  unfold behindR'
  split
  ·skip
   simp
  ·skip
   split
   ·skip
    simp
   ·skip
    split
    ·skip
     rw [next_e]; simp
    ·skip
     rw [next_e]; simp
 have hv : ∀ (k : Int) (w : List UInt8), (shortV k w).1.f.e.length ≤ w.length + 2 ∧ (shortV k w).1.t.e.length ≤ w.length + 2 := fun k w => by
  have h1 := parse_e w
  have h2 := hb (parseB w).1 k
  rw [shortV_def]
  split
  ·skip
   simp [Sp.z, Ver.z]
  ·skip
   exact ⟨by simp only; omega, by simp only; omega⟩
 unfold shortB
 split
 ·skip
  simp [Sp.z, Ver.z]
 ·skip
  split
  ·skip
   have := hv (bI (w.getD 0 0)) (w.drop 1)
   simp only [List.length_drop] at this
   omega
  ·skip
   exact hv 94 w
theorem tok_e (t : List UInt8) : (tokS t).f.e.length ≤ t.length + 2 ∧ (tokS t).t.e.length ≤ t.length + 2 := by
 have hf : ((wordsR t).getD 0 []).length ≤ t.length := split_at
 have hl : ((wordsR t).getD ((wordsR t).length - 1) []).length ≤ t.length := split_at
 have t1 := trim_le ((wordsR t).getD 0 []) [62, 61]
 have t2 := trim_le ((wordsR t).getD ((wordsR t).length - 1) []) [60]
 have p1 := parse_e (Lib.trimPrefix ((wordsR t).getD 0 []) [62, 61])
 have p2 := parse_e (Lib.trimPrefix ((wordsR t).getD ((wordsR t).length - 1) []) [60])
 have hs := short_e ((wordsR t).getD 0 [])
 unfold tokS tokR tokW
 split
 ·skip
  exact ⟨by simp only; omega, by simp [Ver.z]⟩
 ·skip
  split
  ·skip
   exact ⟨by simp [Ver.z], by simp only; omega⟩
  ·skip
   split
   ·skip
    omega
   ·skip
    split
    ·skip
     exact ⟨by simp only; omega, by simp only; omega⟩
    ·skip
     simp [Sp.z, Ver.z]
theorem split_pos (s sep : List UInt8) : 0 < (Lib.split s sep).length := by
 unfold Lib.split
 cases Lib.count s sep with
 | zero => simp [Lib.splitK]
 | succ k => unfold Lib.splitK; split <;> simp
section
variable {t : List UInt8}
theorem tok_1 (h : (((wordsR t).length : Int) == 1 && Lib.hasPrefix ((wordsR t).getD 0 []) [62, 61]) = true) : tokR t = (⟨true, false, (parseB (Lib.trimPrefix ((wordsR t).getD 0 []) [62, 61])).1, Ver.z⟩, (parseB (Lib.trimPrefix ((wordsR t).getD 0 []) [62, 61])).2) := if_pos h
theorem tok_2 (h : (((wordsR t).length : Int) == 1 && Lib.hasPrefix ((wordsR t).getD 0 []) [62, 61]) = false) (h2 : (((wordsR t).length : Int) == 1 && Lib.hasPrefix ((wordsR t).getD ((wordsR t).length - 1) []) [60]) = true) :
  tokR t = (⟨false, true, Ver.z, (parseB (Lib.trimPrefix ((wordsR t).getD ((wordsR t).length - 1) []) [60])).1⟩, (parseB (Lib.trimPrefix ((wordsR t).getD ((wordsR t).length - 1) []) [60])).2) := by
 rw [tokR, tokW, if_neg (Bool.eq_false_iff.1 h), if_pos h2]
theorem tok_3 (h : (((wordsR t).length : Int) == 1 && Lib.hasPrefix ((wordsR t).getD 0 []) [62, 61]) = false) (h2 : (((wordsR t).length : Int) == 1 && Lib.hasPrefix ((wordsR t).getD ((wordsR t).length - 1) []) [60]) = false) (h3 : (((wordsR t).length : Int) == 1) = true) :
  tokR t = shortB ((wordsR t).getD 0 []) := by
 rw [tokR, tokW, if_neg (Bool.eq_false_iff.1 h), if_neg (Bool.eq_false_iff.1 h2), if_pos h3]
theorem tok_4 (h : (((wordsR t).length : Int) == 1 && Lib.hasPrefix ((wordsR t).getD 0 []) [62, 61]) = false) (h2 : (((wordsR t).length : Int) == 1 && Lib.hasPrefix ((wordsR t).getD ((wordsR t).length - 1) []) [60]) = false) (h3 : (((wordsR t).length : Int) == 1) = false)
  (h4 : ((((wordsR t).length : Int) == 2 && Lib.hasPrefix ((wordsR t).getD 0 []) [62, 61]) && Lib.hasPrefix ((wordsR t).getD ((wordsR t).length - 1) []) [60]) = true) :
  tokR t = (⟨true, true, (parseB (Lib.trimPrefix ((wordsR t).getD 0 []) [62, 61])).1, (parseB (Lib.trimPrefix ((wordsR t).getD ((wordsR t).length - 1) []) [60])).1⟩,
   if (parseB (Lib.trimPrefix ((wordsR t).getD 0 []) [62, 61])).2 == 8 || (parseB (Lib.trimPrefix ((wordsR t).getD ((wordsR t).length - 1) []) [60])).2 == 8 then 8 else firstB (parseB (Lib.trimPrefix ((wordsR t).getD 0 []) [62, 61])).2 (parseB (Lib.trimPrefix ((wordsR t).getD ((wordsR t).length - 1) []) [60])).2) := by
 rw [tokR, tokW, if_neg (Bool.eq_false_iff.1 h), if_neg (Bool.eq_false_iff.1 h2), if_neg (Bool.eq_false_iff.1 h3), if_pos h4]
theorem tok_5 (h : (((wordsR t).length : Int) == 1 && Lib.hasPrefix ((wordsR t).getD 0 []) [62, 61]) = false) (h2 : (((wordsR t).length : Int) == 1 && Lib.hasPrefix ((wordsR t).getD ((wordsR t).length - 1) []) [60]) = false) (h3 : (((wordsR t).length : Int) == 1) = false)
  (h4 : ((((wordsR t).length : Int) == 2 && Lib.hasPrefix ((wordsR t).getD 0 []) [62, 61]) && Lib.hasPrefix ((wordsR t).getD ((wordsR t).length - 1) []) [60]) = false) : tokR t = (Sp.z, 8) := by
 rw [tokR, tokW, if_neg (Bool.eq_false_iff.1 h), if_neg (Bool.eq_false_iff.1 h2), if_neg (Bool.eq_false_iff.1 h3), if_neg (Bool.eq_false_iff.1 h4)]
end
section
variable {s : List UInt8}
theorem rR_large (h : decide ((s.length : Int) > 1000) = true) : rangeR s = ([], 4) := if_pos h
theorem rR_none (h : decide ((s.length : Int) > 1000) = false) (h2 : (s == [110, 111, 110, 101]) = true) : rangeR s = ([], 0) := by
 rw [rangeR, if_neg (Bool.eq_false_iff.1 h), if_pos h2]
theorem rR_bad {i : Nat} (h : decide ((s.length : Int) > 1000) = false) (h2 : (s == [110, 111, 110, 101]) = false) (hi : i < (partsR s).length) (h3 : tokE ((partsR s).getD i []) = 8) : rangeR s = ([], 8) := by
 rw [rangeR, if_neg (Bool.eq_false_iff.1 h), if_neg (Bool.eq_false_iff.1 h2), if_pos (any_hit (d := []) hi (by simpa using h3))]
theorem rR_err (h : decide ((s.length : Int) > 1000) = false) (h2 : (s == [110, 111, 110, 101]) = false) (h3 : (partsR s).any (fun t => tokE t == 8) = false)
  (h4 : (firstB (firstNe ((partsR s).map tokE)) (rangeE ((partsR s).map tokS)) != 0) = true) : rangeR s = ([], firstB (firstNe ((partsR s).map tokE)) (rangeE ((partsR s).map tokS))) := by
 rw [rangeR, if_neg (Bool.eq_false_iff.1 h), if_neg (Bool.eq_false_iff.1 h2), if_neg (Bool.eq_false_iff.1 h3), if_pos h4]
theorem rR_ok (h : decide ((s.length : Int) > 1000) = false) (h2 : (s == [110, 111, 110, 101]) = false) (h3 : (partsR s).any (fun t => tokE t == 8) = false)
  (h4 : (firstB (firstNe ((partsR s).map tokE)) (rangeE ((partsR s).map tokS)) != 0) = false) : rangeR s = ((partsR s).map tokS, 0) := by
 rw [rangeR, if_neg (Bool.eq_false_iff.1 h), if_neg (Bool.eq_false_iff.1 h2), if_neg (Bool.eq_false_iff.1 h3), if_neg (Bool.eq_false_iff.1 h4)]
end
end
section
open Go
open Go.RowKit
attribute [local irreducible] thenK blockK W
def itV (it : It) : V := .agg [.d (.int .u8 it.sign), .d (.str it.first), .d (.str it.last)]
def itD (t : List UInt8) : List D := [.int .u8 (itemB t).1.sign, .str (itemB t).1.first, .str (itemB t).1.last]
theorem sl_tail (s : List UInt8) : V.one (.d (.str ((s.take ((s.length : Int)).toNat).drop (1 : Int).toNat))) = V.one (.d (.str (s.drop 1))) := by simp
theorem le_rgNil {n : Int} {x : List Sp × Int} (h : x = ([], n)) : LeV (.tup [.agg [.d .nilsl], .one (.d (.int .i64 n))]) (.tup [rgV x.1, .one (.d (.int .i64 x.2))]) := by
 subst h; exact LeV.tup2 (LeV.aggNil 10) (LeV.refl _)
theorem le_rg {ss : List Sp} {n : Int} {x : List Sp × Int} (h : x = (ss, n)) : LeV (.tup [.agg [.d (.vec 10 (ss.map spD))], .one (.d (.int .i64 n))]) (.tup [rgV x.1, .one (.d (.int .i64 x.2))]) := by
 subst h; exact LeV.refl _
theorem len_pos {s : List UInt8} {b : Bool} (h : (!(s == []) && b) = true) : (1 : Int) ≤ (s.length : Int) := by
 cases s with
 | nil => simp at h
 | cons a l => simp only [List.length_cons]; omega
theorem pc_ver_itemOf (s : List UInt8) (hs : s.length < 4294967281) :
  PureCall Tryz.prog J 290 [.one (.d (.str s))] (.tup [itV (itemB s).1, .one (.d (.bool (itemB s).2))]) := by
 have h1 := trim_le s [62, 61]
 have h2 := cut_le (Lib.trimPrefix s [62, 61]) [32]
 have h3 := cut3_le (Lib.trimPrefix s [62, 61]) [32]
 refine PureCall.of_body tOk (fn := Tryz.f290) Tryz.func290 (by kernel_rfl) rfl (Nat.le_of_ble_eq_true rfl) (fun E => ?_)
 iterate 9 first|refine Yp rfl ?_|refine S.alloc tOk rfl rfl rfl rfl ?_|apply Y1|apply Yn|apply Ys
 refine W.cond rfl (fun c1=>?_) fun c1=>?_
 ·skip
  iterate 7 first|refine Yp rfl ?_|apply Yu|apply Yt|refine S.store tOk rfl rfl rfl rfl rfl rfl rfl rfl ?_|apply Y1|apply Yn
  exact Yz rfl rfl rfl (congrArg (fun x : It × Bool => V.tup [itV x.1, .one (.d (.bool x.2))]) ((if_pos c1) : itemB s = _)).symm
 apply Yk
 iterate 9 first|refine Yp rfl ?_|refine S.store tOk rfl rfl rfl rfl rfl rfl rfl rfl ?_|refine S.alloc tOk rfl rfl rfl rfl ?_|apply Y1|apply Y3|apply Ys|apply Yn
 refine S.call rfl rfl rfl rfl rfl (pc_CutPrefix s [62, 61]) ?_
 iterate 8 first|refine Yp rfl ?_|apply Y3|apply Yn
 refine W.cond rfl (fun c2=>?_) fun c2=>?_
 ·skip
  iterate 6 first|refine Yp rfl ?_|refine S.store tOk rfl rfl rfl rfl rfl rfl rfl rfl ?_|apply Y3|apply Y1
  refine S.call rfl rfl rfl rfl rfl (pc_Cut (Lib.trimPrefix s [62, 61]) [32] (by omega)) ?_
  iterate 10 first|refine Yp rfl ?_|apply Y3|apply Yn
  refine W.cond rfl (fun c3=>?_) fun c3=>?_
  ·skip
   apply Y1
   refine Yp rfl ?_
   refine S.call rfl rfl rfl rfl rfl (pc_CutPrefix (Lib.cut (Lib.trimPrefix s [62, 61]) [32]).2.1 [60]) ?_
   iterate 12 first|refine Yp rfl ?_|refine Yg rfl rfl tg ?_|apply Y3
   refine S.callG rfl rfl rfl rfl tg rfl rfl (fun _ => pc_ver_isRow _ (by first | omega | (simp; omega))) ?_
   refine S.pickAnd tOk zOk rfl rfl tg ?_
   refine Yp rfl ?_
   refine Yg rfl rfl tg ?_
   refine S.callG rfl rfl rfl rfl tg rfl rfl (fun _ => pc_ver_isRow _ (by first | omega | (simp; omega))) ?_
   refine S.pickAnd tOk zOk rfl rfl tg ?_
   refine S.store tOk rfl rfl rfl rfl rfl rfl rfl rfl ?_
   refine Yp rfl ?_
   apply Yn
   apply Yt
   apply Yu
   exact Yz rfl rfl rfl (congrArg (fun x : It × Bool => V.tup [itV x.1, .one (.d (.bool x.2))]) (((if_neg (Bool.eq_false_iff.1 c1)).trans ((if_pos c2).trans (if_pos c3))) : itemB s = _)).symm
  apply Yk
  apply Yn
  apply Ys
  refine W.regionD mixed (by kernel_rfl) ?_
  iterate 3 refine Ym rfl rfl ?_
  refine D.call rfl rfl rfl rfl rfl (pc_ver_isRow _ (by first | omega | (simp; omega))) ?_
  refine D.store tOk rfl rfl rfl rfl rfl rfl rfl rfl ?_
  refine Ym rfl rfl ?_
  apply Yn
  apply Yt
  exact Yz rfl rfl rfl (congrArg (fun x : It × Bool => V.tup [itV x.1, .one (.d (.bool x.2))]) (((if_neg (Bool.eq_false_iff.1 c1)).trans ((if_pos c2).trans (if_neg (Bool.eq_false_iff.1 c3)))) : itemB s = _)).symm
 apply Y1
 iterate 3 refine Yp rfl ?_
 refine Yg rfl rfl tg ?_
 refine YG rfl rfl tg (fun h => idx_ok (Int.le_refl _) (by have := len_pos (b := true) (by simpa using h); omega)) rfl ?_
 refine S.callG rfl rfl rfl rfl tg rfl rfl (fun _ => pc_IndexByte _ _) ?_
 refine Yg rfl rfl tg ?_
 refine S.pickAnd tOk zOk rfl rfl tg ?_
 apply Yn
 refine W.cond rfl (fun c4=>?_) fun c4=>?_
 ·skip
  refine W.regionD mixed (by kernel_rfl) ?_
  refine Ym rfl rfl ?_
  refine D.pure tOk zOk rfl rfl (idx_ok (Int.le_refl _) (by have := len_pos c4; omega)) rfl ?_
  refine Ym rfl rfl ?_
  refine D.pureE tOk zOk rfl rfl (sl_ok (l := 1) (h := (s.length : Int)) (n := (s.length : Int)) (by decide) (len_pos c4) (Int.le_refl _)) (sl_tail s) rfl ?_
  refine Ym rfl rfl ?_
  refine D.store tOk rfl rfl rfl rfl rfl rfl rfl rfl ?_
  apply Yn
  apply Ys
  refine W.regionD mixed (by kernel_rfl) ?_
  iterate 3 refine Ym rfl rfl ?_
  refine D.call rfl rfl rfl rfl rfl (pc_ver_isRow _ (by first | omega | (simp; omega))) ?_
  refine D.store tOk rfl rfl rfl rfl rfl rfl rfl rfl ?_
  refine Ym rfl rfl ?_
  apply Yn
  apply Yt
  exact Yz rfl rfl rfl (congrArg (fun x : It × Bool => V.tup [itV x.1, .one (.d (.bool x.2))]) (((if_neg (Bool.eq_false_iff.1 c1)).trans ((if_neg (Bool.eq_false_iff.1 c2)).trans (if_pos c4))) : itemB s = _)).symm
 apply Yk
 apply Yn
 apply Ys
 refine W.regionD mixed (by kernel_rfl) ?_
 iterate 3 refine Ym rfl rfl ?_
 refine D.call rfl rfl rfl rfl rfl (pc_ver_isRow _ (by first | omega | (simp; omega))) ?_
 refine D.store tOk rfl rfl rfl rfl rfl rfl rfl rfl ?_
 refine Ym rfl rfl ?_
 apply Yn
 apply Yt
 exact Yz rfl rfl rfl (congrArg (fun x : It × Bool => V.tup [itV x.1, .one (.d (.bool x.2))]) (((if_neg (Bool.eq_false_iff.1 c1)).trans ((if_neg (Bool.eq_false_iff.1 c2)).trans (if_neg (Bool.eq_false_iff.1 c4)))) : itemB s = _)).symm
theorem pc_ver_behind (v : Ver) (he : v.e.length < 4294967000) (g : Int) :
  PureCall Tryz.prog J 313 [verV v, .one (.d (.int .u8 g))] (.tup [verV (behindB v g).1, .one (.d (.int .i64 (behindB v g).2))]) := by
 refine PureCall.of_body tOk (fn := Tryz.f313) Tryz.func313 (by kernel_rfl) rfl (Nat.le_of_ble_eq_true rfl) (fun E => ?_)
 iterate 17 first|refine S.pickAnd tOk zOk rfl rfl tg ?_|refine Yp rfl ?_|refine Yg rfl rfl tg ?_|apply Yb|refine S.alloc tOk rfl rfl rfl rfl ?_|refine S.box rfl rfl rfl rfl ?_|apply Y1|apply Yn|apply Ys
 refine W.cond rfl (fun c1=>?_) fun c1=>?_
 ·skip
  apply Y1
  iterate 2 refine Yp rfl ?_
  refine YP rfl (cat_ok (by simp [-List.getD_eq_getElem?_getD]; omega)) rfl ?_
  refine Yp rfl ?_
  refine S.store tOk rfl rfl rfl rfl rfl rfl rfl rfl ?_
  apply Yn
  apply Ys
  refine W.regionD mixed (by kernel_rfl) ?_
  iterate 2 refine Ym rfl rfl ?_
  refine D.call rfl rfl rfl rfl rfl (pc_ver_Check ⟨v.a, v.b, v.c, v.e ++ [46, 48]⟩ (by simp; omega)) ?_
  refine D.store tOk rfl rfl rfl rfl rfl rfl rfl rfl ?_
  refine Ym rfl rfl ?_
  apply Yn
  apply Yt
  apply Yv
  apply Yu
  exact Yz rfl rfl rfl (congrArg (fun x : Ver × Int => V.tup [verV x.1, .one (.d (.int .i64 x.2))]) ((if_pos c1) : behindB v g = _)).symm
 apply Y1
 iterate 3 refine Yp rfl ?_
 apply Yn
 refine W.cond rfl (fun c2=>?_) fun c2=>?_
 ·skip
  apply Y1
  refine Yp rfl ?_
  refine S.call rfl rfl rfl rfl rfl (pc_ver_Next v (by omega) 2) ?_
  iterate 18 first|refine Yp rfl ?_|refine S.store tOk rfl rfl rfl rfl rfl rfl rfl rfl ?_|apply Yu|apply Yv|apply Yt|refine S.alloc tOk rfl rfl rfl rfl ?_|apply Y3|apply Yn
  exact Yz rfl rfl rfl (congrArg (fun x : Ver × Int => V.tup [verV x.1, .one (.d (.int .i64 x.2))]) (((if_neg (Bool.eq_false_iff.1 c1)).trans (if_pos c2)) : behindB v g = _)).symm
 iterate 9 first|refine S.pickAnd tOk zOk rfl rfl tg ?_|refine Yp rfl ?_|refine Yg rfl rfl tg ?_|apply Y1
 apply Yn
 refine W.cond rfl (fun c3=>?_) fun c3=>?_
 ·skip
  apply Y1
  refine Yp rfl ?_
  refine S.call rfl rfl rfl rfl rfl (pc_ver_Next v (by omega) 0) ?_
  iterate 8 first|refine Yp rfl ?_|apply Yu|apply Yv|apply Yt|refine S.store tOk rfl rfl rfl rfl rfl rfl rfl rfl ?_|apply Yn
  exact Yz rfl rfl rfl (congrArg (fun x : Ver × Int => V.tup [verV x.1, .one (.d (.int .i64 x.2))]) (((if_neg (Bool.eq_false_iff.1 c1)).trans ((if_neg (Bool.eq_false_iff.1 c2)).trans (if_pos c3))) : behindB v g = _)).symm
 apply Yk
 apply Yw
 apply Y3
 refine Yp rfl ?_
 refine S.call rfl rfl rfl rfl rfl (pc_ver_Next v (by omega) 1) ?_
 iterate 6 first|refine Yp rfl ?_|apply Yt|refine S.store tOk rfl rfl rfl rfl rfl rfl rfl rfl ?_|apply Yn
 exact Yz rfl rfl rfl (congrArg (fun x : Ver × Int => V.tup [verV x.1, .one (.d (.int .i64 x.2))]) (((if_neg (Bool.eq_false_iff.1 c1)).trans ((if_neg (Bool.eq_false_iff.1 c2)).trans (if_neg (Bool.eq_false_iff.1 c3)))) : behindB v g = _)).symm
theorem pc_ver_spanOf (it : It) (h1 : it.first.length < 4294967000) (h2 : it.last.length < 4294967000) :
  PureCall Tryz.prog J 292 [itV it] (.tup [spV (spanB it).1, .one (.d (.int .i64 (spanB it).2))]) := by
 have h3 := parse_e it.first
 refine PureCall.of_body tOk (fn := Tryz.f292) Tryz.func292 (by kernel_rfl) rfl (Nat.le_of_ble_eq_true rfl) (fun E => ?_)
 iterate 11 first|refine Yp rfl ?_|refine S.alloc tOk rfl rfl rfl rfl ?_|refine S.box rfl rfl rfl rfl ?_|apply Y1|apply Yn|apply Ys
 refine W.cond rfl (fun c1=>?_) fun c1=>?_
 ·skip
  iterate 7 first|refine Yp rfl ?_|apply Yu|apply Yt|refine S.store tOk rfl rfl rfl rfl rfl rfl rfl rfl ?_|apply Y1|apply Yn
  exact Yz rfl rfl rfl (congrArg (fun x : Sp × Int => V.tup [spV x.1, .one (.d (.int .i64 x.2))]) ((if_pos c1) : spanB it = _)).symm
 apply Yk
 apply Y3
 iterate 2 refine Yp rfl ?_
 refine S.call rfl rfl rfl rfl rfl (pc_ver_Parse it.first (by omega)) ?_
 iterate 12 first|refine Yp rfl ?_|refine S.store tOk rfl rfl rfl rfl rfl rfl rfl rfl ?_|refine S.alloc tOk rfl rfl rfl rfl ?_|apply Y1|apply Yn|apply Ys
 refine W.cond rfl (fun c2=>?_) fun c2=>?_
 ·skip
  iterate 8 first|refine Yp rfl ?_|apply Yu|apply Yt|refine S.store tOk rfl rfl rfl rfl rfl rfl rfl rfl ?_|apply Y1|apply Yn
  exact Yz rfl rfl rfl (congrArg (fun x : Sp × Int => V.tup [spV x.1, .one (.d (.int .i64 x.2))]) (((if_neg (Bool.eq_false_iff.1 c1)).trans (if_pos c2)) : spanB it = _)).symm
 iterate 12 first|refine Yp rfl ?_|apply Yb|apply Yk|apply Y1|apply Yn|apply Ys
 refine W.cond rfl (fun c3=>?_) fun c3=>?_
 ·skip
  iterate 9 first|refine Yp rfl ?_|apply Yu|apply Yv|apply Yt|refine S.store tOk rfl rfl rfl rfl rfl rfl rfl rfl ?_|apply Y1|apply Yn
  exact Yz rfl rfl rfl (congrArg (fun x : Sp × Int => V.tup [spV x.1, .one (.d (.int .i64 x.2))]) (((if_neg (Bool.eq_false_iff.1 c1)).trans ((if_neg (Bool.eq_false_iff.1 c2)).trans (if_pos c3))) : spanB it = _)).symm
 apply Y1
 iterate 2 refine Yp rfl ?_
 apply Yn
 refine W.cond rfl (fun c4=>?_) fun c4=>?_
 ·skip
  iterate 9 first|refine Yp rfl ?_|apply Yu|apply Yv|apply Yt|refine S.store tOk rfl rfl rfl rfl rfl rfl rfl rfl ?_|apply Y1|apply Yn
  exact Yz rfl rfl rfl (congrArg (fun x : Sp × Int => V.tup [spV x.1, .one (.d (.int .i64 x.2))]) (((if_neg (Bool.eq_false_iff.1 c1)).trans ((if_neg (Bool.eq_false_iff.1 c2)).trans ((if_neg (Bool.eq_false_iff.1 c3)).trans (if_pos c4)))) : spanB it = _)).symm
 apply Y1
 iterate 2 refine Yp rfl ?_
 apply Yn
 refine W.cond rfl (fun c5=>?_) fun c5=>?_
 ·skip
  apply Y1
  iterate 2 refine Yp rfl ?_
  refine S.call rfl rfl rfl rfl rfl (pc_ver_Parse it.last (by omega)) ?_
  iterate 17 first|refine Yp rfl ?_|refine S.store tOk rfl rfl rfl rfl rfl rfl rfl rfl ?_|apply Yu|apply Yv|apply Yt|refine S.alloc tOk rfl rfl rfl rfl ?_|apply Y3|apply Yn
  exact Yz rfl rfl rfl (congrArg (fun x : Sp × Int => V.tup [spV x.1, .one (.d (.int .i64 x.2))]) (((if_neg (Bool.eq_false_iff.1 c1)).trans ((if_neg (Bool.eq_false_iff.1 c2)).trans ((if_neg (Bool.eq_false_iff.1 c3)).trans ((if_neg (Bool.eq_false_iff.1 c4)).trans (if_pos c5))))) : spanB it = _)).symm
 apply Yk
 apply Yw
 apply Y3
 iterate 3 refine Yp rfl ?_
 refine S.call rfl rfl rfl rfl rfl (pc_ver_behind (parseB it.first).1 (by omega) it.sign) ?_
 iterate 15 first|refine Yp rfl ?_|refine S.store tOk rfl rfl rfl rfl rfl rfl rfl rfl ?_|apply Yt|refine S.alloc tOk rfl rfl rfl rfl ?_|apply Y3|apply Yn
 exact Yz rfl rfl rfl (congrArg (fun x : Sp × Int => V.tup [spV x.1, .one (.d (.int .i64 x.2))]) (((if_neg (Bool.eq_false_iff.1 c1)).trans ((if_neg (Bool.eq_false_iff.1 c2)).trans ((if_neg (Bool.eq_false_iff.1 c3)).trans ((if_neg (Bool.eq_false_iff.1 c4)).trans (if_neg (Bool.eq_false_iff.1 c5)))))) : spanB it = _)).symm
theorem pc_ver_ParseRange (s : List UInt8) (hs : s.length < 4294967000) :
  PureCall Tryz.prog J 263 [.one (.d (.str s))] (.tup [rgV (rangeB s).1, .one (.d (.int .i64 (rangeB s).2))]) := by
 have hmany := split_le s [44, 32]
 have hm := fun i => @split_at s [44, 32] i
 refine PureCall.of_body tOk (fn := Tryz.f263) Tryz.func263 (by kernel_rfl) rfl (Nat.le_of_ble_eq_true rfl) (fun E => ?_)
 iterate 10 first|refine Yp rfl ?_|refine S.alloc tOk rfl rfl rfl rfl ?_|apply Y1|apply Yn|apply Ys
 refine W.cond rfl (fun c1=>?_) fun c1=>?_
 ·skip
  iterate 7 first|refine Yp rfl ?_|apply Yu|apply Yt|refine S.store tOk rfl rfl rfl rfl rfl rfl rfl rfl ?_|apply Y1|apply Yn
  exact ⟨_, rfl, rfl, le_rgNil (rB_large c1)⟩
 iterate 7 first|refine Yp rfl ?_|apply Yk|apply Y1|apply Yn|apply Ys
 refine W.cond rfl (fun c2=>?_) fun c2=>?_
 ·skip
  iterate 7 first|refine Yp rfl ?_|apply Yu|apply Yt|refine S.store tOk rfl rfl rfl rfl rfl rfl rfl rfl ?_|apply Y1|apply Yn
  exact ⟨_, rfl, rfl, le_rgNil (rB_none c1 c2)⟩
 apply Yk
 apply Y3
 refine Yp rfl ?_
 apply Yn
 apply Ys
 apply Ys
 refine W.newRow 4 3 330 rfl ?_
 apply Yr
 refine Yp rfl ?_
 refine S.call rfl rfl rfl rfl rfl (pc_Split s [44, 32] (by omega) (by decide)) ?_
 iterate 2 refine Yp rfl ?_
 apply Yn
 apply Yb
 refine W.loop (fun k st => ∃ i : Nat, ∃ v : Nat, ∃ al : Bool, i ≤ (Lib.split s [44, 32]).length ∧ ((Lib.split s [44, 32]).take i).any badB = false ∧ k = (Lib.split s [44, 32]).length - i ∧ ∃ t b2 r2 m2, st = ⟨t, [[.d .nilsl]] ++ b2, [some ⟨al, v, 3, 330, (((Lib.split s [44, 32]).take i).map itD)⟩] ++ r2, [] ++ m2⟩ ∧ holdsL t [(2, .one (.ptr 0 0)), (4, .one (.row 0 v 0 (((Lib.split s [44, 32]).take i).map itD).length)), (23, .one (.d (.vec 1 ((Lib.split s [44, 32]).map fun x => [.str x])))), (24, .one (.d (.int .i64 (((Lib.split s [44, 32]).map fun x => ([.str x] : List D)).length : Int)))), (25, .one (.d (.int .i64 (i : Int))))]) ((Lib.split s [44, 32]).length) ⟨0, 0, false, Nat.zero_le _, by simp, rfl, _, _, _, _, rfl, rfl, rfl, rfl, rfl, rfl, trivial⟩ ?_
 rintro k0 _ ⟨i, v, al, f0_0, f0_1, rfl, t0, bb0, rr0, mm0, rfl, hh0⟩
 refine W.keepR _ _ _ _ _ _ _ hh0 rfl ?_
 apply Y1
 refine Yp rfl ?_
 apply Yn
 apply Ys
 refine W.cond rfl (fun c3=>?_) fun c3=>?_
 ·skip
  have hi := row_lt c3
  apply Yk
  apply Yn
  apply Ys
  apply Yb
  apply Y1
  refine YE rfl (row_ok hi) (row_at [] hi) rfl ?_
  iterate 4 first|refine Yp rfl ?_|apply Y3
  refine S.call rfl rfl rfl rfl rfl (pc_ver_itemOf ((Lib.split s [44, 32]).getD i []) (by have := hm i; omega)) ?_
  iterate 18 first|refine Yp rfl ?_|refine Yg rfl rfl tg ?_|refine S.store tOk rfl rfl rfl rfl rfl rfl rfl rfl ?_|refine S.alloc tOk rfl rfl rfl rfl ?_|apply Y1|apply Ys|apply Yn
  refine S.callG rfl rfl rfl rfl tg rfl rfl (fun _ => pc_ver_wrong (itemB ((Lib.split s [44, 32]).getD i [])).1.first (by have := hm i; have := item_le ((Lib.split s [44, 32]).getD i []); omega)) ?_
  refine S.pickAndG tOk zOk rfl rfl rfl tg tg ?_
  refine S.pickOr tOk zOk rfl rfl tg ?_
  refine Yp rfl ?_
  iterate 6 refine Yg rfl rfl tg ?_
  refine S.callG rfl rfl rfl rfl tg rfl rfl (fun _ => pc_ver_wrong (itemB ((Lib.split s [44, 32]).getD i [])).1.last (by have := hm i; have := item_le ((Lib.split s [44, 32]).getD i []); omega)) ?_
  refine S.pickAndG tOk zOk rfl rfl rfl tg tg ?_
  refine S.pickOr tOk zOk rfl rfl tg ?_
  apply Yn
  refine W.cond rfl (fun c4=>?_) fun c4=>?_
  ·skip
   iterate 12 first|apply Yu|apply Yv|refine Yp rfl ?_|apply Yt|refine S.store tOk rfl rfl rfl rfl rfl rfl rfl rfl ?_|apply Y1|apply Yn
   exact ⟨_, rfl, rfl, le_rgNil (rB_bad c1 c2 (any_hit (d := []) hi c4))⟩
  apply Yk
  apply Y4
  iterate 2 refine Yp rfl ?_
  refine S.slice tOk rfl rfl ?_
  refine S.append tOk rfl rfl rfl rfl rfl rfl rfl rfl rfl rfl rfl rfl (by show _ + 1 ≤ _; simp; omega) rfl (take_snoc [] hi) rfl ?_
  iterate 5 first|refine Yp rfl ?_|apply Yw|apply Y4
  refine loop_n ((Lib.split s [44, 32]).length - (i + 1)) (by omega) ⟨i + 1, _, _, hi, any_take (d := []) hi f0_1 c4, rfl, _, _, _, _, rfl, rfl, rfl, rfl, rfl, inc_i64 (by omega), trivial⟩
 have hi := row_ge c3
 apply Yq
 apply Ye
 apply Ye
 apply Yx
 apply Yn
 apply Ys
 refine W.freeze (q := ⟨_, _, _, _, _⟩) [4] rfl (by intro k hk; simp at hk; subst hk; rfl) ?_
 have hall := any_end hi f0_1
 have hts : (Lib.split s [44, 32]).take i = (Lib.split s [44, 32]) := List.take_of_length_le hi
 rw [hts]
 apply Yr
 refine Yp rfl ?_
 refine S.alloc tOk rfl rfl rfl rfl ?_
 refine S.store tOk rfl rfl rfl rfl rfl rfl rfl rfl ?_
 apply Yn
 apply Ys
 apply Ys
 refine W.newRowB 1 0 10 178 rfl rfl rfl ?_
 apply Yr
 iterate 3 refine Yp rfl ?_
 apply Yn
 apply Yb
 refine W.loop (fun k st => ∃ i : Nat, ∃ v : Nat, ∃ al : Bool, i ≤ (Lib.split s [44, 32]).length ∧ (((Lib.split s [44, 32]).map fun t => (spanB (itemB t).1).2).take i).all (· == 0) = true ∧ k = (Lib.split s [44, 32]).length - i ∧ ∃ t b2 r2 m2, st = ⟨t, [[.d .nilsl], [.row 1 v 0 ((((Lib.split s [44, 32]).take i).map spRes).map spD).length]] ++ b2, [none, some ⟨al, v, 10, 178, ((((Lib.split s [44, 32]).take i).map spRes).map spD)⟩] ++ r2, [] ++ m2⟩ ∧ holdsL t [(2, .one (.ptr 0 0)), (9, .one (.ptr 1 0)), (63, .one (.d (.vec 3 ((Lib.split s [44, 32]).map itD)))), (64, .one (.d (.int .i64 (((Lib.split s [44, 32]).map itD).length : Int)))), (65, .one (.d (.int .i64 (i : Int))))]) ((Lib.split s [44, 32]).length) ⟨0, 0, false, Nat.zero_le _, by simp, rfl, _, _, _, _, rfl, rfl, rfl, rfl, rfl, rfl, trivial⟩ ?_
 rintro k2 _ ⟨i, v, al, f2_0, f2_1, rfl, t2, bb2, rr2, mm2, rfl, hh2⟩
 refine W.keepR _ _ _ _ _ _ _ hh2 rfl ?_
 apply Y1
 refine Yp rfl ?_
 apply Yn
 apply Ys
 refine W.cond rfl (fun c5=>?_) fun c5=>?_
 ·skip
  have hi := row_lt c5
  apply Yk
  apply Yn
  apply Ys
  apply Yb
  apply Y1
  refine YE rfl (row_ok hi) (row_at [] hi) rfl ?_
  iterate 5 first|refine Yp rfl ?_|refine S.store tOk rfl rfl rfl rfl rfl rfl rfl rfl ?_|refine S.alloc tOk rfl rfl rfl rfl ?_|apply Y3
  refine S.call rfl rfl rfl rfl rfl (pc_ver_spanOf (itemB ((Lib.split s [44, 32]).getD i [])).1 (by have := hm i; have := item_le ((Lib.split s [44, 32]).getD i []); omega) (by have := hm i; have := item_le ((Lib.split s [44, 32]).getD i []); omega)) ?_
  iterate 12 first|refine Yp rfl ?_|refine S.store tOk rfl rfl rfl rfl rfl rfl rfl rfl ?_|refine S.alloc tOk rfl rfl rfl rfl ?_|apply Y1|apply Yn|apply Ys
  refine W.cond rfl (fun c6=>?_) fun c6=>?_
  ·skip
   iterate 13 first|apply Yu|refine Yp rfl ?_|apply Yv|apply Yt|refine S.store tOk rfl rfl rfl rfl rfl rfl rfl rfl ?_|apply Y1|apply Yn
   exact ⟨_, rfl, rfl, le_rgNil (rB_err c1 c2 hall (code_hit hi f2_1 c6) (by simpa using c6))⟩
  apply Yk
  apply Y4
  iterate 3 refine Yp rfl ?_
  refine S.slice tOk rfl rfl ?_
  refine S.append tOk rfl rfl rfl rfl rfl rfl rfl rfl rfl rfl rfl rfl (by show _ + 1 ≤ _; simp; omega) rfl (take_snoc2 [] hi) rfl ?_
  iterate 6 first|refine Yp rfl ?_|apply Yw|refine S.store tOk rfl rfl rfl rfl rfl rfl rfl rfl ?_|apply Y4
  refine loop_n ((Lib.split s [44, 32]).length - (i + 1)) (by omega) ⟨i + 1, _, _, hi, all_take_succ (d := 0) (by simpa using hi) f2_1 (code_go hi c6), rfl, _, _, _, _, rfl, rfl, rfl, rfl, rfl, inc_i64 (by omega), trivial⟩
 have hi := row_ge c5
 iterate 7 first|apply Ye|apply Yx|apply Yq|apply Ys|apply Yn
 refine W.freezeB (ri := 1) (q := ⟨_, _, _, _, _⟩) 1 0 rfl rfl rfl rfl ?_
 have hcode := code_end hi f2_1
 have hts2 : (Lib.split s [44, 32]).take i = (Lib.split s [44, 32]) := List.take_of_length_le hi
 rw [hts2]
 have hsp : ∀ u ∈ (Lib.split s [44, 32]).map spRes, SpLen u := fun u hu => by
  obtain ⟨x, hx, rfl⟩ := List.mem_map.1 hu
  have h1 := span_e x
  have h2 : x.length ≤ s.length := split_mem hx
  unfold spRes SpLen; omega
 apply Yr
 refine Yp rfl ?_
 refine S.call rfl rfl rfl rfl rfl (pc_ver_CheckRange ((Lib.split s [44, 32]).map spRes) (by have := c1; simp at this ⊢; omega) hsp) ?_
 iterate 5 first|refine Yp rfl ?_|apply Y3|apply Yn
 refine W.cond rfl (fun c7=>?_) fun c7=>?_
 ·skip
  iterate 8 first|refine Yp rfl ?_|apply Yu|apply Yt|refine S.store tOk rfl rfl rfl rfl rfl rfl rfl rfl ?_|apply Y1|apply Yn
  exact ⟨_, rfl, rfl, le_rgNil (rB_range c1 c2 hall hcode c7)⟩
 iterate 7 first|refine Yp rfl ?_|apply Yt|refine S.store tOk rfl rfl rfl rfl rfl rfl rfl rfl ?_|apply Yk|apply Y3|apply Yn
 exact ⟨_, rfl, rfl, le_rg (rB_ok c1 c2 hall hcode c7)⟩
end
section
open Go
open Go.RowKit
attribute [local irreducible] thenK blockK W
attribute [local irreducible] parseB nextB Lib.split Lib.trimPrefix Lib.hasPrefix
theorem row_last {α : Type} {f : α → List D} {l : List α} (d : α) (h : 0 < l.length) (hl : l.length ≤ 4611686018427387904) : V.one (.eptr ((l.map f).getD (IntKind.i64.wrap (((l.map f).length : Int) - 1)).toNat [])) = V.one (.eptr (f (l.getD (l.length - 1) d))) := by
 rw [show ((l.map f).length : Int) = (l.length : Int) by simp, pred_nat hl]
 simp [List.getD_eq_getElem?_getD, show l.length - 1 < l.length by omega]
theorem last_ok {α : Type} {f : α → List D} {l : List α} (h : 0 < l.length) (hl : l.length ≤ 4611686018427387904) :
  (decide (0 ≤ IntKind.i64.wrap (((l.map f).length : Int) - 1)) && decide (IntKind.i64.wrap (((l.map f).length : Int) - 1) < ((l.map f).length : Int))) = true := by
 have e : IntKind.i64.wrap (((l.map f).length : Int) - 1) = (l.length : Int) - 1 := by rw [show ((l.map f).length : Int) = (l.length : Int) by simp]; exact wrap_i64 (by omega) (by omega)
 rw [e]; simp; omega
theorem pc_outref2_upTo (v w : Ver) :
  PureCall Tryz.prog J 294 [verV v, verV w] (.agg [.d (.bool true), .d (.bool true), .d (.int .i64 v.a), .d (.int .i64 v.b), .d (.int .i64 v.c), .d (.str v.e), .d (.int .i64 w.a), .d (.int .i64 w.b), .d (.int .i64 w.c), .d (.str w.e)]) := by
 refine PureCall.of_body tOk (fn := Tryz.f294) Tryz.func294 (by kernel_rfl) rfl (Nat.le_of_ble_eq_true rfl) (fun E => ?_)
 iterate 11 first|refine Yp rfl ?_|refine S.box rfl rfl rfl rfl ?_|apply Yt|refine S.store tOk rfl rfl rfl rfl rfl rfl rfl rfl ?_|refine S.alloc tOk rfl rfl rfl rfl ?_|apply Y3|apply Y1|apply Yn
 exact ⟨_, rfl, rfl, LeV.refl _⟩
theorem pc_outref2_shortSpan (s : List UInt8) (hs : s.length < 4294967000) :
  PureCall Tryz.prog J 265 [.one (.d (.str s))] (.tup [spV (shortB s).1, .one (.d (.int .i64 (shortB s).2))]) := by
 have h1 := parse_e s
 have h2 := parse_e (s.drop 1)
 simp only [List.length_drop] at h2
 refine PureCall.of_body tOk (fn := Tryz.f265) Tryz.func265 (by kernel_rfl) rfl (Nat.le_of_ble_eq_true rfl) (fun E => ?_)
 iterate 9 first|refine Yp rfl ?_|refine S.alloc tOk rfl rfl rfl rfl ?_|apply Y1|apply Yn|apply Ys
 refine W.cond rfl (fun c1=>?_) fun c1=>?_
 ·skip
  iterate 7 first|refine Yp rfl ?_|apply Yu|apply Yt|refine S.store tOk rfl rfl rfl rfl rfl rfl rfl rfl ?_|apply Y1|apply Yn
  exact Yz rfl rfl rfl (congrArg (fun x : Sp × Int => V.tup [spV x.1, .one (.d (.int .i64 x.2))]) ((if_pos c1) : shortB s = _)).symm
 iterate 9 first|refine Yp rfl ?_|apply Yk|apply Y1|apply Y3|apply Ys|apply Yn
 refine Yg rfl rfl tg ?_
 refine YG rfl rfl tg (fun h => idx_ok (Int.le_refl _) (by have := len_pos (b := true) (by simpa using h); omega)) rfl ?_
 refine S.callG rfl rfl rfl rfl tg rfl rfl (fun _ => pc_IndexByte _ _) ?_
 refine Yg rfl rfl tg ?_
 refine S.pickAnd tOk zOk rfl rfl tg ?_
 apply Yn
 refine W.cond rfl (fun c2=>?_) fun c2=>?_
 ·skip
  refine W.regionD mixed (by kernel_rfl) ?_
  refine Ym rfl rfl ?_
  refine D.pure tOk zOk rfl rfl (idx_ok (Int.le_refl _) (by have := len_pos c2; omega)) rfl ?_
  refine Ym rfl rfl ?_
  refine D.pureE tOk zOk rfl rfl (sl_ok (l := 1) (h := (s.length : Int)) (n := (s.length : Int)) (by decide) (len_pos c2) (Int.le_refl _)) (sl_tail s) rfl ?_
  iterate 2 refine Ym rfl rfl ?_
  apply Y3
  refine Yp rfl ?_
  refine S.call rfl rfl rfl rfl rfl (pc_outref2_ReadVersion (s.drop 1) (by simp; omega)) ?_
  iterate 12 first|refine Yp rfl ?_|refine S.store tOk rfl rfl rfl rfl rfl rfl rfl rfl ?_|refine S.alloc tOk rfl rfl rfl rfl ?_|apply Y1|apply Yn|apply Ys
  refine W.cond rfl (fun c3=>?_) fun c3=>?_
  ·skip
   iterate 8 first|refine Yp rfl ?_|apply Yu|apply Yt|refine S.store tOk rfl rfl rfl rfl rfl rfl rfl rfl ?_|apply Y1|apply Yn
   exact Yz rfl rfl rfl (congrArg (fun x : Sp × Int => V.tup [spV x.1, .one (.d (.int .i64 x.2))]) (((if_neg (Bool.eq_false_iff.1 c1)).trans ((if_pos c2).trans (if_pos c3))) : shortB s = _)).symm
  apply Yk
  apply Y3
  iterate 16 first|refine S.pickAnd tOk zOk rfl rfl tg ?_|refine Yp rfl ?_|refine Yg rfl rfl tg ?_|apply Yb|refine S.store tOk rfl rfl rfl rfl rfl rfl rfl rfl ?_|refine S.alloc tOk rfl rfl rfl rfl ?_|apply Y1|apply Yn|apply Ys
  refine W.cond rfl (fun c4=>?_) fun c4=>?_
  ·skip
   apply Y1
   iterate 2 refine Yp rfl ?_
   refine YP rfl (cat_ok (by simp [-List.getD_eq_getElem?_getD, -List.drop_one]; omega)) rfl ?_
   refine Yp rfl ?_
   refine S.store tOk rfl rfl rfl rfl rfl rfl rfl rfl ?_
   apply Yn
   apply Ys
   refine W.regionD mixed (by kernel_rfl) ?_
   iterate 2 refine Ym rfl rfl ?_
   refine D.call rfl rfl rfl rfl rfl (pc_outref2_upTo (parseB (s.drop 1)).1 ⟨(parseB (s.drop 1)).1.a, (parseB (s.drop 1)).1.b, (parseB (s.drop 1)).1.c, (parseB (s.drop 1)).1.e ++ [46, 48]⟩) ?_
   refine Ym rfl rfl ?_
   refine D.slice tOk rfl rfl ?_
   refine D.call rfl rfl rfl rfl rfl (pc_verr1 ⟨(parseB (s.drop 1)).1.a, (parseB (s.drop 1)).1.b, (parseB (s.drop 1)).1.c, (parseB (s.drop 1)).1.e ++ [46, 48]⟩ (by simp [-List.drop_one]; omega)) ?_
   refine D.store tOk rfl rfl rfl rfl rfl rfl rfl rfl ?_
   refine Ym rfl rfl ?_
   apply Yn
   apply Yt
   apply Yv
   apply Yu
   exact Yz rfl rfl rfl (congrArg (fun x : Sp × Int => V.tup [spV x.1, .one (.d (.int .i64 x.2))]) (((if_neg (Bool.eq_false_iff.1 c1)).trans ((if_pos c2).trans ((if_neg (Bool.eq_false_iff.1 c3)).trans (if_pos c4)))) : shortB s = _)).symm
  apply Y1
  iterate 3 refine Yp rfl ?_
  apply Yn
  refine W.cond rfl (fun c5=>?_) fun c5=>?_
  ·skip
   apply Y1
   refine Yp rfl ?_
   refine S.call rfl rfl rfl rfl rfl (pc_outref2_NextOf (parseB (s.drop 1)).1 (by omega) 2) ?_
   iterate 12 first|refine Yp rfl ?_|refine S.store tOk rfl rfl rfl rfl rfl rfl rfl rfl ?_|apply Yw|apply Y3|apply Y4
   refine S.call rfl rfl rfl rfl rfl (pc_outref2_upTo (parseB (s.drop 1)).1 ⟨(nextB (parseB (s.drop 1)).1 2).1.a, (nextB (parseB (s.drop 1)).1 2).1.b, (nextB (parseB (s.drop 1)).1 2).1.c, [48]⟩) ?_
   iterate 5 first|refine Yp rfl ?_|apply Yt|refine S.store tOk rfl rfl rfl rfl rfl rfl rfl rfl ?_|apply Yn
   exact Yz rfl rfl rfl (congrArg (fun x : Sp × Int => V.tup [spV x.1, .one (.d (.int .i64 x.2))]) (((if_neg (Bool.eq_false_iff.1 c1)).trans ((if_pos c2).trans ((if_neg (Bool.eq_false_iff.1 c3)).trans ((if_neg (Bool.eq_false_iff.1 c4)).trans (if_pos c5))))) : shortB s = _)).symm
  iterate 10 first|refine S.pickAnd tOk zOk rfl rfl tg ?_|refine Yp rfl ?_|refine Yg rfl rfl tg ?_|apply Y1|apply Yn
  refine W.cond rfl (fun c6=>?_) fun c6=>?_
  ·skip
   apply Yr
   refine Yp rfl ?_
   refine S.call rfl rfl rfl rfl rfl (pc_outref2_NextOf (parseB (s.drop 1)).1 (by omega) 0) ?_
   iterate 9 first|refine Yp rfl ?_|apply Yw|refine S.store tOk rfl rfl rfl rfl rfl rfl rfl rfl ?_|apply Y3
   refine S.call rfl rfl rfl rfl rfl (pc_outref2_upTo (parseB (s.drop 1)).1 (nextB (parseB (s.drop 1)).1 0).1) ?_
   iterate 5 first|refine Yp rfl ?_|apply Yt|refine S.store tOk rfl rfl rfl rfl rfl rfl rfl rfl ?_|apply Yn
   exact Yz rfl rfl rfl (congrArg (fun x : Sp × Int => V.tup [spV x.1, .one (.d (.int .i64 x.2))]) (((if_neg (Bool.eq_false_iff.1 c1)).trans ((if_pos c2).trans ((if_neg (Bool.eq_false_iff.1 c3)).trans ((if_neg (Bool.eq_false_iff.1 c4)).trans ((if_neg (Bool.eq_false_iff.1 c5)).trans (if_pos c6)))))) : shortB s = _)).symm
  apply Yr
  refine Yp rfl ?_
  refine S.call rfl rfl rfl rfl rfl (pc_outref2_NextOf (parseB (s.drop 1)).1 (by omega) 1) ?_
  iterate 9 first|refine Yp rfl ?_|apply Yw|refine S.store tOk rfl rfl rfl rfl rfl rfl rfl rfl ?_|apply Y3
  refine S.call rfl rfl rfl rfl rfl (pc_outref2_upTo (parseB (s.drop 1)).1 (nextB (parseB (s.drop 1)).1 1).1) ?_
  iterate 5 first|refine Yp rfl ?_|apply Yt|refine S.store tOk rfl rfl rfl rfl rfl rfl rfl rfl ?_|apply Yn
  exact Yz rfl rfl rfl (congrArg (fun x : Sp × Int => V.tup [spV x.1, .one (.d (.int .i64 x.2))]) (((if_neg (Bool.eq_false_iff.1 c1)).trans ((if_pos c2).trans ((if_neg (Bool.eq_false_iff.1 c3)).trans ((if_neg (Bool.eq_false_iff.1 c4)).trans ((if_neg (Bool.eq_false_iff.1 c5)).trans (if_neg (Bool.eq_false_iff.1 c6))))))) : shortB s = _)).symm
 apply Yk
 apply Y3
 refine Yp rfl ?_
 refine S.call rfl rfl rfl rfl rfl (pc_outref2_ReadVersion s (by omega)) ?_
 iterate 12 first|refine Yp rfl ?_|refine S.store tOk rfl rfl rfl rfl rfl rfl rfl rfl ?_|refine S.alloc tOk rfl rfl rfl rfl ?_|apply Y1|apply Yn|apply Ys
 refine W.cond rfl (fun c7=>?_) fun c7=>?_
 ·skip
  iterate 8 first|refine Yp rfl ?_|apply Yu|apply Yt|refine S.store tOk rfl rfl rfl rfl rfl rfl rfl rfl ?_|apply Y1|apply Yn
  exact Yz rfl rfl rfl (congrArg (fun x : Sp × Int => V.tup [spV x.1, .one (.d (.int .i64 x.2))]) (((if_neg (Bool.eq_false_iff.1 c1)).trans ((if_neg (Bool.eq_false_iff.1 c2)).trans (if_pos c7))) : shortB s = _)).symm
 apply Yk
 apply Y3
 iterate 16 first|refine S.pickAnd tOk zOk rfl rfl tg ?_|refine Yp rfl ?_|refine Yg rfl rfl tg ?_|apply Yb|refine S.store tOk rfl rfl rfl rfl rfl rfl rfl rfl ?_|refine S.alloc tOk rfl rfl rfl rfl ?_|apply Y1|apply Yn|apply Ys
 refine W.cond rfl (fun c8=>?_) fun c8=>?_
 ·skip
  apply Y1
  iterate 2 refine Yp rfl ?_
  refine YP rfl (cat_ok (by simp [-List.getD_eq_getElem?_getD, -List.drop_one]; omega)) rfl ?_
  refine Yp rfl ?_
  refine S.store tOk rfl rfl rfl rfl rfl rfl rfl rfl ?_
  apply Yn
  apply Ys
  refine W.regionD mixed (by kernel_rfl) ?_
  iterate 2 refine Ym rfl rfl ?_
  refine D.call rfl rfl rfl rfl rfl (pc_outref2_upTo (parseB s).1 ⟨(parseB s).1.a, (parseB s).1.b, (parseB s).1.c, (parseB s).1.e ++ [46, 48]⟩) ?_
  refine Ym rfl rfl ?_
  refine D.slice tOk rfl rfl ?_
  refine D.call rfl rfl rfl rfl rfl (pc_verr1 ⟨(parseB s).1.a, (parseB s).1.b, (parseB s).1.c, (parseB s).1.e ++ [46, 48]⟩ (by simp [-List.drop_one]; omega)) ?_
  refine D.store tOk rfl rfl rfl rfl rfl rfl rfl rfl ?_
  refine Ym rfl rfl ?_
  apply Yn
  apply Yt
  apply Yv
  apply Yu
  exact Yz rfl rfl rfl (congrArg (fun x : Sp × Int => V.tup [spV x.1, .one (.d (.int .i64 x.2))]) (((if_neg (Bool.eq_false_iff.1 c1)).trans ((if_neg (Bool.eq_false_iff.1 c2)).trans ((if_neg (Bool.eq_false_iff.1 c7)).trans (if_pos c8)))) : shortB s = _)).symm
 apply Y1
 iterate 3 refine Yp rfl ?_
 apply Yn
 refine W.cond rfl (fun c9=>?_) fun c9=>?_
 ·skip
  apply Y1
  refine Yp rfl ?_
  refine S.call rfl rfl rfl rfl rfl (pc_outref2_NextOf (parseB s).1 (by omega) 2) ?_
  iterate 12 first|refine Yp rfl ?_|refine S.store tOk rfl rfl rfl rfl rfl rfl rfl rfl ?_|apply Yw|apply Y3|apply Y4
  refine S.call rfl rfl rfl rfl rfl (pc_outref2_upTo (parseB s).1 ⟨(nextB (parseB s).1 2).1.a, (nextB (parseB s).1 2).1.b, (nextB (parseB s).1 2).1.c, [48]⟩) ?_
  iterate 5 first|refine Yp rfl ?_|apply Yt|refine S.store tOk rfl rfl rfl rfl rfl rfl rfl rfl ?_|apply Yn
  exact Yz rfl rfl rfl (congrArg (fun x : Sp × Int => V.tup [spV x.1, .one (.d (.int .i64 x.2))]) (((if_neg (Bool.eq_false_iff.1 c1)).trans ((if_neg (Bool.eq_false_iff.1 c2)).trans ((if_neg (Bool.eq_false_iff.1 c7)).trans ((if_neg (Bool.eq_false_iff.1 c8)).trans (if_pos c9))))) : shortB s = _)).symm
 iterate 9 first|refine S.pickAnd tOk zOk rfl rfl tg ?_|refine Yp rfl ?_|refine Yg rfl rfl tg ?_|apply Y1
 apply Yn
 refine W.cond rfl (fun c10=>?_) fun c10=>?_
 ·skip
  apply Yr
  refine Yp rfl ?_
  refine S.call rfl rfl rfl rfl rfl (pc_outref2_NextOf (parseB s).1 (by omega) 0) ?_
  iterate 9 first|refine Yp rfl ?_|apply Yw|refine S.store tOk rfl rfl rfl rfl rfl rfl rfl rfl ?_|apply Y3
  refine S.call rfl rfl rfl rfl rfl (pc_outref2_upTo (parseB s).1 (nextB (parseB s).1 0).1) ?_
  iterate 5 first|refine Yp rfl ?_|apply Yt|refine S.store tOk rfl rfl rfl rfl rfl rfl rfl rfl ?_|apply Yn
  exact Yz rfl rfl rfl (congrArg (fun x : Sp × Int => V.tup [spV x.1, .one (.d (.int .i64 x.2))]) (((if_neg (Bool.eq_false_iff.1 c1)).trans ((if_neg (Bool.eq_false_iff.1 c2)).trans ((if_neg (Bool.eq_false_iff.1 c7)).trans ((if_neg (Bool.eq_false_iff.1 c8)).trans ((if_neg (Bool.eq_false_iff.1 c9)).trans (if_pos c10)))))) : shortB s = _)).symm
 apply Yr
 refine Yp rfl ?_
 refine S.call rfl rfl rfl rfl rfl (pc_outref2_NextOf (parseB s).1 (by omega) 1) ?_
 iterate 9 first|refine Yp rfl ?_|apply Yw|refine S.store tOk rfl rfl rfl rfl rfl rfl rfl rfl ?_|apply Y3
 refine S.call rfl rfl rfl rfl rfl (pc_outref2_upTo (parseB s).1 (nextB (parseB s).1 1).1) ?_
 iterate 5 first|refine Yp rfl ?_|apply Yt|refine S.store tOk rfl rfl rfl rfl rfl rfl rfl rfl ?_|apply Yn
 exact Yz rfl rfl rfl (congrArg (fun x : Sp × Int => V.tup [spV x.1, .one (.d (.int .i64 x.2))]) (((if_neg (Bool.eq_false_iff.1 c1)).trans ((if_neg (Bool.eq_false_iff.1 c2)).trans ((if_neg (Bool.eq_false_iff.1 c7)).trans ((if_neg (Bool.eq_false_iff.1 c8)).trans ((if_neg (Bool.eq_false_iff.1 c9)).trans (if_neg (Bool.eq_false_iff.1 c10))))))) : shortB s = _)).symm
theorem pc_outref2_ReadRange (s : List UInt8) (hs : s.length < 4294967000) :
  PureCall Tryz.prog J 229 [.one (.d (.str s))] (.tup [rgV (rangeR s).1, .one (.d (.int .i64 (rangeR s).2))]) := by
 have hmany := split_le s [44, 32]
 have hm := fun i => @split_at s [44, 32] i
 refine PureCall.of_body tOk (fn := Tryz.f229) Tryz.func229 (by kernel_rfl) rfl (Nat.le_of_ble_eq_true rfl) (fun E => ?_)
 iterate 10 first|refine Yp rfl ?_|refine S.alloc tOk rfl rfl rfl rfl ?_|apply Y1|apply Yn|apply Ys
 refine W.cond rfl (fun c1=>?_) fun c1=>?_
 ·skip
  iterate 7 first|refine Yp rfl ?_|apply Yu|apply Yt|refine S.store tOk rfl rfl rfl rfl rfl rfl rfl rfl ?_|apply Y1|apply Yn
  exact ⟨_, rfl, rfl, le_rgNil (rR_large c1)⟩
 iterate 7 first|refine Yp rfl ?_|apply Yk|apply Y1|apply Yn|apply Ys
 refine W.cond rfl (fun c2=>?_) fun c2=>?_
 ·skip
  iterate 7 first|refine Yp rfl ?_|apply Yu|apply Yt|refine S.store tOk rfl rfl rfl rfl rfl rfl rfl rfl ?_|apply Y1|apply Yn
  exact ⟨_, rfl, rfl, le_rgNil (rR_none c1 c2)⟩
 iterate 8 first|refine Yp rfl ?_|refine S.alloc tOk rfl rfl rfl rfl ?_|apply Yk|apply Y3|apply Ys|apply Yn
 refine W.newRowB 1 0 10 178 rfl rfl rfl ?_
 apply Yr
 refine Yp rfl ?_
 refine S.call rfl rfl rfl rfl rfl (pc_Split s [44, 32] (by omega) (by decide)) ?_
 iterate 2 refine Yp rfl ?_
 apply Yn
 apply Yb
 refine W.loop (fun k st => ∃ i : Nat, ∃ v : Nat, ∃ al : Bool, i ≤ (Lib.split s [44, 32]).length ∧ ((Lib.split s [44, 32]).take i).any (fun t => tokE t == 8) = false ∧ k = (Lib.split s [44, 32]).length - i ∧ ∃ t b2 r2 m2, st = ⟨t, [[.d .nilsl], [.row 0 v 0 ((((Lib.split s [44, 32]).take i).map tokS).map spD).length]] ++ b2, [some ⟨al, v, 10, 178, ((((Lib.split s [44, 32]).take i).map tokS).map spD)⟩] ++ r2, [] ++ m2⟩ ∧ holdsL t [(2, .one (.ptr 0 0)), (4, .one (.ptr 1 0)), (5, .one (.d (.int .i64 (firstNe (((Lib.split s [44, 32]).take i).map tokE))))), (25, .one (.d (.vec 1 ((Lib.split s [44, 32]).map fun x => [.str x])))), (26, .one (.d (.int .i64 (((Lib.split s [44, 32]).map fun x => ([.str x] : List D)).length : Int)))), (27, .one (.d (.int .i64 (i : Int))))]) ((Lib.split s [44, 32]).length) ⟨0, 0, false, Nat.zero_le _, by simp, rfl, _, _, _, _, rfl, rfl, rfl, rfl, rfl, rfl, rfl, trivial⟩ ?_
 rintro k0 _ ⟨i, v, al, f0_0, f0_1, rfl, t0, bb0, rr0, mm0, rfl, hh0⟩
 refine W.keepR _ _ _ _ _ _ _ hh0 rfl ?_
 apply Y1
 refine Yp rfl ?_
 apply Yn
 apply Ys
 refine W.cond rfl (fun c3=>?_) fun c3=>?_
 ·skip
  have hi := row_lt c3
  have hti := hm i
  have hp := split_pos ((Lib.split s [44, 32]).getD i []) [32]
  have hml := split_le ((Lib.split s [44, 32]).getD i []) [32]
  have hfw : ((Lib.split ((Lib.split s [44, 32]).getD i []) [32]).getD 0 []).length ≤ ((Lib.split s [44, 32]).getD i []).length := split_at
  have hlw : ((Lib.split ((Lib.split s [44, 32]).getD i []) [32]).getD ((Lib.split ((Lib.split s [44, 32]).getD i []) [32]).length - 1) []).length ≤ ((Lib.split s [44, 32]).getD i []).length := split_at
  have ht1 := trim_le ((Lib.split ((Lib.split s [44, 32]).getD i []) [32]).getD 0 []) [62, 61]
  have ht2 := trim_le ((Lib.split ((Lib.split s [44, 32]).getD i []) [32]).getD ((Lib.split ((Lib.split s [44, 32]).getD i []) [32]).length - 1) []) [60]
  apply Yk
  apply Yn
  apply Ys
  apply Yb
  apply Y1
  refine YE rfl (row_ok hi) (row_at [] hi) rfl ?_
  iterate 4 first|refine Yp rfl ?_|apply Y3
  refine S.call rfl rfl rfl rfl rfl (pc_Split ((Lib.split s [44, 32]).getD i []) [32] (by omega) (by decide)) ?_
  iterate 3 first|refine Yp rfl ?_|apply Y3
  refine YE rfl (row_ok (i := 0) hp) (row_at (i := 0) [] hp) rfl ?_
  refine Yp rfl ?_
  refine S.call rfl rfl rfl rfl rfl (pc_CutPrefix ((Lib.split ((Lib.split s [44, 32]).getD i []) [32]).getD 0 []) [62, 61]) ?_
  iterate 10 first|refine Yp rfl ?_|apply Y3
  refine YE rfl (last_ok hp (by omega)) (row_last [] hp (by omega)) rfl ?_
  refine Yp rfl ?_
  refine S.call rfl rfl rfl rfl rfl (pc_CutPrefix ((Lib.split ((Lib.split s [44, 32]).getD i []) [32]).getD ((Lib.split ((Lib.split s [44, 32]).getD i []) [32]).length - 1) []) [60]) ?_
  iterate 21 first|refine S.pickAnd tOk zOk rfl rfl tg ?_|refine Yp rfl ?_|refine Yg rfl rfl tg ?_|apply Yb|refine S.alloc tOk rfl rfl rfl rfl ?_|apply Y3|apply Y1|apply Yn|apply Ys
  refine W.cond rfl (fun c4=>?_) fun c4=>?_
  ·skip
   have htok := tok_1 (t := ((Lib.split s [44, 32]).getD i [])) (by have h := c4; rw [List.length_map] at h; exact h)
   iterate 5 first|refine Yp rfl ?_|refine S.store tOk rfl rfl rfl rfl rfl rfl rfl rfl ?_|apply Y4|apply Y1
   refine S.call rfl rfl rfl rfl rfl (pc_outref2_ReadVersion (Lib.trimPrefix ((Lib.split ((Lib.split s [44, 32]).getD i []) [32]).getD 0 []) [62, 61]) (by omega)) ?_
   iterate 13 first|refine Yp rfl ?_|apply Yw|refine S.store tOk rfl rfl rfl rfl rfl rfl rfl rfl ?_|apply Y1|apply Yn|apply Ys
   refine W.cond rfl (fun c5=>?_) fun c5=>?_
   ·skip
    iterate 13 first|apply Yu|refine Yp rfl ?_|apply Yv|apply Yt|refine S.store tOk rfl rfl rfl rfl rfl rfl rfl rfl ?_|apply Y1|apply Yn
    exact ⟨_, rfl, rfl, le_rgNil ((rR_bad c1 c2 hi (by rw [tokE, htok]; exact (eq_of_beq c5))).trans (congrArg (Prod.mk []) (eq_of_beq c5).symm))⟩
   have hx : (⟨true, false, (parseB (Lib.trimPrefix ((Lib.split ((Lib.split s [44, 32]).getD i []) [32]).getD 0 []) [62, 61])).1, Ver.z⟩ : Sp) = tokS ((Lib.split s [44, 32]).getD i []) := by rw [tokS, htok]
   apply Yk
   apply Y3
   iterate 2 refine Yp rfl ?_
   refine S.slice tOk rfl rfl ?_
   refine S.call rfl rfl rfl rfl rfl (pc_first2 (firstNe (((Lib.split s [44, 32]).take i).map tokE)) (parseB (Lib.trimPrefix ((Lib.split ((Lib.split s [44, 32]).getD i []) [32]).getD 0 []) [62, 61])).2) ?_
   iterate 5 first|refine Yp rfl ?_|apply Y4
   refine S.slice tOk rfl rfl ?_
   refine S.append tOk rfl rfl rfl rfl rfl rfl rfl rfl rfl rfl rfl rfl (by show _ + 1 ≤ _; simp; omega) rfl (take_snoc3 (d := []) hx hi) rfl ?_
   iterate 6 first|refine Yp rfl ?_|apply Yw|refine S.store tOk rfl rfl rfl rfl rfl rfl rfl rfl ?_|apply Y4
   refine loop_n ((Lib.split s [44, 32]).length - (i + 1)) (by omega) ⟨i + 1, _, _, hi, any_take (d := []) hi f0_1 (by rw [tokE, htok]; exact c5), rfl, _, _, _, _, rfl, rfl, rfl, congrArg (fun x => V.one (C.d (D.int .i64 x))) (show firstB (firstNe (((Lib.split s [44, 32]).take i).map tokE)) (parseB (Lib.trimPrefix ((Lib.split ((Lib.split s [44, 32]).getD i []) [32]).getD 0 []) [62, 61])).2 = firstNe (((Lib.split s [44, 32]).take (i + 1)).map tokE) from by rw [← tok_acc hi, tokE, htok]), rfl, rfl, inc_i64 (by omega), trivial⟩
  iterate 9 first|refine S.pickAnd tOk zOk rfl rfl tg ?_|refine Yp rfl ?_|refine Yg rfl rfl tg ?_|apply Y1|apply Yn
  refine W.cond rfl (fun c6=>?_) fun c6=>?_
  ·skip
   have htok := tok_2 (t := ((Lib.split s [44, 32]).getD i [])) (by have h := c4; rw [List.length_map] at h; exact h) (by have h := c6; rw [List.length_map] at h; exact h)
   iterate 5 first|refine Yp rfl ?_|refine S.store tOk rfl rfl rfl rfl rfl rfl rfl rfl ?_|apply Y4|apply Y1
   refine S.call rfl rfl rfl rfl rfl (pc_outref2_ReadVersion (Lib.trimPrefix ((Lib.split ((Lib.split s [44, 32]).getD i []) [32]).getD ((Lib.split ((Lib.split s [44, 32]).getD i []) [32]).length - 1) []) [60]) (by omega)) ?_
   iterate 13 first|refine Yp rfl ?_|apply Yw|refine S.store tOk rfl rfl rfl rfl rfl rfl rfl rfl ?_|apply Y1|apply Yn|apply Ys
   refine W.cond rfl (fun c7=>?_) fun c7=>?_
   ·skip
    iterate 13 first|apply Yu|refine Yp rfl ?_|apply Yv|apply Yt|refine S.store tOk rfl rfl rfl rfl rfl rfl rfl rfl ?_|apply Y1|apply Yn
    exact ⟨_, rfl, rfl, le_rgNil ((rR_bad c1 c2 hi (by rw [tokE, htok]; exact (eq_of_beq c7))).trans (congrArg (Prod.mk []) (eq_of_beq c7).symm))⟩
   have hx : (⟨false, true, Ver.z, (parseB (Lib.trimPrefix ((Lib.split ((Lib.split s [44, 32]).getD i []) [32]).getD ((Lib.split ((Lib.split s [44, 32]).getD i []) [32]).length - 1) []) [60])).1⟩ : Sp) = tokS ((Lib.split s [44, 32]).getD i []) := by rw [tokS, htok]
   apply Yk
   apply Y3
   iterate 2 refine Yp rfl ?_
   refine S.slice tOk rfl rfl ?_
   refine S.call rfl rfl rfl rfl rfl (pc_first2 (firstNe (((Lib.split s [44, 32]).take i).map tokE)) (parseB (Lib.trimPrefix ((Lib.split ((Lib.split s [44, 32]).getD i []) [32]).getD ((Lib.split ((Lib.split s [44, 32]).getD i []) [32]).length - 1) []) [60])).2) ?_
   iterate 5 first|refine Yp rfl ?_|apply Y4
   refine S.slice tOk rfl rfl ?_
   refine S.append tOk rfl rfl rfl rfl rfl rfl rfl rfl rfl rfl rfl rfl (by show _ + 1 ≤ _; simp; omega) rfl (take_snoc3 (d := []) hx hi) rfl ?_
   iterate 6 first|refine Yp rfl ?_|apply Yw|refine S.store tOk rfl rfl rfl rfl rfl rfl rfl rfl ?_|apply Y4
   refine loop_n ((Lib.split s [44, 32]).length - (i + 1)) (by omega) ⟨i + 1, _, _, hi, any_take (d := []) hi f0_1 (by rw [tokE, htok]; exact c7), rfl, _, _, _, _, rfl, rfl, rfl, congrArg (fun x => V.one (C.d (D.int .i64 x))) (show firstB (firstNe (((Lib.split s [44, 32]).take i).map tokE)) (parseB (Lib.trimPrefix ((Lib.split ((Lib.split s [44, 32]).getD i []) [32]).getD ((Lib.split ((Lib.split s [44, 32]).getD i []) [32]).length - 1) []) [60])).2 = firstNe (((Lib.split s [44, 32]).take (i + 1)).map tokE) from by rw [← tok_acc hi, tokE, htok]), rfl, rfl, inc_i64 (by omega), trivial⟩
  apply Y1
  iterate 4 refine Yp rfl ?_
  apply Yn
  refine W.cond rfl (fun c8=>?_) fun c8=>?_
  ·skip
   have htok := tok_3 (t := ((Lib.split s [44, 32]).getD i [])) (by have h := c4; rw [List.length_map] at h; exact h) (by have h := c6; rw [List.length_map] at h; exact h) (by have h := c8; rw [List.length_map] at h; exact h)
   apply Yr
   refine Yp rfl ?_
   refine YE rfl (row_ok (i := 0) hp) (row_at (i := 0) [] hp) rfl ?_
   refine Yp rfl ?_
   refine S.call rfl rfl rfl rfl rfl (pc_outref2_shortSpan ((Lib.split ((Lib.split s [44, 32]).getD i []) [32]).getD 0 []) (by omega)) ?_
   iterate 12 first|refine Yp rfl ?_|apply Yw|refine S.store tOk rfl rfl rfl rfl rfl rfl rfl rfl ?_|apply Y1|apply Yn|apply Ys
   refine W.cond rfl (fun c9=>?_) fun c9=>?_
   ·skip
    iterate 13 first|apply Yu|refine Yp rfl ?_|apply Yv|apply Yt|refine S.store tOk rfl rfl rfl rfl rfl rfl rfl rfl ?_|apply Y1|apply Yn
    exact ⟨_, rfl, rfl, le_rgNil ((rR_bad c1 c2 hi (by rw [tokE, htok]; exact (eq_of_beq c9))).trans (congrArg (Prod.mk []) (eq_of_beq c9).symm))⟩
   have hx : ((shortB ((Lib.split ((Lib.split s [44, 32]).getD i []) [32]).getD 0 [])).1 : Sp) = tokS ((Lib.split s [44, 32]).getD i []) := by rw [tokS, htok]
   apply Yk
   apply Y3
   iterate 2 refine Yp rfl ?_
   refine S.slice tOk rfl rfl ?_
   refine S.call rfl rfl rfl rfl rfl (pc_first2 (firstNe (((Lib.split s [44, 32]).take i).map tokE)) (shortB ((Lib.split ((Lib.split s [44, 32]).getD i []) [32]).getD 0 [])).2) ?_
   iterate 5 first|refine Yp rfl ?_|apply Y4
   refine S.slice tOk rfl rfl ?_
   refine S.append tOk rfl rfl rfl rfl rfl rfl rfl rfl rfl rfl rfl rfl (by show _ + 1 ≤ _; simp; omega) rfl (take_snoc3 (d := []) hx hi) rfl ?_
   iterate 6 first|refine Yp rfl ?_|apply Yw|refine S.store tOk rfl rfl rfl rfl rfl rfl rfl rfl ?_|apply Y4
   refine loop_n ((Lib.split s [44, 32]).length - (i + 1)) (by omega) ⟨i + 1, _, _, hi, any_take (d := []) hi f0_1 (by rw [tokE, htok]; exact c9), rfl, _, _, _, _, rfl, rfl, rfl, congrArg (fun x => V.one (C.d (D.int .i64 x))) (show firstB (firstNe (((Lib.split s [44, 32]).take i).map tokE)) (shortB ((Lib.split ((Lib.split s [44, 32]).getD i []) [32]).getD 0 [])).2 = firstNe (((Lib.split s [44, 32]).take (i + 1)).map tokE) from by rw [← tok_acc hi, tokE, htok]), rfl, rfl, inc_i64 (by omega), trivial⟩
  iterate 12 first|refine S.pickAnd tOk zOk rfl rfl tg ?_|refine Yp rfl ?_|refine Yg rfl rfl tg ?_|apply Y1|apply Yn
  refine W.cond rfl (fun c10=>?_) fun c10=>?_
  ·skip
   have htok := tok_4 (t := ((Lib.split s [44, 32]).getD i [])) (by have h := c4; rw [List.length_map] at h; exact h) (by have h := c6; rw [List.length_map] at h; exact h) (by have h := c8; rw [List.length_map] at h; exact h) (by have h := c10; rw [List.length_map] at h; exact h)
   iterate 9 first|refine Yp rfl ?_|refine S.store tOk rfl rfl rfl rfl rfl rfl rfl rfl ?_|apply Y3|apply Y1
   refine S.call rfl rfl rfl rfl rfl (pc_outref2_ReadVersion (Lib.trimPrefix ((Lib.split ((Lib.split s [44, 32]).getD i []) [32]).getD 0 []) [62, 61]) (by omega)) ?_
   iterate 8 first|refine Yp rfl ?_|refine S.store tOk rfl rfl rfl rfl rfl rfl rfl rfl ?_|apply Y3
   refine S.call rfl rfl rfl rfl rfl (pc_outref2_ReadVersion (Lib.trimPrefix ((Lib.split ((Lib.split s [44, 32]).getD i []) [32]).getD ((Lib.split ((Lib.split s [44, 32]).getD i []) [32]).length - 1) []) [60]) (by omega)) ?_
   iterate 14 first|refine S.pickOr tOk zOk rfl rfl tg ?_|refine Yp rfl ?_|refine Yg rfl rfl tg ?_|refine S.store tOk rfl rfl rfl rfl rfl rfl rfl rfl ?_|apply Y3|apply Yn
   refine W.cond rfl (fun c11=>?_) fun c11=>?_
   ·skip
    iterate 9 first|refine Yp rfl ?_|apply Yw|apply Y1|apply Yn|apply Ys|apply Yr
    refine W.condT rfl rfl ?_
    iterate 13 first|apply Yu|refine Yp rfl ?_|apply Yv|apply Yt|refine S.store tOk rfl rfl rfl rfl rfl rfl rfl rfl ?_|apply Y1|apply Yn
    exact ⟨_, rfl, rfl, le_rgNil (rR_bad c1 c2 hi (by rw [tokE, htok]; exact if_pos c11))⟩
   apply Yr
   iterate 2 refine Yp rfl ?_
   refine S.slice tOk rfl rfl ?_
   refine S.call rfl rfl rfl rfl rfl (pc_first2 (parseB (Lib.trimPrefix ((Lib.split ((Lib.split s [44, 32]).getD i []) [32]).getD 0 []) [62, 61])).2 (parseB (Lib.trimPrefix ((Lib.split ((Lib.split s [44, 32]).getD i []) [32]).getD ((Lib.split ((Lib.split s [44, 32]).getD i []) [32]).length - 1) []) [60])).2) ?_
   iterate 8 first|refine Yp rfl ?_|apply Yw|apply Y1|apply Yn|apply Ys
   refine W.cond rfl (fun c13=>?_) fun c13=>?_
   ·skip
    iterate 13 first|apply Yu|refine Yp rfl ?_|apply Yv|apply Yt|refine S.store tOk rfl rfl rfl rfl rfl rfl rfl rfl ?_|apply Y1|apply Yn
    exact ⟨_, rfl, rfl, le_rgNil ((rR_bad c1 c2 hi (by rw [tokE, htok]; exact (if_neg (Bool.eq_false_iff.1 c11)).trans (eq_of_beq c13))).trans (congrArg (Prod.mk []) (eq_of_beq c13).symm))⟩
   have hx : (⟨true, true, (parseB (Lib.trimPrefix ((Lib.split ((Lib.split s [44, 32]).getD i []) [32]).getD 0 []) [62, 61])).1, (parseB (Lib.trimPrefix ((Lib.split ((Lib.split s [44, 32]).getD i []) [32]).getD ((Lib.split ((Lib.split s [44, 32]).getD i []) [32]).length - 1) []) [60])).1⟩ : Sp) = tokS ((Lib.split s [44, 32]).getD i []) := by rw [tokS, htok]
   apply Yk
   apply Y3
   iterate 2 refine Yp rfl ?_
   refine S.slice tOk rfl rfl ?_
   refine S.call rfl rfl rfl rfl rfl (pc_first2 (firstNe (((Lib.split s [44, 32]).take i).map tokE)) (firstB (parseB (Lib.trimPrefix ((Lib.split ((Lib.split s [44, 32]).getD i []) [32]).getD 0 []) [62, 61])).2 (parseB (Lib.trimPrefix ((Lib.split ((Lib.split s [44, 32]).getD i []) [32]).getD ((Lib.split ((Lib.split s [44, 32]).getD i []) [32]).length - 1) []) [60])).2)) ?_
   iterate 5 first|refine Yp rfl ?_|apply Y4
   refine S.slice tOk rfl rfl ?_
   refine S.append tOk rfl rfl rfl rfl rfl rfl rfl rfl rfl rfl rfl rfl (by show _ + 1 ≤ _; simp; omega) rfl (take_snoc3 (d := []) hx hi) rfl ?_
   iterate 6 first|refine Yp rfl ?_|apply Yw|refine S.store tOk rfl rfl rfl rfl rfl rfl rfl rfl ?_|apply Y4
   refine loop_n ((Lib.split s [44, 32]).length - (i + 1)) (by omega) ⟨i + 1, _, _, hi, any_take (d := []) hi f0_1 (by rw [tokE, htok]; simp only; rw [if_neg (Bool.eq_false_iff.1 c11)]; exact c13), rfl, _, _, _, _, rfl, rfl, rfl, congrArg (fun x => V.one (C.d (D.int .i64 x))) (show firstB (firstNe (((Lib.split s [44, 32]).take i).map tokE)) (firstB (parseB (Lib.trimPrefix ((Lib.split ((Lib.split s [44, 32]).getD i []) [32]).getD 0 []) [62, 61])).2 (parseB (Lib.trimPrefix ((Lib.split ((Lib.split s [44, 32]).getD i []) [32]).getD ((Lib.split ((Lib.split s [44, 32]).getD i []) [32]).length - 1) []) [60])).2) = firstNe (((Lib.split s [44, 32]).take (i + 1)).map tokE) from by rw [← tok_acc hi, tokE, htok]; simp only; rw [if_neg (Bool.eq_false_iff.1 c11)]), rfl, rfl, inc_i64 (by omega), trivial⟩
  have htok := tok_5 (t := ((Lib.split s [44, 32]).getD i [])) (by have h := c4; rw [List.length_map] at h; exact h) (by have h := c6; rw [List.length_map] at h; exact h) (by have h := c8; rw [List.length_map] at h; exact h) (by have h := c10; rw [List.length_map] at h; exact h)
  iterate 9 first|refine Yp rfl ?_|apply Yw|apply Y1|apply Yn|apply Ys|apply Yr
  refine W.condT rfl rfl ?_
  iterate 13 first|apply Yu|refine Yp rfl ?_|apply Yv|apply Yt|refine S.store tOk rfl rfl rfl rfl rfl rfl rfl rfl ?_|apply Y1|apply Yn
  exact ⟨_, rfl, rfl, le_rgNil (rR_bad c1 c2 hi (by rw [tokE, htok]))⟩
 have hi := row_ge c3
 iterate 7 first|apply Ye|apply Yx|apply Yq|apply Ys|apply Yn
 refine W.freezeB (ri := 0) (q := ⟨_, _, _, _, _⟩) 1 0 rfl rfl rfl rfl ?_
 have hall := any_end hi f0_1
 have hts2 : (Lib.split s [44, 32]).take i = (Lib.split s [44, 32]) := List.take_of_length_le hi
 rw [hts2]
 have hsp : ∀ u ∈ (Lib.split s [44, 32]).map tokS, SpLen u := fun u hu => by
  obtain ⟨x, hx, rfl⟩ := List.mem_map.1 hu
  have h1 := tok_e x
  have h2 : x.length ≤ s.length := split_mem hx
  unfold SpLen; omega
 apply Yr
 iterate 2 refine Yp rfl ?_
 refine S.call rfl rfl rfl rfl rfl (pc_outref2_RangeError ((Lib.split s [44, 32]).map tokS) (by have := c1; simp at this ⊢; omega) hsp) ?_
 refine S.slice tOk rfl rfl ?_
 refine S.call rfl rfl rfl rfl rfl (pc_first2 (firstNe ((Lib.split s [44, 32]).map tokE)) (rangeE ((Lib.split s [44, 32]).map tokS))) ?_
 iterate 5 first|refine Yp rfl ?_|apply Y3|apply Yn
 refine W.cond rfl (fun c15=>?_) fun c15=>?_
 ·skip
  iterate 8 first|refine Yp rfl ?_|apply Yu|apply Yt|refine S.store tOk rfl rfl rfl rfl rfl rfl rfl rfl ?_|apply Y1|apply Yn
  exact ⟨_, rfl, rfl, le_rgNil (rR_err c1 c2 hall c15)⟩
 iterate 7 first|refine Yp rfl ?_|apply Yt|refine S.store tOk rfl rfl rfl rfl rfl rfl rfl rfl ?_|apply Yk|apply Y3|apply Yn
 exact ⟨_, rfl, rfl, le_rg (rR_ok c1 c2 hall c15)⟩
end
section
open Go
theorem first_of {c : UInt8} {s : List UInt8} (h : c ∈ s) : ∃ x y, s = x ++ c :: y ∧ c ∉ x := by
  induction s with
  | nil => cases h
  | cons a s ih =>
    by_cases ha : a = c
    · subst ha; exact ⟨[], s, rfl, by simp⟩
    · have h' : c ∈ s := by rcases List.mem_cons.1 h with h | h; exact absurd h.symm ha; exact h
      obtain ⟨x, y, rfl, hx⟩ := ih h'
      exact ⟨a :: x, y, rfl, by simp [hx, Ne.symm ha]⟩
theorem contains_iff {c : UInt8} {s : List UInt8} : Lib.contains s [c] = decide (c ∈ s) := by
 unfold Lib.contains
 by_cases h : c ∈ s
 ·skip
  obtain ⟨x, y, rfl, hx⟩ := first_of h
  rw [index_at hx]; simp
 ·skip
  rw [index_none h]; simp [h]
theorem rowB_iff {s : List UInt8} : rowB s = decide ((32 : UInt8) ∉ s) := by rw [rowB, contains_iff]; simp
theorem parse_check {s : List UInt8} {v : Ver} (h : parseB s = (v, 0)) : v.check = 0 := by
 unfold parseB parseW at h
 split at h
 ·skip
  simp at h
 ·skip
  split at h
  ·skip
   unfold threeB at h
   split at h
   ·skip
    simp at h
   ·skip
    split at h
    ·skip
     simp at h
    ·skip
     split at h
     ·skip
      simp at h
     ·skip
      split at h
      ·skip
       rename_i hc
       simp only [Prod.mk.injEq] at h
       rw [h.2] at hc
       simp at hc
      ·skip
       rename_i hc
       simp only [Prod.mk.injEq, and_true] at h
       rw [← h]
       simpa [Ver.check] using hc
  ·skip
   simp at h
theorem check_codes (a b c : Int) (e : List UInt8) : checkB a b c e = 0 ∨ checkB a b c e = 2 ∨ checkB a b c e = 3 := by
 unfold checkB
 split
 ·skip
  simp
 ·skip
  split <;> simp
theorem nextOk_codes (x y z : Int) : (nextOk x y z).2 ≠ 8 := by
 unfold nextOk
 split <;> simp
theorem next_codes (v : Ver) (p : Int) : (nextB v p).2 ≠ 8 := by
 unfold nextB
 split
 ·skip
  have := check_codes v.a v.b v.c v.e
  simp only [Ver.check]; omega
 ·skip
  split
  ·skip
   exact nextOk_codes _ _ _
  ·skip
   split
   ·skip
    exact nextOk_codes _ _ _
   ·skip
    split
    ·skip
     exact nextOk_codes _ _ _
    ·skip
     split
     ·skip
      simp
     ·skip
      exact nextOk_codes _ _ _
theorem behind_codes (v : Ver) (g : Int) : (behindB v g).2 ≠ 8 := by
 unfold behindB
 split
 ·skip
  have := check_codes v.a v.b v.c (v.e ++ [46, 48])
  simp only; omega
 ·skip
  split
  ·skip
   exact next_codes _ _
  ·skip
   split <;> exact next_codes _ _
theorem check_a {v : Ver} (h : v.check = 0) : 0 ≤ v.a := by
 unfold Ver.check checkB at h
 split at h
 ·skip
  cases h
 ·skip
  rename_i h1
  simp [outsideN, outsideB] at h1
  omega
theorem behind_eq {v : Ver} (h : v.check = 0) (g : Int) : behindR' v g = behindB v g := by
  have ha := check_a h
  have e : decide (v.a > 0) = !(v.a == 0) := by
    by_cases h0 : v.a = 0
    · simp [h0]
    · have : v.a > 0 := by omega
      simp [h0, this]
  simp only [behindR', behindB, e]
theorem shortV_eq (k : Int) (w : List UInt8) (h42 : k ≠ 42) (h62 : k ≠ 62) (h60 : k ≠ 60) (h98 : k ≠ 98) : (shortV k w).2 = (spanB ⟨k, w, []⟩).2 ∧ ((shortV k w).2 = 0 → (shortV k w).1 = (spanB ⟨k, w, []⟩).1) ∧ ((shortV k w).2 = 8 ↔ (parseB w).2 = 8) := by
  rw [shortV_def]
  unfold spanB
  simp only [beq_iff_eq, h42, h62, h60, h98, if_false]
  by_cases hp : (parseB w).2 = 0
  · have hc := parse_check (s := w) (v := (parseB w).1) (by rw [← hp])
    simp only [hp, bne_self_eq_false, Bool.false_eq_true, if_false, behind_eq hc]
    refine ⟨?_, ?_, ?_⟩ <;> simp [behind_codes]
  · simp [hp]
theorem idx3 {c : UInt8} (h : Lib.indexByte [61, 94, 126] c ≥ 0) : c = 61 ∨ c = 94 ∨ c = 126 := by
 simp only [Lib.indexByte] at h
 by_cases h1 : (61 : UInt8) = c
 ·skip
  exact .inl h1.symm
 ·skip
  by_cases h2 : (94 : UInt8) = c
  ·skip
   exact .inr (.inl h2.symm)
  ·skip
   by_cases h3 : (126 : UInt8) = c
   ·skip
    exact .inr (.inr h3.symm)
   ·skip
    simp [h1, h2, h3] at h
theorem idx4 {c : UInt8} (h : c ≠ 60) : decide (Lib.indexByte [60, 61, 94, 126] c ≥ 0) = decide (Lib.indexByte [61, 94, 126] c ≥ 0) := by
 simp only [Lib.indexByte]
 by_cases h1 : (61 : UInt8) = c
 ·skip
  subst h1; decide
 ·skip
  by_cases h2 : (94 : UInt8) = c
  ·skip
   subst h2; decide
  ·skip
   by_cases h3 : (126 : UInt8) = c
   ·skip
    subst h3; decide
   ·skip
    simp [h1, h2, h3, Ne.symm h]
theorem byte_back (c : UInt8) : (bI c).toNat.toUInt8 = c := by simp [bI]
theorem pre2 {x : List UInt8} (h : Lib.hasPrefix x [62, 61] = true) : ∃ r, x = 62 :: 61 :: r := by
 unfold Lib.hasPrefix at h
 match x, h with
 | [], h => simp at h
 | [a], h => simp [List.isPrefixOf] at h
 | a :: b :: r, h =>
  simp [List.isPrefixOf] at h
  exact ⟨r, by rw [h.1, h.2]⟩
theorem pre1 {x : List UInt8} (h : Lib.hasPrefix x [60] = true) : ∃ r, x = 60 :: r := by
 unfold Lib.hasPrefix at h
 match x, h with
 | [], h => simp at h
 | a :: r, h =>
  simp [List.isPrefixOf] at h
  exact ⟨r, by rw [h]⟩
theorem trim2 (r : List UInt8) : Lib.trimPrefix (62 :: 61 :: r) [62, 61] = r := by simp [Lib.trimPrefix, Lib.hasPrefix, List.isPrefixOf]
theorem trim1 (r : List UInt8) : Lib.trimPrefix (60 :: r) [60] = r := by simp [Lib.trimPrefix, Lib.hasPrefix, List.isPrefixOf]
theorem has2 (r : List UInt8) : Lib.hasPrefix (62 :: 61 :: r) [62, 61] = true := by simp [Lib.hasPrefix, List.isPrefixOf]
theorem has1 (r : List UInt8) : Lib.hasPrefix (60 :: r) [60] = true := by simp [Lib.hasPrefix, List.isPrefixOf]
def Same (t : List UInt8) : Prop := badB t = (tokE t == 8) ∧ (badB t = false → (spanB (itemB t).1).2 = tokE t ∧ (tokE t = 0 → (spanB (itemB t).1).1 = tokS t))
theorem same_from {r : List UInt8} (h : (32 : UInt8) ∉ r) : Same (62 :: 61 :: r) := by
 have hw : wordsR (62 :: 61 :: r) = [62 :: 61 :: r] := split_none (by simp [h])
 have hi : itemB (62 :: 61 :: r) = (⟨62, r, []⟩, true) := by
  unfold itemB
  rw [if_neg (by simp), if_pos (has2 r), trim2, cut_none h, if_neg (by simp), rowB_iff]
  simp [h]
 have ht : tokR (62 :: 61 :: r) = (⟨true, false, (parseB r).1, Ver.z⟩, (parseB r).2) := by
  rw [tok_1 (by rw [hw]; simp [has2])]
  rw [hw]; simp [trim2]
 unfold Same badB tokE tokS
 rw [hi, ht]
 refine ⟨by simp [wrongB], fun _ => ?_⟩
 unfold spanB
 by_cases hp : (parseB r).2 = 0 <;> simp [hp]
theorem same_to {r : List UInt8} (h : (32 : UInt8) ∉ r) : Same (60 :: r) := by
 have hw : wordsR (60 :: r) = [60 :: r] := split_none (by simp [h])
 have hi : itemB (60 :: r) = (⟨60, r, []⟩, true) := by
  unfold itemB
  rw [if_neg (by simp), if_neg (by simp [Lib.hasPrefix, List.isPrefixOf]), if_pos (by simp [byte_back]; decide), rowB_iff]
  simp [h, bI]
 have ht : tokR (60 :: r) = (⟨false, true, Ver.z, (parseB r).1⟩, (parseB r).2) := by
  rw [tok_2 (by rw [hw]; simp [Lib.hasPrefix, List.isPrefixOf]) (by rw [hw]; simp [has1])]
  rw [hw]; simp [trim1]
 unfold Same badB tokE tokS
 rw [hi, ht]
 refine ⟨by simp [wrongB], fun _ => ?_⟩
 unfold spanB
 by_cases hp : (parseB r).2 = 0 <;> simp [hp]
theorem same_short {t : List UInt8} (h : (32 : UInt8) ∉ t) (h1 : Lib.hasPrefix t [62, 61] = false) (h2 : Lib.hasPrefix t [60] = false) : Same t := by
  have hw : wordsR t = [t] := split_none h
  have ht : tokR t = shortB t := by
    rw [tok_3 (by rw [hw]; simp [h1]) (by rw [hw]; simp [h2]) (by rw [hw]; simp)]
    rw [hw]; simp
  by_cases hs : t = [42]
  · subst hs
    have hi : itemB [42] = (⟨42, [], []⟩, true) := rfl
    have hq : shortB [42] = (Sp.z, 0) := rfl
    unfold Same badB tokE tokS
    rw [hi, ht, hq]
    exact ⟨by simp, fun _ => ⟨rfl, fun _ => rfl⟩⟩
  · have key : ∀ (k : Int) (w : List UInt8), itemB t = (⟨k, w, []⟩, true) → shortB t = shortV k w → k ≠ 42 → k ≠ 62 → k ≠ 60 → k ≠ 98 → Same t := fun k w hi hq k1 k2 k3 k4 => by
      obtain ⟨q1, q2, q3⟩ := shortV_eq k w k1 k2 k3 k4
      unfold Same badB tokE tokS
      rw [hi, ht, hq]
      refine ⟨?_, fun _ => ⟨q1.symm, fun h0 => (q2 h0).symm⟩⟩
      have e : ((shortV k w).2 == 8) = ((parseB w).2 == 8) := by
        rw [Bool.eq_iff_iff]; simpa using q3
      have b1 : (k == 42) = false := by simpa using k1
      have b4 : (k == 98) = false := by simpa using k4
      simp only [wrongB, e, b1, b4]; simp
    by_cases hc : (!(t == []) && decide (Lib.indexByte [61, 94, 126] (bI (t.getD 0 0)).toNat.toUInt8 ≥ 0)) = true
    · obtain ⟨a, r, rfl⟩ : ∃ a r, t = a :: r := by
        cases t with
        | nil => simp at hc
        | cons a r => exact ⟨a, r, rfl⟩
      have hc' := hc
      simp only [byte_back] at hc'
      simp at hc'
      have h60 : a ≠ 60 := fun e => by subst e; simp [has1] at h2
      refine key (bI a) r ?_ ?_ ?_ ?_ ?_ ?_
      · unfold itemB
        rw [if_neg (by simpa using hs), if_neg (by simp [h1]), if_pos, rowB_iff]
        · simp at h; simp [h]
        · simp only [byte_back]
          have := idx4 h60
          simp at this ⊢
          rw [this]; exact hc'
      · unfold shortB
        rw [if_neg (by simpa using hs), if_pos hc]; simp
      all_goals
        rcases idx3 hc' with rfl | rfl | rfl <;> decide
    · refine key 94 t ?_ ?_ (by decide) (by decide) (by decide) (by decide)
      · unfold itemB
        rw [if_neg (by simpa using hs), if_neg (by simp [h1]), if_neg, rowB_iff]
        · simp [h]
        · intro hx
          apply hc
          cases t with
          | nil => simp at hx
          | cons a r =>
            have h60 : a ≠ 60 := fun e => by subst e; simp [has1] at h2
            have := idx4 h60
            simp only [byte_back] at hx ⊢
            simp at hx this ⊢
            rw [← this]; exact hx
      · unfold shortB
        rw [if_neg (by simpa using hs), if_neg hc]
theorem same_two {x y : List UInt8} (hx : (32 : UInt8) ∉ x) : Same (x ++ 32 :: y) := by
  have hw : wordsR (x ++ 32 :: y) = x :: Lib.split y [32] := split_cons hx
  have hlen : ((wordsR (x ++ 32 :: y)).length : Int) ≠ 1 := by
    rw [hw]; have := split_pos y [32]; simp only [List.length_cons]; omega
  have e1 : ∀ b, ((((wordsR (x ++ 32 :: y)).length : Int) == 1) && b) = false := fun b => by
    rw [show (((wordsR (x ++ 32 :: y)).length : Int) == 1) = false by simpa using hlen]; rfl
  have e0 : (((wordsR (x ++ 32 :: y)).length : Int) == 1) = false := by simpa using hlen
  have f0 : (wordsR (x ++ 32 :: y)).getD 0 [] = x := by rw [hw]; rfl
  have bad8 : ∀ (it : It), itemB (x ++ 32 :: y) = (it, false) → tokR (x ++ 32 :: y) = (Sp.z, 8) → Same (x ++ 32 :: y) := fun it hi ht => by
    unfold Same badB tokE
    rw [hi, ht]; simp
  by_cases hp : Lib.hasPrefix x [62, 61] = true
  · obtain ⟨r, rfl⟩ := pre2 hp
    have hr : (32 : UInt8) ∉ r := by simp at hx; exact hx
    have hcut : Lib.cut (r ++ 32 :: y) [32] = (r, y, true) := cut_at hr
    have hi : itemB (62 :: 61 :: r ++ 32 :: y) = (⟨98, r, Lib.trimPrefix y [60]⟩, (Lib.hasPrefix y [60] && rowB r) && rowB (Lib.trimPrefix y [60])) := by
      show itemB (62 :: 61 :: (r ++ 32 :: y)) = _
      unfold itemB
      rw [if_neg (by simp), if_pos (has2 _), trim2, hcut]
      rfl
    by_cases hy : (32 : UInt8) ∈ y
    · obtain ⟨y1, y2, rfl, hy1⟩ := first_of hy
      have hl3 : ((wordsR (62 :: 61 :: r ++ 32 :: (y1 ++ 32 :: y2))).length : Int) ≠ 2 := by
        rw [hw, split_cons hy1]; have := split_pos y2 [32]; simp only [List.length_cons]; omega
      have ht : tokR (62 :: 61 :: r ++ 32 :: (y1 ++ 32 :: y2)) = (Sp.z, 8) := by
        refine tok_5 (e1 _) (e1 _) e0 ?_
        rw [show (((wordsR (62 :: 61 :: r ++ 32 :: (y1 ++ 32 :: y2))).length : Int) == 2) = false by simpa using hl3]; rfl
      refine bad8 ⟨98, r, Lib.trimPrefix (y1 ++ 32 :: y2) [60]⟩ ?_ ht
      rw [hi]
      congr 1
      by_cases hq : Lib.hasPrefix (y1 ++ 32 :: y2) [60] = true
      · obtain ⟨q, hq'⟩ := pre1 hq
        have : (32 : UInt8) ∈ q := by
          have h3 : (32 : UInt8) ∈ y1 ++ 32 :: y2 := hy
          rw [hq'] at h3; simpa using h3
        rw [hq', trim1, rowB_iff (s := q)]; simp [this]
      · simp [hq]
    · have hws : wordsR (62 :: 61 :: r ++ 32 :: y) = [62 :: 61 :: r, y] := by rw [hw, split_none hy]
      by_cases hq : Lib.hasPrefix y [60] = true
      · obtain ⟨q, rfl⟩ := pre1 hq
        have hq32 : (32 : UInt8) ∉ q := by simp at hy; exact hy
        have ht := tok_4 (t := 62 :: 61 :: r ++ 32 :: (60 :: q)) (e1 _) (e1 _) e0 (by rw [hws]; simp [has2, has1])
        rw [hws] at ht
        simp only [List.getD_cons_zero, List.length_cons, List.length_nil, Nat.zero_add, Nat.add_sub_cancel, List.getD_cons_succ, trim2, trim1] at ht
        rw [trim1, has1] at hi
        have hi' : itemB (62 :: 61 :: r ++ 32 :: (60 :: q)) = (⟨98, r, q⟩, true) := by rw [hi, rowB_iff, rowB_iff]; simp [hr, hq32]
        unfold Same badB tokE tokS
        rw [hi', ht]
        by_cases hF : (parseB r).2 = 8
        · simp [wrongB, hF]
        · by_cases hT : (parseB q).2 = 8
          · simp [wrongB, hF, hT]
          · refine ⟨?_, fun _ => ?_⟩
            · have : firstB (parseB r).2 (parseB q).2 ≠ 8 := by unfold firstB; split <;> assumption
              have f1 : ((parseB r).2 == 8) = false := by simpa using hF
              have f2 : ((parseB q).2 == 8) = false := by simpa using hT
              have f3 : (firstB (parseB r).2 (parseB q).2 == 8) = false := by simpa using this
              simp [wrongB, f1, f2, f3]
            · unfold spanB
              by_cases hF0 : (parseB r).2 = 0
              · simp [hF0, hT, firstB]
              · simp [hF0, hF, hT, firstB]
      · have ht : tokR (62 :: 61 :: r ++ 32 :: y) = (Sp.z, 8) := tok_5 (e1 _) (e1 _) e0 (by rw [hws]; simp [hq])
        exact bad8 ⟨98, r, Lib.trimPrefix y [60]⟩ (by rw [hi]; simp [hq]) ht
  · have hp : Lib.hasPrefix x [62, 61] = false := by simpa using hp
    have ht : tokR (x ++ 32 :: y) = (Sp.z, 8) := tok_5 (e1 _) (e1 _) e0 (by rw [f0, hp]; simp)
    have hpt : Lib.hasPrefix (x ++ 32 :: y) [62, 61] = false := by
      match x, hp with
      | [], _ => simp [Lib.hasPrefix, List.isPrefixOf]
      | [a], _ => simp [Lib.hasPrefix, List.isPrefixOf]
      | a :: b :: x, hp => simpa [Lib.hasPrefix, List.isPrefixOf] using hp
    have hne : (x ++ 32 :: y == [42]) = false := by
      have : x ++ 32 :: y ≠ [42] := fun e => by
        have h3 : (32 : UInt8) ∈ x ++ 32 :: y := by simp
        rw [e] at h3; simp at h3
      simpa using this
    by_cases hc : (!(x ++ 32 :: y == []) && decide (Lib.indexByte [60, 61, 94, 126] (bI ((x ++ 32 :: y).getD 0 0)).toNat.toUInt8 ≥ 0)) = true
    · refine bad8 ⟨bI ((x ++ 32 :: y).getD 0 0), (x ++ 32 :: y).drop 1, []⟩ ?_ ht
      unfold itemB
      rw [if_neg (by simp [hne]), if_neg (by simp [hpt]), if_pos hc]
      congr 1
      match x, hc with
      | [], hc => simp [byte_back, Lib.indexByte] at hc
      | a :: x, _ => rw [rowB_iff]; simp
    · refine bad8 ⟨94, x ++ 32 :: y, []⟩ ?_ ht
      unfold itemB
      rw [if_neg (by simp [hne]), if_neg (by simp [hpt]), if_neg hc, rowB_iff]
      simp
theorem same_all (t : List UInt8) : Same t := by
 by_cases h : (32 : UInt8) ∈ t
 ·skip
  obtain ⟨x, y, rfl, hx⟩ := first_of h
  exact same_two hx
 ·skip
  by_cases h1 : Lib.hasPrefix t [62, 61] = true
  ·skip
   obtain ⟨r, rfl⟩ := pre2 h1
   exact same_from (by simp at h; exact h)
  ·skip
   by_cases h2 : Lib.hasPrefix t [60] = true
   ·skip
    obtain ⟨r, rfl⟩ := pre1 h2
    exact same_to (by simp at h; exact h)
   ·skip
    exact same_short h (by simpa using h1) (by simpa using h2)
theorem firstNe_zero : ∀ {l : List Int}, firstNe l = 0 → ∀ x ∈ l, x = 0
  | [], _, x, hx => by cases hx
  | a :: l, h, x, hx => by
    by_cases ha : a = 0
    · subst ha
      have h' : firstNe l = 0 := by simpa [firstNe] using h
      rcases List.mem_cons.1 hx with rfl | hx
      · rfl
      · exact firstNe_zero h' x hx
    · unfold firstNe at h
      rw [List.find?_cons, show (a != 0) = true by simpa using ha] at h
      exact absurd h ha
theorem range_eq (s : List UInt8) : rangeB s = rangeR s := by
 unfold rangeB rangeR
 split
 ·skip
  rfl
 ·skip
  split
  ·skip
   rfl
  ·skip
   have hbad : (partsR s).any badB = (partsR s).any (fun t => tokE t == 8) := by
    congr 1; funext t; exact (same_all t).1
   rw [hbad]
   split
   ·skip
    rfl
   ·skip
    rename_i h8
    have hall : ∀ t ∈ partsR s, badB t = false := fun t ht => by
     rw [(same_all t).1]
     have := List.any_eq_false.1 (Bool.eq_false_iff.2 h8) t ht
     simpa using this
    have hcodes : ((partsR s).map fun t => (spanB (itemB t).1).2) = (partsR s).map tokE := List.map_congr_left fun t ht => ((same_all t).2 (hall t ht)).1
    rw [hcodes]
    by_cases h0 : firstNe ((partsR s).map tokE) = 0
    ·skip
     have hsp : ((partsR s).map fun t => (spanB (itemB t).1).1) = (partsR s).map tokS := List.map_congr_left fun t ht =>
      ((same_all t).2 (hall t ht)).2 (firstNe_zero h0 _ (List.mem_map_of_mem ht))
     rw [hsp, h0]
     simp [firstB]
    ·skip
     simp [h0, firstB]
end
end Go.Proofs.YtpelfildfidnbaaGreatDoor
namespace Go.Proofs.YtpelfildfidnbaaGreatDoor
section
open Go
theorem cmpInt_0 {x y : Int} (h : Lib.compareInt x y = 0) : x = y := by
 unfold Lib.compareInt at h
 split at h
 ·skip
  omega
 ·skip
  split at h
  ·skip
   omega
  ·skip
   omega
def lexL {α : Type} (c : α → α → Int) : List α → List α → Int
 | [], [] => 0
 | [], _ :: _ => -1
 | _ :: _, [] => 1
 | x :: xs, y :: ys => firstB (c x y) (lexL c xs ys)
theorem firstB_0 {a b : Int} (h : firstB a b = 0) : a = 0 ∧ b = 0 := by
 unfold firstB at h
 by_cases h0 : a = 0
 ·skip
  subst h0; exact ⟨rfl, h⟩
 ·skip
  rw [if_pos (by simpa using h0)] at h; exact absurd h h0
theorem lexL_0 {α : Type} {c : α → α → Int} (h : ∀ x y, c x y = 0 → x = y) : ∀ {xs ys : List α}, lexL c xs ys = 0 → xs = ys
  | [], [], _ => rfl
  | [], _ :: _, e => by simp [lexL] at e
  | _ :: _, [], e => by simp [lexL] at e
  | x :: xs, y :: ys, e => by
    have e := firstB_0 e
    rw [h x y e.1, lexL_0 h e.2]
theorem bytes_lex : ∀ (a b : List UInt8), Lib.compareBytes a b = lexL (fun a b => Lib.compareInt (bI a) (bI b)) a b
  | [], [] => rfl
  | [], _ :: _ => rfl
  | _ :: _, [] => rfl
  | a :: l, b :: m => by
    have ih := bytes_lex l m
    show _ = firstB (Lib.compareInt (bI a) (bI b)) _
    by_cases h1 : a < b
    · have h1' : a.toNat < b.toNat := h1
      simp only [Lib.compareBytes, h1, if_true]
      rw [cmp_lt (show bI a < bI b by unfold bI; omega)]; rfl
    · have h1' : ¬ a.toNat < b.toNat := h1
      by_cases h2 : b < a
      · have h2' : b.toNat < a.toNat := h2
        simp only [Lib.compareBytes, h1, h2, if_true, if_false]
        rw [cmp_gt (show bI b < bI a by unfold bI; omega)]; rfl
      · have h2' : ¬ b.toNat < a.toNat := h2
        simp only [Lib.compareBytes, h1, h2, if_false]
        rw [show bI a = bI b by unfold bI; omega, cmp_refl]; exact ih
theorem bI_inj {a b : UInt8} (h : bI a = bI b) : a = b := by
 unfold bI at h
 exact UInt8.toNat_inj.1 (by omega)
theorem bytes_0 {a b : List UInt8} (h : Lib.compareBytes a b = 0) : a = b := by
 rw [bytes_lex] at h
 exact lexL_0 (fun x y e => bI_inj (cmpInt_0 e)) h
theorem rows_first (xs ys : List (List UInt8)) : rowsB xs ys = firstB (firstNe (List.zipWith cwB xs ys)) (Lib.compareInt xs.length ys.length) := rfl
end
end Go.Proofs.YtpelfildfidnbaaGreatDoor
namespace Go.Proofs.YtpelfildfidnbaaGreatDoor
section
open Go
theorem take_getD {α : Type} {l : List α} {i : Nat} {d : α} (h : i < l.length) : l.take (i + 1) = l.take i ++ [l.getD i d] := by
 rw [List.take_succ_eq_append_getElem h, List.getD_eq_getElem?_getD, List.getElem?_eq_getElem h]; rfl
end
section
open Go
inductive CT where
 | mk (k : Int) (n v : List UInt8) (l : List CT)
mutual
def CT.d : CT → List D
  | .mk k n v l => [.int .i64 k, .str n, .str v, .vec 4 (CT.ds l)]
def CT.ds : List CT → List (List D)
  | [] => []
  | c :: l => c.d :: CT.ds l
end
theorem ds_map : ∀ (l : List CT), CT.ds l = l.map CT.d
  | [] => rfl
  | c :: l => by
    show c.d :: CT.ds l = _
    rw [ds_map l]; rfl
def CT.z : CT := .mk 0 [] [] []
def CT.k : CT → Int | .mk k _ _ _ => k
def CT.n : CT → List UInt8 | .mk _ n _ _ => n
def CT.v : CT → List UInt8 | .mk _ _ v _ => v
def CT.l : CT → List CT | .mk _ _ _ l => l
mutual
def CT.w : CT → Nat
  | .mk _ _ _ l => CT.ws l + 1
def CT.ws : List CT → Nat
  | [] => 0
  | c :: l => c.w + CT.ws l
end
theorem ws_mem : ∀ {l : List CT} {a : CT}, a ∈ l → a.w ≤ CT.ws l
  | c :: l, a, h => by
    show a.w ≤ c.w + CT.ws l
    rcases List.mem_cons.1 h with rfl | h
    · omega
    · have := ws_mem h; omega
theorem CT.sz {c a : CT} (h : a ∈ c.l) : a.w < c.w := by
 cases c with
 | mk k n v l =>
  have h2 : a.w ≤ CT.ws l := ws_mem h
  show a.w < CT.ws l + 1
  omega
theorem CT.pos (c : CT) : 0 < c.w := by cases c; show 0 < CT.ws _ + 1; omega
abbrev ctV (c : CT) : V := .agg [.d (.int .i64 c.k), .d (.str c.n), .d (.str c.v), .d (.vec 4 (CT.ds c.l))]
theorem ct_d (c : CT) : c.d = [.int .i64 c.k, .str c.n, .str c.v, .vec 4 (CT.ds c.l)] := by cases c; rfl
def partP (k : Int) (n v : List UInt8) (m : Int) : Int :=
 if decide (k < 1) || decide (k > 8) then 1
 else if (((!(decide (k ≥ 2) && decide (k ≤ 5)) && !(n == [])) || (!((decide (k ≥ 2) && decide (k ≤ 5)) && k != 4) && !(v == []))) || (!decide (k ≥ 6) && decide (m > 0))) || (k == 6 && m != 1) then 2
 else if !(decide (k ≥ 2) && decide (k ≤ 5)) then 0
 else if !(if (k == 3 || k == 4) then pathB n else nameB n) then 5
 else if !valueB v then 2
 else if k == 5 then (rangeB v).2 else 0
def CT.part (c : CT) : Int := partP c.k c.n c.v (c.l.length : Int)
def up1 (n : Int) : Int := IntKind.i64.wrap (n + 1)
def visits {S : Type} (g : CT → S → Bool × S) : List CT → S → Bool × S
 | [], s => (true, s)
 | c :: l, s => if (g c s).1 then visits g l (g c s).2 else (false, (g c s).2)
theorem visits_nil {S : Type} {g : CT → S → Bool × S} {l : List CT} {s : S} : visits g (l.take 0) s = (true, s) := rfl
theorem visits_congr {S : Type} {g g' : CT → S → Bool × S} : ∀ {l : List CT}, (∀ c ∈ l, g c = g' c) → visits g l = visits g' l
  | [], _ => rfl
  | c :: l, h => by
    funext s
    have ih := visits_congr (l := l) (fun c hc => h c (List.mem_cons_of_mem _ hc))
    unfold visits
    rw [h c List.mem_cons_self, ih]
def visitN {S : Type} (f : CT → Int → S → Bool × S) : Nat → CT → Int → S → Bool × S
 | 0, c, lv, s => (true, s)
 | fuel + 1, c, lv, s => if (f c lv s).1 then visits (fun a => visitN f fuel a (up1 lv)) c.l (f c lv s).2 else (false, (f c lv s).2)
def visit {S : Type} (f : CT → Int → S → Bool × S) (c : CT) (lv : Int) (s : S) : Bool × S := visitN f c.w c lv s
theorem visitN_fuel {S : Type} (f : CT → Int → S → Bool × S) : ∀ (n m : Nat) (c : CT) (lv : Int), c.w ≤ n → c.w ≤ m → visitN f n c lv = visitN f m c lv
  | 0, m, c, lv, h, _ => by have := c.pos; omega
  | n + 1, 0, c, lv, _, h => by have := c.pos; omega
  | n + 1, m + 1, c, lv, h, h' => by
    funext s
    show (if (f c lv s).1 then visits (fun a => visitN f n a (up1 lv)) c.l (f c lv s).2 else _) = (if (f c lv s).1 then visits (fun a => visitN f m a (up1 lv)) c.l (f c lv s).2 else _)
    rw [visits_congr (fun a ha => visitN_fuel f n m a (up1 lv) (by have := CT.sz ha; omega) (by have := CT.sz ha; omega))]
theorem visit_eq {S : Type} (f : CT → Int → S → Bool × S) (c : CT) (lv : Int) (s : S) :
  visit f c lv s = if (f c lv s).1 then visits (fun a => visit f a (up1 lv)) c.l (f c lv s).2 else (false, (f c lv s).2) := by
 unfold visit
 obtain ⟨n, hn⟩ : ∃ n, c.w = n + 1 := ⟨c.w - 1, by have := c.pos; omega⟩
 rw [hn]
 show (if (f c lv s).1 then visits (fun a => visitN f n a (up1 lv)) c.l (f c lv s).2 else _) = _
 rw [visits_congr (fun a ha => visitN_fuel f n a.w a (up1 lv) (by have := CT.sz ha; omega) (Nat.le_refl _))]
theorem visit_no {S : Type} {f : CT → Int → S → Bool × S} {c : CT} {lv : Int} {s : S} (h : (f c lv s).1 = false) : visit f c lv s = (false, (f c lv s).2) := by rw [visit_eq, h]; simp
theorem visits_snoc {S : Type} {g : CT → S → Bool × S} : ∀ {l : List CT} {a : CT} {s s' : S}, visits g l s = (true, s') → visits g (l ++ [a]) s = g a s'
  | [], a, s, s', h => by
    have h2 : s = s' := (Prod.mk.inj h).2
    subst h2
    show (if (g a s).1 then (true, (g a s).2) else (false, (g a s).2)) = g a s
    cases h : g a s with
    | mk b q => cases b <;> rfl
  | c :: l, a, s, s', h => by
    unfold visits at h
    show (if (g c s).1 then visits g (l ++ [a]) (g c s).2 else _) = _
    cases hc : (g c s).1 with
    | true => rw [hc, if_pos rfl] at h; rw [if_pos rfl]; exact visits_snoc h
    | false => rw [hc] at h; simp at h
theorem visits_stop {S : Type} {g : CT → S → Bool × S} : ∀ {l : List CT} {i : Nat} {s s' : S}, i < l.length → visits g (l.take i) s = (true, s') → (g (l.getD i CT.z) s').1 = false → visits g l s = (false, (g (l.getD i CT.z) s').2)
  | [], i, s, s', hi, _, _ => by simp at hi
  | c :: l, 0, s, s', _, h, hc => by
    have h2 : s = s' := (Prod.mk.inj h).2
    subst h2
    have hc : (g c s).1 = false := hc
    show (if (g c s).1 then _ else (false, (g c s).2)) = _
    rw [hc]; rfl
  | c :: l, i + 1, s, s', hi, h, hc => by
    have h : (if (g c s).1 then visits g (l.take i) (g c s).2 else (false, (g c s).2)) = (true, s') := h
    show (if (g c s).1 then visits g l (g c s).2 else _) = _
    cases hq : (g c s).1 with
    | true => rw [hq, if_pos rfl] at h; rw [if_pos rfl]; exact visits_stop (by simpa using hi) h hc
    | false => rw [hq] at h; simp at h
def cc1 (c : CT) (lv : Int) (s : Int × Bool) : Bool × (Int × Bool) := (decide (up1 s.1 ≤ 100), (up1 s.1, s.2 || decide (lv > 20)))
def cc2 (c : CT) (lv : Int) (s : Int) : Bool × Int := (c.part == 0, c.part)
def checkP (c : CT) : Int :=
 if decide ((visit cc1 c 0 (0, false)).2.1 > 100) then 4
 else if (visit cc2 c 0 0).2 == 0 && (visit cc1 c 0 (0, false)).2.2 then 4 else (visit cc2 c 0 0).2
theorem getD_map_ct {l : List CT} {i : Nat} (h : i < l.length) : V.one (.eptr ((l.map CT.d).getD ((i : Int)).toNat [])) = V.one (.eptr [.int .i64 (l.getD i CT.z).k, .str (l.getD i CT.z).n, .str (l.getD i CT.z).v, .vec 4 (CT.ds (l.getD i CT.z).l)]) :=
 (row_at (f := CT.d) CT.z h).trans (by rw [ct_d])
theorem take_ct {l : List CT} {i : Nat} (h : i < l.length) : l.take (i + 1) = l.take i ++ [l.getD i CT.z] := by
 rw [List.take_succ_eq_append_getElem h, List.getD_eq_getElem?_getD, List.getElem?_eq_getElem h]; rfl
theorem mem_ct {l : List CT} {i : Nat} (h : i < l.length) : l.getD i CT.z ∈ l := by
 rw [List.getD_eq_getElem?_getD, List.getElem?_eq_getElem h]; exact List.getElem_mem h
inductive CtBig : CT → Prop where
 | mk (k : Int) (n v : List UInt8) (l : List CT) (h1 : n.length < 4294967000) (h2 : v.length < 4294967000) (h3 : ∀ a ∈ l, CtBig a) (h4 : l.length < 4294967000) : CtBig (.mk k n v l)
theorem CtBig.n {c : CT} (h : CtBig c) : c.n.length < 4294967000 := by cases h; assumption
theorem CtBig.v {c : CT} (h : CtBig c) : c.v.length < 4294967000 := by cases h; assumption
theorem CtBig.ll {c : CT} (h : CtBig c) : c.l.length < 4294967000 := by cases h; assumption
theorem CtBig.l {c : CT} (h : CtBig c) : ∀ a ∈ c.l, CtBig a := by cases h; assumption
theorem visit_go {S : Type} {f : CT → Int → S → Bool × S} {c : CT} {lv : Int} {s : S} (h : (f c lv s).1 = true) : visit f c lv s = visits (fun a => visit f a (up1 lv)) c.l (f c lv s).2 := by rw [visit_eq, h]; simp
theorem visit_stop {S : Type} {f : CT → Int → S → Bool × S} {c : CT} {lv : Int} {s s' : S} {i : Nat} (h : (f c lv s).1 = true) (hi : i < c.l.length) (hv : visits (fun a => visit f a (up1 lv)) (c.l.take i) (f c lv s).2 = (true, s')) (hc : (visit f (c.l.getD i CT.z) (up1 lv) s').1 = false) :
  visit f c lv s = (false, (visit f (c.l.getD i CT.z) (up1 lv) s').2) := by rw [visit_go h]; exact visits_stop hi hv hc
theorem visit_all {S : Type} {f : CT → Int → S → Bool × S} {c : CT} {lv : Int} {s s' : S} {i : Nat} (h : (f c lv s).1 = true) (hi : c.l.length ≤ i) (hv : visits (fun a => visit f a (up1 lv)) (c.l.take i) (f c lv s).2 = (true, s')) :
  visit f c lv s = (true, s') := by rw [visit_go h, ← hv, List.take_of_length_le hi]
theorem visit_next {S : Type} {f : CT → Int → S → Bool × S} {c : CT} {lv : Int} {s s' : S} {i : Nat} (hi : i < c.l.length) (hv : visits (fun a => visit f a (up1 lv)) (c.l.take i) s = (true, s')) (hc : (visit f (c.l.getD i CT.z) (up1 lv) s').1 = true) :
  visits (fun a => visit f a (up1 lv)) (c.l.take (i + 1)) s = (true, (visit f (c.l.getD i CT.z) (up1 lv) s').2) := by
 rw [take_ct hi, visits_snoc hv]; exact Prod.ext hc rfl
theorem check_0 : checkP (.mk 1 [] [] []) = 0 := by rfl
end
section
open Go
open Go.RowKit
attribute [local irreducible] thenK blockK W
attribute [local irreducible] rangeB pathB nameB valueB visit visits
theorem part_eq {x : Int} {n v : List UInt8} {m : Int} {b : Bool} (c1 : (decide (x < 1) || decide (x > 8)) = false)
  (c2 : ((((!(decide (x ≥ 2) && decide (x ≤ 5)) && !(n == [])) || (!((decide (x ≥ 2) && decide (x ≤ 5)) && x != 4) && !(v == []))) || (!decide (x ≥ 6) && decide (m > 0))) || (x == 6 && m != 1)) = false)
  (c3 : (!(decide (x ≥ 2) && decide (x ≤ 5))) = false) (hb : (if (x == 3 || x == 4) = true then pathB n else nameB n) = b) : partP x n v m = if (!b) = true then 5 else if (!valueB v) = true then 2 else if (x == 5) = true then (rangeB v).2 else 0 := by
 unfold partP
 rw [if_neg (Bool.eq_false_iff.1 c1), if_neg (Bool.eq_false_iff.1 c2), if_neg (Bool.eq_false_iff.1 c3), hb]
theorem pc_ver_partFault (x : Int) (n v : List UInt8) (xs : List (List D)) (hn : n.length < 4294967000) (hv : v.length < 4294967000) :
  PureCall Tryz.prog J 228 [.agg [.d (.int .i64 x), .d (.str n), .d (.str v), .d (.vec 4 xs)]] (.one (.d (.int .i64 (partP x n v (xs.length : Int))))) := by
 refine PureCall.of_body tOk (fn := Tryz.f228) Tryz.func228 (by kernel_rfl) rfl (Nat.le_of_ble_eq_true rfl) (fun E => ?_)
 iterate 15 first|refine S.pickOr tOk zOk rfl rfl tg ?_|refine Yp rfl ?_|refine Yg rfl rfl tg ?_|refine S.box rfl rfl rfl rfl ?_|apply Y1|apply Yn|apply Ys
 refine W.cond rfl (fun c1=>?_) fun c1=>?_
 ·skip
  apply Y1
  refine Yp rfl ?_
  apply Yn
  apply Yt
  apply Yu
  exact Yz rfl rfl rfl (congrArg (fun x : Int => V.one (C.d (D.int .i64 x))) ((if_pos c1) : partP x n v (xs.length : Int) = _)).symm
 apply Yk
 iterate 64 first|refine S.pickOr tOk zOk rfl rfl tg ?_|refine S.pickAndG tOk zOk rfl rfl rfl tg tg ?_|refine S.pickAnd tOk zOk rfl rfl tg ?_|refine Yg rfl rfl tg ?_|refine Yp rfl ?_|apply Y3|apply Y1|apply Yn|apply Ys
 refine W.cond rfl (fun c2=>?_) fun c2=>?_
 ·skip
  apply Y1
  refine Yp rfl ?_
  apply Yn
  apply Yt
  apply Yu
  exact Yz rfl rfl rfl (congrArg (fun x : Int => V.one (C.d (D.int .i64 x))) (((if_neg (Bool.eq_false_iff.1 c1)).trans (if_pos c2)) : partP x n v (xs.length : Int) = _)).symm
 iterate 7 first|refine Yp rfl ?_|apply Yk|apply Y1|apply Yn|apply Ys
 refine W.cond rfl (fun c3=>?_) fun c3=>?_
 ·skip
  apply Y1
  refine Yp rfl ?_
  apply Yn
  apply Yt
  apply Yu
  exact Yz rfl rfl rfl (congrArg (fun x : Int => V.one (C.d (D.int .i64 x))) (((if_neg (Bool.eq_false_iff.1 c1)).trans ((if_neg (Bool.eq_false_iff.1 c2)).trans (if_pos c3))) : partP x n v (xs.length : Int) = _)).symm
 iterate 15 first|refine S.pickOr tOk zOk rfl rfl tg ?_|refine Yp rfl ?_|refine Yg rfl rfl tg ?_|apply Yk|apply Y1|apply Y3|apply Yn|apply Ys
 refine W.cond rfl (fun c4=>?_) fun c4=>?_
 ·skip
  iterate 8 first|refine Yp rfl ?_|apply Y1|apply Ys|apply Yn|apply Yr
  refine S.call rfl rfl rfl rfl rfl (pc_ver_IsPath n (by omega)) ?_
  refine Yp rfl ?_
  apply Yn
  refine W.cond rfl (fun c5=>?_) fun c5=>?_
  ·skip
   apply Y1
   refine Yp rfl ?_
   apply Yn
   apply Yt
   apply Yu
   exact Yz rfl rfl rfl (by rw [part_eq c1 c2 c3 (if_pos c4), if_pos c5] <;> rfl)
  iterate 6 first|refine Yp rfl ?_|apply Yk|apply Y1|apply Ys|apply Yn
  refine S.call rfl rfl rfl rfl rfl (pc_ver_IsValue v (by omega)) ?_
  refine Yp rfl ?_
  apply Yn
  refine W.cond rfl (fun c6=>?_) fun c6=>?_
  ·skip
   apply Y1
   refine Yp rfl ?_
   apply Yn
   apply Yt
   apply Yu
   exact Yz rfl rfl rfl (by rw [part_eq c1 c2 c3 (if_pos c4), if_neg (Bool.eq_false_iff.1 c5), if_pos c6] <;> rfl)
  iterate 8 first|refine Yp rfl ?_|apply Yk|apply Y1|apply Yn|apply Ys
  refine W.cond rfl (fun c7=>?_) fun c7=>?_
  ·skip
   apply Y1
   iterate 2 refine Yp rfl ?_
   refine S.call rfl rfl rfl rfl rfl (pc_ver_ParseRange v hv) ?_
   iterate 12 first|refine Yp rfl ?_|apply Yu|apply Yt|refine S.store tOk rfl rfl rfl rfl rfl rfl rfl rfl ?_|refine S.alloc tOk rfl rfl rfl rfl ?_|apply Y3|apply Yn
   exact Yz rfl rfl rfl (by rw [part_eq c1 c2 c3 (if_pos c4), if_neg (Bool.eq_false_iff.1 c5), if_neg (Bool.eq_false_iff.1 c6), if_pos c7] <;> rfl)
  apply Yk
  apply Y3
  refine Yp rfl ?_
  apply Yn
  apply Yt
  exact Yz rfl rfl rfl (by rw [part_eq c1 c2 c3 (if_pos c4), if_neg (Bool.eq_false_iff.1 c5), if_neg (Bool.eq_false_iff.1 c6), if_neg (Bool.eq_false_iff.1 c7)] <;> rfl)
 apply Yk
 apply Yn
 apply Ys
 apply Y1
 iterate 3 refine Yp rfl ?_
 refine S.call rfl rfl rfl rfl rfl (pc_ver_IsName n (by omega)) ?_
 refine Yp rfl ?_
 apply Yn
 refine W.cond rfl (fun c8=>?_) fun c8=>?_
 ·skip
  apply Y1
  refine Yp rfl ?_
  apply Yn
  apply Yt
  apply Yu
  exact Yz rfl rfl rfl (by rw [part_eq c1 c2 c3 (if_neg (Bool.eq_false_iff.1 c4)), if_pos c8] <;> rfl)
 apply Yk
 apply Yn
 apply Ys
 apply Y1
 iterate 2 refine Yp rfl ?_
 refine S.call rfl rfl rfl rfl rfl (pc_ver_IsValue v (by omega)) ?_
 refine Yp rfl ?_
 apply Yn
 refine W.cond rfl (fun c9=>?_) fun c9=>?_
 ·skip
  apply Y1
  refine Yp rfl ?_
  apply Yn
  apply Yt
  apply Yu
  exact Yz rfl rfl rfl (by rw [part_eq c1 c2 c3 (if_neg (Bool.eq_false_iff.1 c4)), if_neg (Bool.eq_false_iff.1 c8), if_pos c9] <;> rfl)
 iterate 8 first|refine Yp rfl ?_|apply Yk|apply Y1|apply Yn|apply Ys
 refine W.cond rfl (fun c10=>?_) fun c10=>?_
 ·skip
  apply Y1
  iterate 2 refine Yp rfl ?_
  refine S.call rfl rfl rfl rfl rfl (pc_ver_ParseRange v hv) ?_
  iterate 12 first|refine Yp rfl ?_|apply Yu|apply Yt|refine S.store tOk rfl rfl rfl rfl rfl rfl rfl rfl ?_|refine S.alloc tOk rfl rfl rfl rfl ?_|apply Y3|apply Yn
  exact Yz rfl rfl rfl (by rw [part_eq c1 c2 c3 (if_neg (Bool.eq_false_iff.1 c4)), if_neg (Bool.eq_false_iff.1 c8), if_neg (Bool.eq_false_iff.1 c9), if_pos c10] <;> rfl)
 apply Yk
 apply Y3
 refine Yp rfl ?_
 apply Yn
 apply Yt
 exact Yz rfl rfl rfl (by rw [part_eq c1 c2 c3 (if_neg (Bool.eq_false_iff.1 c4)), if_neg (Bool.eq_false_iff.1 c8), if_neg (Bool.eq_false_iff.1 c9), if_neg (Bool.eq_false_iff.1 c10)] <;> rfl)
theorem pc_cc1 (x : Int) (n v : List UInt8) (xs : List (List D)) (lv p : Int) (d : Bool) :
  HCall Tryz.prog J 226 ([.agg [.d (.int .i64 x), .d (.str n), .d (.str v), .d (.vec 4 xs)], .one (.d (.int .i64 lv)), .one (.ptr 0 0), .one (.ptr 1 0)]) ([[.d (.int .i64 p)], [.d (.bool d)]]) ([]) ([]) (isH (.one (.d (.bool (decide (up1 p ≤ 100))))) ([[.d (.int .i64 (up1 p))], [.d (.bool (d || decide (lv > 20)))]]) ([]) ([])) := by
 refine HCall.ofD tOk ⟨2, 0, 0⟩ (fn := Tryz.f226) Tryz.func226 (by kernel_rfl) rfl (Nat.le_of_ble_eq_true rfl) (fun E => ?_)
 iterate 20 first|refine S.pickOr tOk zOk rfl rfl tg ?_|refine Yp rfl ?_|refine S.store tOk rfl rfl rfl rfl rfl rfl rfl rfl ?_|refine Yg rfl rfl tg ?_|apply Yt|refine S.box rfl rfl rfl rfl ?_|apply Y3|apply Y1|apply Yn
 exact ⟨_, rfl, rfl, LeG.refl _, rfl, rfl, rfl⟩
theorem pc_cc2 (x : Int) (n v : List UInt8) (xs : List (List D)) (hn : n.length < 4294967000) (hv : v.length < 4294967000) (lv e : Int) :
  HCall Tryz.prog J 227 ([.agg [.d (.int .i64 x), .d (.str n), .d (.str v), .d (.vec 4 xs)], .one (.d (.int .i64 lv)), .one (.ptr 0 0)]) ([[.d (.int .i64 e)]]) ([]) ([]) (isH (.one (.d (.bool (partP x n v (xs.length : Int) == 0)))) ([[.d (.int .i64 (partP x n v (xs.length : Int)))]]) ([]) ([])) := by
 refine HCall.ofD tOk ⟨1, 0, 0⟩ (fn := Tryz.f227) Tryz.func227 (by kernel_rfl) rfl (Nat.le_of_ble_eq_true rfl) (fun E => ?_)
 iterate 5 first|refine Yp rfl ?_|refine S.box rfl rfl rfl rfl ?_|apply Y3|apply Y1
 refine S.call rfl rfl rfl rfl rfl (pc_ver_partFault x n v xs hn hv) ?_
 refine S.store tOk rfl rfl rfl rfl rfl rfl rfl rfl ?_
 apply Y3
 iterate 3 refine Yp rfl ?_
 apply Yn
 apply Yt
 exact ⟨_, rfl, rfl, LeG.refl _, rfl, rfl, rfl⟩
theorem pc_walk1s (c : CT) (lv : Int) (p : Int) (d : Bool) (hc : CtBig c) (ih : ∀ a ∈ c.l, ∀ (lv  : Int) (p : Int) (d : Bool), CtBig a → HCall Tryz.prog J 225 [ctV a, .one (.d (.int .i64 lv)), .one (.clo 226 [.ptr 0 0, .ptr 1 0])] [[.d (.int .i64 p)], [.d (.bool d)]] [] [] (isH (.one (.d (.bool (visit cc1 a lv (p, d)).1))) [[.d (.int .i64 (visit cc1 a lv (p, d)).2.1)], [.d (.bool (visit cc1 a lv (p, d)).2.2)]] [] [])) :
  HCall Tryz.prog J 225 ([ctV c, .one (.d (.int .i64 lv)), .one (.clo 226 [.ptr 0 0, .ptr 1 0])]) ([[.d (.int .i64 p)], [.d (.bool d)]]) ([]) ([]) (isH (.one (.d (.bool (visit cc1 c lv (p, d)).1))) ([[.d (.int .i64 (visit cc1 c lv (p, d)).2.1)], [.d (.bool (visit cc1 c lv (p, d)).2.2)]]) ([]) ([])) := by
 unfold ctV
 rw [ds_map]
 have hlen : ((c.l.map CT.d).length : Int) = (c.l.length : Int) := by rw [List.length_map]
 refine HCall.ofD tOk ⟨2, 0, 0⟩ (fn := Tryz.f225) Tryz.func225 (by kernel_rfl) rfl (Nat.le_of_ble_eq_true rfl) (fun E => ?_)
 iterate 9 first|refine Yp rfl ?_|refine S.box rfl rfl rfl rfl ?_|apply Y1|apply Ys|apply Yn
 refine S.hcallD rfl rfl rfl rfl ((pc_cc1 c.k c.n c.v _ lv p d).fd [0, 1] [] [] rfl) ?_
 refine Yp rfl ?_
 apply Yn
 refine W.cond rfl (fun c1=>?_) fun c1=>?_
 ·skip
  have hf : (cc1 c lv (p, d)).1 = false := by simpa [cc1, CT.part, hlen] using c1
  have hv := visit_no hf
  apply Y1
  refine Yp rfl ?_
  apply Yn
  apply Yt
  apply Yu
  exact ⟨_, rfl, rfl, (by rw [hv]; exact LeG.refl _), (by rw [hv]; rfl), rfl, rfl⟩
 have hf : (cc1 c lv (p, d)).1 = true := by simpa [cc1, CT.part, hlen] using c1
 have hbig := hc.ll
 iterate 9 first|refine Yp rfl ?_|apply Yk|apply Y1|apply Yn|apply Ys
 apply Yb
 refine W.loop (fun k st => ∃ i : Nat, ∃ p1 : Int, ∃ d1 : Bool, i ≤ c.l.length ∧ visits (fun a => visit cc1 a (up1 lv)) (c.l.take i) (cc1 c lv (p, d)).2 = (true, (p1, d1)) ∧ k = c.l.length - i ∧ ∃ t b2 r2 m2, st = ⟨t, [[.d (.int .i64 p1)], [.d (.bool d1)], [.d (.int .i64 c.k), .d (.str c.n), .d (.str c.v), .d (.vec 4 (c.l.map CT.d))]] ++ b2, [] ++ r2, [] ++ m2⟩ ∧ holdsL t [(1, .one (.d (.int .i64 lv))), (2, .one (.clo 226 [.ptr 0 0, .ptr 1 0])), (15, .one (.d (.vec 4 (c.l.map CT.d)))), (16, .one (.d (.int .i64 ((c.l.map CT.d).length : Int)))), (17, .one (.d (.int .i64 (i : Int))))]) (c.l.length) ⟨0, _, _, Nat.zero_le _, visits_nil, rfl, _, _, _, _, rfl, rfl, rfl, rfl, rfl, rfl, trivial⟩ ?_
 rintro k0 _ ⟨i, p1, d1, f0_0, f0_1, rfl, t0, bb0, rr0, mm0, rfl, hh0⟩
 refine W.keepR _ _ _ _ _ _ _ hh0 rfl ?_
 apply Y1
 refine Yp rfl ?_
 apply Yn
 apply Ys
 refine W.cond rfl (fun c2=>?_) fun c2=>?_
 ·skip
  have hi := row_lt c2
  apply Yk
  apply Yn
  apply Ys
  apply Yb
  apply Y1
  refine YE rfl (row_ok hi) (getD_map_ct hi) rfl ?_
  iterate 8 first|refine Yp rfl ?_|refine S.store tOk rfl rfl rfl rfl rfl rfl rfl rfl ?_|refine S.alloc tOk rfl rfl rfl rfl ?_|apply Y3
  refine S.hcallD rfl rfl rfl rfl ((ih (c.l.getD i CT.z) (mem_ct hi) (up1 lv) p1 d1 (hc.l _ (mem_ct hi))).fd [0, 1] [] [] rfl) ?_
  refine Yp rfl ?_
  apply Yn
  refine W.cond rfl (fun c3=>?_) fun c3=>?_
  ·skip
   have hv := visit_stop hf hi f0_1 (by simpa using c3)
   iterate 9 first|apply Yu|apply Yv|apply Yt|refine Yp rfl ?_|apply Y1|apply Yn
   exact ⟨_, rfl, rfl, (by rw [hv]; exact LeG.refl _), (by rw [hv]; rfl), rfl, rfl⟩
  apply Yk
  apply Yw
  apply Y4
  iterate 2 refine Yp rfl ?_
  refine loop_n (c.l.length - (i + 1)) (by omega) ⟨i + 1, _, _, hi, visit_next hi f0_1 (by simpa using c3), rfl, _, _, _, _, rfl, rfl, rfl, rfl, rfl, inc_i64 (by omega), trivial⟩
 have hi := row_ge c2
 have hv := visit_all hf hi f0_1
 apply Yq
 apply Ye
 apply Ye
 apply Yx
 apply Y3
 refine Yp rfl ?_
 apply Yn
 apply Yt
 exact ⟨_, rfl, rfl, (by rw [hv]; exact LeG.refl _), (by rw [hv]; rfl), rfl, rfl⟩
theorem pc_walk1 : ∀ (n : Nat) (c : CT), c.w ≤ n → ∀ (lv : Int) (p : Int) (d : Bool), CtBig c → HCall Tryz.prog J 225 [ctV c, .one (.d (.int .i64 lv)), .one (.clo 226 [.ptr 0 0, .ptr 1 0])] [[.d (.int .i64 p)], [.d (.bool d)]] [] [] (isH (.one (.d (.bool (visit cc1 c lv (p, d)).1))) [[.d (.int .i64 (visit cc1 c lv (p, d)).2.1)], [.d (.bool (visit cc1 c lv (p, d)).2.2)]] [] [])
 | 0, c, h => by have := c.pos; omega
 | n + 1, c, h => fun lv p d hc => pc_walk1s c lv p d hc (fun a ha => pc_walk1 n a (by have := CT.sz ha; omega))
theorem pc_walk2s (c : CT) (lv : Int) (e : Int) (hc : CtBig c) (ih : ∀ a ∈ c.l, ∀ (lv  : Int) (e : Int), CtBig a → HCall Tryz.prog J 225 [ctV a, .one (.d (.int .i64 lv)), .one (.clo 227 [.ptr 0 0])] [[.d (.int .i64 e)]] [] [] (isH (.one (.d (.bool (visit cc2 a lv e).1))) [[.d (.int .i64 (visit cc2 a lv e).2)]] [] [])) :
  HCall Tryz.prog J 225 ([ctV c, .one (.d (.int .i64 lv)), .one (.clo 227 [.ptr 0 0])]) ([[.d (.int .i64 e)]]) ([]) ([]) (isH (.one (.d (.bool (visit cc2 c lv e).1))) ([[.d (.int .i64 (visit cc2 c lv e).2)]]) ([]) ([])) := by
 unfold ctV
 rw [ds_map]
 have hlen : ((c.l.map CT.d).length : Int) = (c.l.length : Int) := by rw [List.length_map]
 have hcl2 := pc_cc2 c.k c.n c.v (c.l.map CT.d) hc.n hc.v lv e
 rw [hlen] at hcl2
 refine HCall.ofD tOk ⟨1, 0, 0⟩ (fn := Tryz.f225) Tryz.func225 (by kernel_rfl) rfl (Nat.le_of_ble_eq_true rfl) (fun E => ?_)
 iterate 9 first|refine Yp rfl ?_|refine S.box rfl rfl rfl rfl ?_|apply Y1|apply Ys|apply Yn
 refine S.hcallD rfl rfl rfl rfl (hcl2.fd [0] [] [] rfl) ?_
 refine Yp rfl ?_
 apply Yn
 refine W.cond rfl (fun c1=>?_) fun c1=>?_
 ·skip
  have hf : (cc2 c lv e).1 = false := by simpa [cc2, CT.part, hlen] using c1
  have hv := visit_no hf
  apply Y1
  refine Yp rfl ?_
  apply Yn
  apply Yt
  apply Yu
  exact ⟨_, rfl, rfl, (by rw [hv]; exact LeG.refl _), (by rw [hv]; rfl), rfl, rfl⟩
 have hf : (cc2 c lv e).1 = true := by simpa [cc2, CT.part, hlen] using c1
 have hbig := hc.ll
 iterate 9 first|refine Yp rfl ?_|apply Yk|apply Y1|apply Yn|apply Ys
 apply Yb
 refine W.loop (fun k st => ∃ i : Nat, ∃ e1 : Int, i ≤ c.l.length ∧ visits (fun a => visit cc2 a (up1 lv)) (c.l.take i) (cc2 c lv e).2 = (true, e1) ∧ k = c.l.length - i ∧ ∃ t b2 r2 m2, st = ⟨t, [[.d (.int .i64 e1)], [.d (.int .i64 c.k), .d (.str c.n), .d (.str c.v), .d (.vec 4 (c.l.map CT.d))]] ++ b2, [] ++ r2, [] ++ m2⟩ ∧ holdsL t [(1, .one (.d (.int .i64 lv))), (2, .one (.clo 227 [.ptr 0 0])), (15, .one (.d (.vec 4 (c.l.map CT.d)))), (16, .one (.d (.int .i64 ((c.l.map CT.d).length : Int)))), (17, .one (.d (.int .i64 (i : Int))))]) (c.l.length) ⟨0, _, Nat.zero_le _, visits_nil, rfl, _, _, _, _, rfl, rfl, rfl, rfl, rfl, rfl, trivial⟩ ?_
 rintro k0 _ ⟨i, e1, f0_0, f0_1, rfl, t0, bb0, rr0, mm0, rfl, hh0⟩
 refine W.keepR _ _ _ _ _ _ _ hh0 rfl ?_
 apply Y1
 refine Yp rfl ?_
 apply Yn
 apply Ys
 refine W.cond rfl (fun c2=>?_) fun c2=>?_
 ·skip
  have hi := row_lt c2
  apply Yk
  apply Yn
  apply Ys
  apply Yb
  apply Y1
  refine YE rfl (row_ok hi) (getD_map_ct hi) rfl ?_
  iterate 8 first|refine Yp rfl ?_|refine S.store tOk rfl rfl rfl rfl rfl rfl rfl rfl ?_|refine S.alloc tOk rfl rfl rfl rfl ?_|apply Y3
  refine S.hcallD rfl rfl rfl rfl ((ih (c.l.getD i CT.z) (mem_ct hi) (up1 lv) e1 (hc.l _ (mem_ct hi))).fd [0] [] [] rfl) ?_
  refine Yp rfl ?_
  apply Yn
  refine W.cond rfl (fun c3=>?_) fun c3=>?_
  ·skip
   have hv := visit_stop hf hi f0_1 (by simpa using c3)
   iterate 9 first|apply Yu|apply Yv|apply Yt|refine Yp rfl ?_|apply Y1|apply Yn
   exact ⟨_, rfl, rfl, (by rw [hv]; exact LeG.refl _), (by rw [hv]; rfl), rfl, rfl⟩
  apply Yk
  apply Yw
  apply Y4
  iterate 2 refine Yp rfl ?_
  refine loop_n (c.l.length - (i + 1)) (by omega) ⟨i + 1, _, hi, visit_next hi f0_1 (by simpa using c3), rfl, _, _, _, _, rfl, rfl, rfl, rfl, rfl, inc_i64 (by omega), trivial⟩
 have hi := row_ge c2
 have hv := visit_all hf hi f0_1
 apply Yq
 apply Ye
 apply Ye
 apply Yx
 apply Y3
 refine Yp rfl ?_
 apply Yn
 apply Yt
 exact ⟨_, rfl, rfl, (by rw [hv]; exact LeG.refl _), (by rw [hv]; rfl), rfl, rfl⟩
theorem pc_walk2 : ∀ (n : Nat) (c : CT), c.w ≤ n → ∀ (lv : Int) (e : Int), CtBig c → HCall Tryz.prog J 225 [ctV c, .one (.d (.int .i64 lv)), .one (.clo 227 [.ptr 0 0])] [[.d (.int .i64 e)]] [] [] (isH (.one (.d (.bool (visit cc2 c lv e).1))) [[.d (.int .i64 (visit cc2 c lv e).2)]] [] [])
 | 0, c, h => by have := c.pos; omega
 | n + 1, c, h => fun lv e hc => pc_walk2s c lv e hc (fun a ha => pc_walk2 n a (by have := CT.sz ha; omega))
theorem pc_ver_CheckCond (c : CT) (hc : CtBig c) :
  PureCall Tryz.prog J 172 [ctV c] (.one (.d (.int .i64 (checkP c)))) := by
 refine PureCall.of_body tOk (fn := Tryz.f172) Tryz.func172 (by kernel_rfl) rfl (Nat.le_of_ble_eq_true rfl) (fun E => ?_)
 apply Y1
 iterate 9 first|refine Yp rfl ?_|refine S.store tOk rfl rfl rfl rfl rfl rfl rfl rfl ?_|refine S.alloc tOk rfl rfl rfl rfl ?_|refine S.box rfl rfl rfl rfl ?_|apply Y3
 refine S.makeFunc rfl rfl rfl ?_
 refine S.hcallD rfl rfl rfl rfl ((pc_walk1 c.w c (Nat.le_refl _) 0 0 false hc).fd [1, 2] [] [] rfl) ?_
 iterate 6 first|refine Yp rfl ?_|apply Y1|apply Yn|apply Ys
 refine W.cond rfl (fun c1=>?_) fun c1=>?_
 ·skip
  apply Y1
  refine Yp rfl ?_
  apply Yn
  apply Yt
  apply Yu
  exact Yz rfl rfl rfl (by (try simp only [List.toList_toArray, Int.toNat_zero] at c1); simp only [checkP, c1, Bool.false_eq_true, if_false, if_true, reduceIte] <;> rfl)
 apply Yk
 apply Y3
 refine S.alloc tOk rfl rfl rfl rfl ?_
 refine S.store tOk rfl rfl rfl rfl rfl rfl rfl rfl ?_
 apply Y3
 refine Yp rfl ?_
 refine S.makeFunc rfl rfl rfl ?_
 refine S.hcallD rfl rfl rfl rfl ((pc_walk2 c.w c (Nat.le_refl _) 0 0 hc).fd [3] [] [] rfl) ?_
 iterate 9 first|refine S.pickAnd tOk zOk rfl rfl tg ?_|refine Yp rfl ?_|refine Yg rfl rfl tg ?_|apply Y1|apply Yn|apply Ys
 refine W.cond rfl (fun c2=>?_) fun c2=>?_
 ·skip
  apply Y1
  refine Yp rfl ?_
  apply Yn
  apply Yt
  apply Yu
  exact Yz rfl rfl rfl (by (try simp only [List.toList_toArray, Int.toNat_zero] at c1 c2); simp only [checkP, c1, c2, Bool.false_eq_true, if_false, if_true, reduceIte] <;> rfl)
 apply Yk
 apply Y3
 iterate 2 refine Yp rfl ?_
 apply Yn
 apply Yt
 exact Yz rfl rfl rfl (by (try simp only [List.toList_toArray, Int.toNat_zero] at c1 c2); simp only [checkP, c1, c2, Bool.false_eq_true, if_false, if_true, reduceIte] <;> rfl)
end
end Go.Proofs.YtpelfildfidnbaaGreatDoor
