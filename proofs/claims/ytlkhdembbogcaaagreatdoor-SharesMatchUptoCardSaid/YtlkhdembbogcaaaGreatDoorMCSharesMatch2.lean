/- Part 2 of a proof: W4, V5, W5, V6, L3, W6, W7, V7, W8, V8, W9, V9, A21, W10, W11, ShelfT, L5, V10, V11, V12, V13, V14, V15, V16, A22, A23. -/
import Derived.Lib.Join
import Derived.Lib.ItoaLen
import Derived.Shelf.SlGeneric
import Derived.Shelf.Spec.TrailingZeros
import Derived.Ground.Names7Prog
import Derived.Test.YtlkhdembbogcaaaGreatDoorProg
import Derived.Test.YtlkhdembbogcaaaGreatDoorMCSharesMatch1
set_option linter.unusedVariables false
set_option linter.unusedSimpArgs false
set_option maxRecDepth 100000
set_option maxHeartbeats 4000000
namespace Go.Proofs.YtlkhdembbogcaaaGreatDoor
open Go
open Go.RowKit
theorem pc_outref2_VersionError (vs : List Ver) (hl : vs.length ≤ 2000000) (hv : ∀ v ∈ vs, v.e.length < 4294967281) :
  PureCall Tryz.prog J 21 [.one (.d (.vec 4 (vs.map verD)))] (.one (.d (.int .i64 (firstNe (vs.map Ver.check))))) := by
 refine PureCall.of_body tOk (fn := Tryz.f21) Tryz.func21 (by kernel_rfl) rfl (Nat.le_of_ble_eq_true rfl) (fun E => ?_)
 refine W.seq ?_
 refine W.region ?_
 refine S.pure tOk zOk rfl rfl rfl ?_
 refine thenK_n ?_
 refine W.seq ?_
 refine W.seq ?_
 refine W.region ?_
 refine S.pure tOk zOk rfl rfl rfl ?_
 refine S.pure tOk zOk rfl rfl rfl ?_
 refine S.pure tOk zOk rfl rfl rfl ?_
 refine thenK_n ?_
 refine W.block ?_
 refine W.loop (fun k st => ∃ i : Nat, i ≤ vs.length ∧ ((vs.map Ver.check).take i).all (· == 0) = true ∧ k = vs.length - i ∧ ∃ t b2 r2 m2, st = ⟨t, [] ++ b2, [] ++ r2, [] ++ m2⟩ ∧ holdsL t [(9, .one (.d (.vec 4 (vs.map fun x => verD x)))), (10, .one (.d (.int .i64 ((vs.map fun x => (verD x : List D)).length : Int)))), (11, .one (.d (.int .i64 (i : Int))))]) (vs.length) ⟨0, Nat.zero_le _, by simp, rfl, _, _, _, _, rfl, rfl, rfl, rfl, trivial⟩ ?_
 rintro k0 _ ⟨i, f0_0, f0_1, rfl, t0, bb0, rr0, mm0, rfl, hh0⟩
 refine W.keepR _ _ _ _ _ _ _ hh0 rfl ?_
 refine W.seq ?_
 refine W.region ?_
 refine S.pure tOk zOk rfl rfl rfl ?_
 refine thenK_n ?_
 refine W.seq ?_
 refine W.cond rfl (fun c1 => ?_) (fun c1 => ?_)
 ·skip
  have hi := row_lt c1
  have hei : (vs.getD i Ver.z).e.length < 4294967281 := ver_at hv hi
  have hsl := split_le (vs.getD i Ver.z).e [46]
  have hsm := fun j => @split_at (vs.getD i Ver.z).e [46] j
  refine W.skip ?_
  refine thenK_n ?_
  refine W.seq ?_
  refine W.block ?_
  refine W.seq ?_
  refine W.region ?_
  refine S.pureE tOk zOk rfl (row_ok hi) (row_at Ver.z hi) rfl ?_
  refine S.pure tOk zOk rfl rfl rfl ?_
  refine S.alloc tOk rfl rfl rfl rfl ?_
  refine S.store tOk rfl rfl rfl rfl rfl rfl rfl rfl ?_
  refine thenK_n ?_
  refine W.seq ?_
  refine W.seq ?_
  refine W.region ?_
  refine S.pure tOk zOk rfl rfl rfl ?_
  refine S.pure tOk zOk rfl rfl rfl ?_
  refine S.pure tOk zOk rfl rfl rfl ?_
  refine S.pure tOk zOk rfl rfl rfl ?_
  refine S.pure tOk zOk rfl rfl rfl ?_
  refine S.pure tOk zOk rfl rfl rfl ?_
  refine S.slice tOk rfl rfl ?_
  refine S.pure tOk zOk rfl rfl rfl ?_
  refine S.pure tOk zOk rfl rfl rfl ?_
  refine thenK_n ?_
  refine W.block ?_
  refine W.rounds 4 ?_
  refine WR.succ ?_
  refine W.seq ?_
  refine W.region ?_
  refine S.pure tOk zOk rfl rfl rfl ?_
  refine thenK_n ?_
  refine W.seq ?_
  refine W.condT rfl rfl ?_
  refine W.skip ?_
  refine thenK_n ?_
  refine W.seq ?_
  refine W.block ?_
  refine W.seq ?_
  refine W.region ?_
  refine S.pure tOk zOk rfl (by first | rfl | exact idx_ok (by omega) (by omega)) rfl ?_
  refine S.pure tOk zOk rfl rfl rfl ?_
  refine S.pure tOk zOk rfl rfl rfl ?_
  refine thenK_n ?_
  refine W.seq ?_
  refine W.region ?_
  refine S.pure tOk zOk rfl rfl rfl ?_
  refine S.call rfl rfl rfl rfl rfl (pc_outref2_In _ _ _) ?_
  refine S.pure tOk zOk rfl rfl rfl ?_
  refine thenK_n ?_
  refine W.cond rfl (fun c3 => ?_) (fun c3 => ?_)
  ·skip
   refine W.seq ?_
   refine W.region ?_
   refine S.pure tOk zOk rfl rfl rfl ?_
   refine thenK_n ?_
   refine W.ret ?_
   refine blockK_r ?_
   refine thenK_r ?_
   refine thenK_r ?_
   refine blockK_r ?_
   refine thenK_r ?_
   refine blockK_r ?_
   refine thenK_r ?_
   refine thenK_r ?_
   refine blockK_r ?_
   refine thenK_r ?_
   exact ⟨_, rfl, rfl, LeV.of_eq (congrArg (fun x => V.one (C.d (D.int .i64 x))) (verr_hit hi f0_1 (chk_a c3) (by decide)).symm)⟩
  ·skip
   refine W.skip ?_
   refine blockK_n ?_
   refine thenK_n ?_
   refine W.region ?_
   refine S.pure tOk zOk rfl rfl rfl ?_
   refine S.pure tOk zOk rfl rfl rfl ?_
   refine thenK_n ?_
   refine WR.succ ?_
   refine W.seq ?_
   refine W.region ?_
   refine S.pure tOk zOk rfl rfl rfl ?_
   refine thenK_n ?_
   refine W.seq ?_
   refine W.condT rfl rfl ?_
   refine W.skip ?_
   refine thenK_n ?_
   refine W.seq ?_
   refine W.block ?_
   refine W.seq ?_
   refine W.region ?_
   refine S.pure tOk zOk rfl (by first | rfl | exact idx_ok (by omega) (by omega)) rfl ?_
   refine S.pure tOk zOk rfl rfl rfl ?_
   refine S.pure tOk zOk rfl rfl rfl ?_
   refine thenK_n ?_
   refine W.seq ?_
   refine W.region ?_
   refine S.pure tOk zOk rfl rfl rfl ?_
   refine S.call rfl rfl rfl rfl rfl (pc_outref2_In _ _ _) ?_
   refine S.pure tOk zOk rfl rfl rfl ?_
   refine thenK_n ?_
   refine W.cond rfl (fun c5 => ?_) (fun c5 => ?_)
   ·skip
    refine W.seq ?_
    refine W.region ?_
    refine S.pure tOk zOk rfl rfl rfl ?_
    refine thenK_n ?_
    refine W.ret ?_
    refine blockK_r ?_
    refine thenK_r ?_
    refine thenK_r ?_
    refine blockK_r ?_
    refine thenK_r ?_
    refine blockK_r ?_
    refine thenK_r ?_
    refine thenK_r ?_
    refine blockK_r ?_
    refine thenK_r ?_
    exact ⟨_, rfl, rfl, LeV.of_eq (congrArg (fun x => V.one (C.d (D.int .i64 x))) (verr_hit hi f0_1 (chk_b c3 c5) (by decide)).symm)⟩
   ·skip
    refine W.skip ?_
    refine blockK_n ?_
    refine thenK_n ?_
    refine W.region ?_
    refine S.pure tOk zOk rfl rfl rfl ?_
    refine S.pure tOk zOk rfl rfl rfl ?_
    refine thenK_n ?_
    refine WR.succ ?_
    refine W.seq ?_
    refine W.region ?_
    refine S.pure tOk zOk rfl rfl rfl ?_
    refine thenK_n ?_
    refine W.seq ?_
    refine W.condT rfl rfl ?_
    refine W.skip ?_
    refine thenK_n ?_
    refine W.seq ?_
    refine W.block ?_
    refine W.seq ?_
    refine W.region ?_
    refine S.pure tOk zOk rfl (by first | rfl | exact idx_ok (by omega) (by omega)) rfl ?_
    refine S.pure tOk zOk rfl rfl rfl ?_
    refine S.pure tOk zOk rfl rfl rfl ?_
    refine thenK_n ?_
    refine W.seq ?_
    refine W.region ?_
    refine S.pure tOk zOk rfl rfl rfl ?_
    refine S.call rfl rfl rfl rfl rfl (pc_outref2_In _ _ _) ?_
    refine S.pure tOk zOk rfl rfl rfl ?_
    refine thenK_n ?_
    refine W.cond rfl (fun c7 => ?_) (fun c7 => ?_)
    ·skip
     refine W.seq ?_
     refine W.region ?_
     refine S.pure tOk zOk rfl rfl rfl ?_
     refine thenK_n ?_
     refine W.ret ?_
     refine blockK_r ?_
     refine thenK_r ?_
     refine thenK_r ?_
     refine blockK_r ?_
     refine thenK_r ?_
     refine blockK_r ?_
     refine thenK_r ?_
     refine thenK_r ?_
     refine blockK_r ?_
     refine thenK_r ?_
     exact ⟨_, rfl, rfl, LeV.of_eq (congrArg (fun x => V.one (C.d (D.int .i64 x))) (verr_hit hi f0_1 (chk_c c3 c5 c7) (by decide)).symm)⟩
    ·skip
     refine W.skip ?_
     refine blockK_n ?_
     refine thenK_n ?_
     refine W.region ?_
     refine S.pure tOk zOk rfl rfl rfl ?_
     refine S.pure tOk zOk rfl rfl rfl ?_
     refine thenK_n ?_
     refine WR.succ ?_
     refine W.seq ?_
     refine W.region ?_
     refine S.pure tOk zOk rfl rfl rfl ?_
     refine thenK_n ?_
     refine W.seq ?_
     refine W.condF rfl rfl ?_
     refine W.exit ?_
     refine thenK_e ?_
     refine thenK_e ?_
     refine blockK_x ?_
     refine thenK_n ?_
     refine W.seq ?_
     refine W.seq ?_
     refine W.region ?_
     refine S.pure tOk zOk rfl rfl rfl ?_
     refine S.pure tOk zOk rfl rfl rfl ?_
     refine S.pure tOk zOk rfl rfl rfl ?_
     refine thenK_n ?_
     refine W.cond rfl (fun c9 => ?_) (fun c9 => ?_)
     ·skip
      refine W.exit ?_
      refine thenK_e ?_
      refine blockK_x ?_
      refine thenK_n ?_
      refine W.region ?_
      refine S.pure tOk zOk rfl rfl rfl ?_
      refine S.pure tOk zOk rfl rfl rfl ?_
      refine loop_n (vs.length - (i + 1)) (by omega) ⟨i + 1, hi, all_take_succ (d := 0) (by simpa using hi) f0_1 (verr_go hi (chk_0 c3 c5 c7 c9)), rfl, _, _, _, _, rfl, rfl, rfl, inc_i64 (by omega), trivial⟩
     ·skip
      refine W.skip ?_
      refine thenK_n ?_
      refine W.seq ?_
      refine W.seq ?_
      refine W.region ?_
      refine S.pure tOk zOk rfl rfl rfl ?_
      refine S.pure tOk zOk rfl rfl rfl ?_
      refine S.pure tOk zOk rfl rfl rfl ?_
      refine S.pure tOk zOk rfl rfl rfl ?_
      refine thenK_n ?_
      refine W.cond rfl (fun c10 => ?_) (fun c10 => ?_)
      ·skip
       refine W.seq ?_
       refine W.region ?_
       refine S.pure tOk zOk rfl rfl rfl ?_
       refine thenK_n ?_
       refine W.ret ?_
       refine thenK_r ?_
       refine blockK_r ?_
       refine thenK_r ?_
       refine thenK_r ?_
       refine blockK_r ?_
       refine thenK_r ?_
       exact ⟨_, rfl, rfl, LeV.of_eq (congrArg (fun x => V.one (C.d (D.int .i64 x))) (verr_hit hi f0_1 (chk_len c3 c5 c7 c9 c10) (by decide)).symm)⟩
      ·skip
       refine W.skip ?_
       refine thenK_n ?_
       refine W.seq ?_
       refine W.region ?_
       refine S.pure tOk zOk rfl rfl rfl ?_
       refine S.pure tOk zOk rfl rfl rfl ?_
       refine S.call rfl rfl rfl rfl rfl (pc_Split _ _ hei (by decide)) ?_
       refine S.pure tOk zOk rfl rfl rfl ?_
       refine S.pure tOk zOk rfl rfl rfl ?_
       refine thenK_n ?_
       refine W.block ?_
       refine W.loop (fun k st => ∃ j : Nat, j ≤ (Lib.split (vs.getD i Ver.z).e [46]).length ∧ ((Lib.split (vs.getD i Ver.z).e [46]).take j).all wordB = true ∧ k = (Lib.split (vs.getD i Ver.z).e [46]).length - j ∧ ∃ t b2 r2 m2, st = ⟨t, [(verD (vs.getD i Ver.z)).map .d] ++ b2, [] ++ r2, [] ++ m2⟩ ∧ holdsL t [(9, .one (.d (.vec 4 (vs.map verD)))), (10, .one (.d (.int .i64 ((vs.map verD).length : Int)))), (11, .one (.d (.int .i64 (i : Int)))), (40, .one (.d (.vec 1 ((Lib.split (vs.getD i Ver.z).e [46]).map fun x => [.str x])))), (41, .one (.d (.int .i64 (((Lib.split (vs.getD i Ver.z).e [46]).map fun x => [D.str x]).length : Int)))), (42, .one (.d (.int .i64 (j : Int))))]) ((Lib.split (vs.getD i Ver.z).e [46]).length) ⟨0, Nat.zero_le _, by simp, rfl, _, _, _, _, rfl, rfl, rfl, rfl, rfl, rfl, rfl, trivial⟩ ?_
       rintro k4 _ ⟨j, f4_0, f4_1, rfl, t4, bb4, rr4, mm4, rfl, hh4⟩
       refine W.keepR _ _ _ _ _ _ _ hh4 rfl ?_
       refine W.seq ?_
       refine W.region ?_
       refine S.pure tOk zOk rfl rfl rfl ?_
       refine thenK_n ?_
       refine W.seq ?_
       refine W.cond rfl (fun c11 => ?_) (fun c11 => ?_)
       ·skip
        have hj := row_lt c11
        refine W.skip ?_
        refine thenK_n ?_
        refine W.seq ?_
        refine W.block ?_
        refine W.seq ?_
        refine W.region ?_
        refine S.pureE tOk zOk rfl (row_ok hj) (row_at [] hj) rfl ?_
        refine S.pure tOk zOk rfl rfl rfl ?_
        refine S.pure tOk zOk rfl rfl rfl ?_
        refine thenK_n ?_
        refine W.seq ?_
        refine W.region ?_
        refine S.pure tOk zOk rfl rfl rfl ?_
        refine S.pure tOk zOk rfl rfl rfl ?_
        refine S.pure tOk zOk rfl rfl rfl ?_
        refine S.pureG tOk zOk rfl rfl tg (fun _ => rfl) rfl ?_
        refine S.pureG tOk zOk rfl rfl tg (fun _ => rfl) rfl ?_
        refine S.pureG tOk zOk rfl rfl tg (fun _ => rfl) rfl ?_
        refine S.pickOr tOk zOk rfl rfl tg ?_
        refine S.pure tOk zOk rfl rfl rfl ?_
        refine S.pureG tOk zOk rfl rfl tg (fun _ => rfl) rfl ?_
        refine S.callG rfl rfl rfl rfl tg rfl rfl (fun _ => pc_outref2_Of _ smallDigitS (by decide) (by decide) (by have := hsm j; omega)) ?_
        refine S.pureG tOk zOk rfl rfl tg (fun _ => rfl) rfl ?_
        refine S.pickOr tOk zOk rfl rfl tg ?_
        refine S.pure tOk zOk rfl rfl rfl ?_
        refine S.pureG tOk zOk rfl rfl tg (fun _ => rfl) rfl ?_
        refine S.callG rfl rfl rfl rfl tg rfl rfl (fun _ => pc_outref2_Of _ digitS (by decide) (by decide) (by have := hsm j; omega)) ?_
        refine S.pureG tOk zOk rfl rfl tg (fun _ => rfl) rfl ?_
        refine S.pureG tOk zOk rfl rfl tg (fun _ => rfl) rfl ?_
        refine S.pureG tOk zOk rfl rfl tg (fun _ => rfl) rfl ?_
        refine S.pureG tOk zOk rfl rfl tg (fun _ => rfl) rfl ?_
        refine S.pickAndG tOk zOk rfl rfl rfl tg tg ?_
        refine S.pureG tOk zOk rfl rfl tg (fun _ => rfl) rfl ?_
        refine S.pureG tOk zOk rfl rfl tg (fun _ => rfl) rfl ?_
        refine S.pureG tOk zOk rfl rfl tg (fun h => idx_ok (Int.le_refl _) (gt1 (andr (andr h)))) rfl ?_
        refine S.pureG tOk zOk rfl rfl tg (fun _ => rfl) rfl ?_
        refine S.pickAndG tOk zOk rfl rfl rfl tg tg ?_
        refine S.pickOr tOk zOk rfl rfl tg ?_
        refine thenK_n ?_
        refine W.cond rfl (fun c12 => ?_) (fun c12 => ?_)
        ·skip
         refine W.seq ?_
         refine W.region ?_
         refine S.pure tOk zOk rfl rfl rfl ?_
         refine thenK_n ?_
         refine W.ret ?_
         refine blockK_r ?_
         refine thenK_r ?_
         refine thenK_r ?_
         refine blockK_r ?_
         refine blockK_r ?_
         refine thenK_r ?_
         refine thenK_r ?_
         refine blockK_r ?_
         refine thenK_r ?_
         exact ⟨_, rfl, rfl, LeV.of_eq (congrArg (fun x => V.one (C.d (D.int .i64 x))) (verr_hit hi f0_1 (chk_word c3 c5 c7 c9 hj (word_f' c12)) (by decide)).symm)⟩
        ·skip
         refine W.skip ?_
         refine blockK_n ?_
         refine thenK_n ?_
         refine W.region ?_
         refine S.pure tOk zOk rfl rfl rfl ?_
         refine S.pure tOk zOk rfl rfl rfl ?_
         refine loop_n ((Lib.split (vs.getD i Ver.z).e [46]).length - (j + 1)) (by omega) ⟨j + 1, hj, all_take_succ (d := []) hj f4_1 (word_t' c12), rfl, _, _, _, _, rfl, rfl, rfl, rfl, rfl, rfl, inc_i64 (by omega), trivial⟩
       ·skip
        have hj := row_ge c11
        refine W.exit ?_
        refine thenK_e ?_
        refine thenK_e ?_
        refine blockK_x ?_
        refine blockK_n ?_
        refine thenK_n ?_
        refine W.region ?_
        refine S.pure tOk zOk rfl rfl rfl ?_
        refine S.pure tOk zOk rfl rfl rfl ?_
        refine loop_n (vs.length - (i + 1)) (by omega) ⟨i + 1, hi, all_take_succ (d := 0) (by simpa using hi) f0_1 (verr_go hi (chk_ok c3 c5 c7 c9 (le_of c10) hj f4_1)), rfl, _, _, _, _, rfl, rfl, rfl, inc_i64 (by omega), trivial⟩
 ·skip
  have hi := row_ge c1
  refine W.exit ?_
  refine thenK_e ?_
  refine thenK_e ?_
  refine blockK_x ?_
  refine thenK_n ?_
  refine W.seq ?_
  refine W.region ?_
  refine S.pure tOk zOk rfl rfl rfl ?_
  refine thenK_n ?_
  refine W.ret ?_
  exact ⟨_, rfl, rfl, LeV.of_eq (congrArg (fun x => V.one (C.d (D.int .i64 x))) (firstNe_none (by simpa using hi) f0_1).symm)⟩
theorem pc_outref2_CompareOf (v w : Ver) (hv : v.e.length < 4294967281) (hw : w.e.length < 4294967281) :
  PureCall Tryz.prog J 15 [verV v, verV w] (.one (.d (.int .i64 (compareR v w)))) := by
 have hl := split_le v.e [46]
 have hl2 := split_le w.e [46]
 refine PureCall.of_body tOk (fn := Tryz.f15) Tryz.func15 (by kernel_rfl) rfl (Nat.le_of_ble_eq_true rfl) (fun E => ?_)
 refine W.seq ?_
 refine W.region ?_
 refine S.box rfl rfl rfl rfl ?_
 refine S.box rfl rfl rfl rfl ?_
 refine S.pure tOk zOk rfl rfl rfl ?_
 refine thenK_n ?_
 refine W.seq ?_
 refine W.seq ?_
 refine W.regionD mixed (by kernel_rfl) ?_
 refine D.pure tOk zOk rfl rfl rfl rfl ?_
 refine D.pure tOk zOk rfl rfl rfl rfl ?_
 refine D.pure tOk zOk rfl rfl rfl rfl ?_
 refine D.pure tOk zOk rfl rfl rfl rfl ?_
 refine D.call rfl rfl rfl rfl rfl (pc_cmpInt _ _) ?_
 refine D.pure tOk zOk rfl rfl rfl rfl ?_
 refine D.pure tOk zOk rfl rfl rfl rfl ?_
 refine D.pure tOk zOk rfl rfl rfl rfl ?_
 refine D.pure tOk zOk rfl rfl rfl rfl ?_
 refine D.call rfl rfl rfl rfl rfl (pc_cmpInt _ _) ?_
 refine D.pure tOk zOk rfl rfl rfl rfl ?_
 refine D.pure tOk zOk rfl rfl rfl rfl ?_
 refine D.pure tOk zOk rfl rfl rfl rfl ?_
 refine D.pure tOk zOk rfl rfl rfl rfl ?_
 refine D.call rfl rfl rfl rfl rfl (pc_cmpInt _ _) ?_
 refine D.slice tOk rfl rfl ?_
 refine D.call rfl rfl rfl rfl rfl (pc_cmp_Or_int_ [_, _, _] (by simp)) ?_
 refine D.pure tOk zOk rfl rfl rfl rfl ?_
 refine thenK_n ?_
 refine W.seq ?_
 refine W.region ?_
 refine S.pure tOk zOk rfl rfl rfl ?_
 refine S.pure tOk zOk rfl rfl rfl ?_
 refine thenK_n ?_
 refine W.cond rfl (fun c1 => ?_) (fun c1 => ?_)
 ·skip
  refine W.seq ?_
  refine W.region ?_
  refine S.pure tOk zOk rfl rfl rfl ?_
  refine S.pure tOk zOk rfl rfl rfl ?_
  refine thenK_n ?_
  refine W.ret ?_
  refine thenK_r ?_
  exact ⟨_, rfl, rfl, LeV.of_eq (congrArg (fun x => V.one (C.d (D.int .i64 x))) (cmp_1 c1).symm)⟩
 ·skip
  refine W.skip ?_
  refine thenK_n ?_
  refine W.seq ?_
  refine W.seq ?_
  refine W.region ?_
  refine S.pure tOk zOk rfl rfl rfl ?_
  refine S.pure tOk zOk rfl rfl rfl ?_
  refine S.pure tOk zOk rfl rfl rfl ?_
  refine S.pure tOk zOk rfl rfl rfl ?_
  refine S.pureG tOk zOk rfl rfl tg (fun _ => rfl) rfl ?_
  refine S.pureG tOk zOk rfl rfl tg (fun _ => rfl) rfl ?_
  refine S.pureG tOk zOk rfl rfl tg (fun _ => rfl) rfl ?_
  refine S.pickOr tOk zOk rfl rfl tg ?_
  refine thenK_n ?_
  refine W.cond rfl (fun c2 => ?_) (fun c2 => ?_)
  ·skip
   refine W.seq ?_
   refine W.region ?_
   refine S.pure tOk zOk rfl rfl rfl ?_
   refine S.pure tOk zOk rfl rfl rfl ?_
   refine S.pure tOk zOk rfl rfl rfl ?_
   refine S.pure tOk zOk rfl rfl rfl ?_
   refine S.pure tOk zOk rfl rfl rfl ?_
   refine S.pure tOk zOk rfl rfl rfl ?_
   refine S.pure tOk zOk rfl rfl rfl ?_
   refine S.pure tOk zOk rfl rfl rfl ?_
   refine S.call rfl rfl rfl rfl rfl (pc_cmpInt _ _) ?_
   refine S.pure tOk zOk rfl rfl rfl ?_
   refine thenK_n ?_
   refine W.ret ?_
   refine thenK_r ?_
   exact ⟨_, rfl, rfl, LeV.of_eq (congrArg (fun x => V.one (C.d (D.int .i64 x))) (cmp_2 c1 c2).symm)⟩
  ·skip
   refine W.skip ?_
   refine thenK_n ?_
   refine W.seq ?_
   refine W.regionD mixed (by kernel_rfl) ?_
   refine D.pure tOk zOk rfl rfl rfl rfl ?_
   refine D.pure tOk zOk rfl rfl rfl rfl ?_
   refine D.call rfl rfl rfl rfl rfl (pc_Split _ _ hv (by decide)) ?_
   refine D.pure tOk zOk rfl rfl rfl rfl ?_
   refine D.pure tOk zOk rfl rfl rfl rfl ?_
   refine D.call rfl rfl rfl rfl rfl (pc_Split _ _ hw (by decide)) ?_
   refine D.pure tOk zOk rfl rfl rfl rfl ?_
   refine D.pure tOk zOk rfl rfl rfl rfl ?_
   refine thenK_n ?_
   refine W.seq ?_
   refine W.seq ?_
   refine W.region ?_
   refine S.pure tOk zOk rfl rfl rfl ?_
   refine S.pure tOk zOk rfl rfl rfl ?_
   refine S.pure tOk zOk rfl rfl rfl ?_
   refine S.pure tOk zOk rfl rfl rfl ?_
   refine S.pure tOk zOk rfl rfl rfl ?_
   refine S.pure tOk zOk rfl rfl rfl ?_
   refine thenK_n ?_
   refine W.block ?_
   refine W.loop (fun k st => ∃ i : Nat, i ≤ (Lib.split v.e [46]).length ∧ ((List.zipWith cwR (Lib.split v.e [46]) (Lib.split w.e [46])).take i).all (· == 0) = true ∧ k = (Lib.split v.e [46]).length - i ∧ ∃ t b2 r2 m2, st = ⟨t, [] ++ b2, [] ++ r2, [] ++ m2⟩ ∧ holdsL t [(6, .one (.d (.vec 1 ((Lib.split v.e [46]).map fun x => [.str x])))), (7, .one (.d (.vec 1 ((Lib.split w.e [46]).map fun x => [.str x])))), (63, .one (.d (.int .i64 (if (((Lib.split w.e [46]).map fun x => [D.str x]).length : Int) < (((Lib.split v.e [46]).map fun x => [D.str x]).length : Int) then (((Lib.split w.e [46]).map fun x => [D.str x]).length : Int) else (((Lib.split v.e [46]).map fun x => [D.str x]).length : Int))))), (64, .one (.d (.int .i64 (i : Int))))]) ((Lib.split v.e [46]).length) ⟨0, Nat.zero_le _, by simp, rfl, _, _, _, _, rfl, rfl, rfl, rfl, rfl, trivial⟩ ?_
   rintro k0 _ ⟨i, f0_0, f0_1, rfl, t0, bb0, rr0, mm0, rfl, hh0⟩
   refine W.keepR _ _ _ _ _ _ _ hh0 rfl ?_
   refine W.seq ?_
   refine W.region ?_
   refine S.pure tOk zOk rfl rfl rfl ?_
   refine thenK_n ?_
   refine W.seq ?_
   refine W.cond rfl (fun c3 => ?_) (fun c3 => ?_)
   ·skip
    have hi := min_lt (xs := (Lib.split v.e [46])) (ys := (Lib.split w.e [46])) (by simp) (by simp) c3
    refine W.skip ?_
    refine thenK_n ?_
    refine W.seq ?_
    refine W.block ?_
    refine W.seq ?_
    refine W.region ?_
    refine S.pure tOk zOk rfl rfl rfl ?_
    refine S.pure tOk zOk rfl rfl rfl ?_
    refine thenK_n ?_
    refine W.seq ?_
    refine W.regionD mixed (by kernel_rfl) ?_
    refine D.pure tOk zOk rfl rfl rfl rfl ?_
    refine D.pure tOk zOk rfl rfl rfl rfl ?_
    refine D.pureE tOk zOk rfl rfl (row_ok hi.1) (row_at [] hi.1) rfl ?_
    refine D.pure tOk zOk rfl rfl rfl rfl ?_
    refine D.call rfl rfl rfl rfl rfl (pc_outref2_Of _ digitS (by decide) (by decide) (by have := @split_at v.e [46] i; omega)) ?_
    refine D.pure tOk zOk rfl rfl rfl rfl ?_
    refine D.pure tOk zOk rfl rfl rfl rfl ?_
    refine D.pureE tOk zOk rfl rfl (row_ok hi.2) (row_at [] hi.2) rfl ?_
    refine D.pure tOk zOk rfl rfl rfl rfl ?_
    refine D.call rfl rfl rfl rfl rfl (pc_outref2_Of _ digitS (by decide) (by decide) (by have := @split_at w.e [46] i; omega)) ?_
    refine D.pure tOk zOk rfl rfl rfl rfl ?_
    refine D.pure tOk zOk rfl rfl rfl rfl ?_
    refine thenK_n ?_
    refine W.seq ?_
    refine W.region ?_
    refine S.pure tOk zOk rfl rfl rfl ?_
    refine S.pure tOk zOk rfl rfl rfl ?_
    refine S.pureE tOk zOk rfl (row_ok hi.1) (row_at [] hi.1) rfl ?_
    refine S.pure tOk zOk rfl rfl rfl ?_
    refine S.call rfl rfl rfl rfl rfl (pc_Atoi _ (by have := @split_at v.e [46] i; omega)) ?_
    refine S.pure tOk zOk rfl rfl rfl ?_
    refine S.pure tOk zOk rfl rfl rfl ?_
    refine S.pure tOk zOk rfl rfl rfl ?_
    refine S.pure tOk zOk rfl rfl rfl ?_
    refine S.pure tOk zOk rfl rfl rfl ?_
    refine thenK_n ?_
    refine W.seq ?_
    refine W.region ?_
    refine S.pure tOk zOk rfl rfl rfl ?_
    refine S.pure tOk zOk rfl rfl rfl ?_
    refine S.pureE tOk zOk rfl (row_ok hi.2) (row_at [] hi.2) rfl ?_
    refine S.pure tOk zOk rfl rfl rfl ?_
    refine S.call rfl rfl rfl rfl rfl (pc_Atoi _ (by have := @split_at w.e [46] i; omega)) ?_
    refine S.pure tOk zOk rfl rfl rfl ?_
    refine S.pure tOk zOk rfl rfl rfl ?_
    refine S.pure tOk zOk rfl rfl rfl ?_
    refine S.pure tOk zOk rfl rfl rfl ?_
    refine S.pure tOk zOk rfl rfl rfl ?_
    refine thenK_n ?_
    refine W.seq ?_
    refine W.regionD mixed (by kernel_rfl) ?_
    refine D.pure tOk zOk rfl rfl rfl rfl ?_
    refine D.pure tOk zOk rfl rfl rfl rfl ?_
    refine D.pureE tOk zOk rfl rfl (row_ok hi.1) (row_at [] hi.1) rfl ?_
    refine D.pure tOk zOk rfl rfl rfl rfl ?_
    refine D.pure tOk zOk rfl rfl rfl rfl ?_
    refine D.pure tOk zOk rfl rfl rfl rfl ?_
    refine D.pureE tOk zOk rfl rfl (row_ok hi.2) (row_at [] hi.2) rfl ?_
    refine D.pure tOk zOk rfl rfl rfl rfl ?_
    refine D.call rfl rfl rfl rfl rfl (pc_Compare _ _) ?_
    refine D.pure tOk zOk rfl rfl rfl rfl ?_
    refine thenK_n ?_
    refine W.seq ?_
    refine W.block ?_
    refine W.seq ?_
    refine W.region ?_
    refine S.pure tOk zOk rfl rfl rfl ?_
    refine S.pure tOk zOk rfl rfl rfl ?_
    refine S.pureG tOk zOk rfl rfl tg (fun _ => rfl) rfl ?_
    refine S.pickAnd tOk zOk rfl rfl tg ?_
    refine S.pure tOk zOk rfl rfl rfl ?_
    refine thenK_n ?_
    refine W.cond rfl (fun c4 => ?_) (fun c4 => ?_)
    ·skip
     refine W.region ?_
     refine S.pure tOk zOk rfl rfl rfl ?_
     refine S.pure tOk zOk rfl rfl rfl ?_
     refine S.call rfl rfl rfl rfl rfl (pc_cmpInt _ _) ?_
     refine S.pure tOk zOk rfl rfl rfl ?_
     refine blockK_n ?_
     refine thenK_n ?_
     refine W.seq ?_
     refine W.region ?_
     refine S.pure tOk zOk rfl rfl rfl ?_
     refine S.pure tOk zOk rfl rfl rfl ?_
     refine thenK_n ?_
     refine W.cond rfl (fun c5 => ?_) (fun c5 => ?_)
     ·skip
      refine W.seq ?_
      refine W.region ?_
      refine S.pure tOk zOk rfl rfl rfl ?_
      refine S.pure tOk zOk rfl rfl rfl ?_
      refine thenK_n ?_
      refine W.ret ?_
      refine blockK_r ?_
      refine thenK_r ?_
      refine thenK_r ?_
      refine blockK_r ?_
      refine thenK_r ?_
      exact ⟨_, rfl, rfl, LeV.of_eq (congrArg (fun x => V.one (C.d (D.int .i64 x))) ((cmp_3 c1 c2).trans (cw_hit hi f0_1 (cw_pq c4) c5)).symm)⟩
     ·skip
      refine W.skip ?_
      refine blockK_n ?_
      refine thenK_n ?_
      refine W.region ?_
      refine S.pure tOk zOk rfl rfl rfl ?_
      refine S.pure tOk zOk rfl rfl rfl ?_
      refine loop_n ((Lib.split v.e [46]).length - (i + 1)) (by omega) ⟨i + 1, by omega, all_take_succ (d := 0) (cw_lt hi) f0_1 (cw_go hi (cw_pq c4) c5), rfl, _, _, _, _, rfl, rfl, rfl, rfl, inc_i64 (by omega), trivial⟩
    ·skip
     refine W.seq ?_
     refine W.region ?_
     refine S.pure tOk zOk rfl rfl rfl ?_
     refine S.pure tOk zOk rfl rfl rfl ?_
     refine thenK_n ?_
     refine W.cond rfl (fun c6 => ?_) (fun c6 => ?_)
     ·skip
      refine W.region ?_
      refine S.pure tOk zOk rfl rfl rfl ?_
      refine blockK_n ?_
      refine thenK_n ?_
      refine W.seq ?_
      refine W.region ?_
      refine S.pure tOk zOk rfl rfl rfl ?_
      refine S.pure tOk zOk rfl rfl rfl ?_
      refine thenK_n ?_
      refine W.cond rfl (fun c7 => ?_) (fun c7 => ?_)
      ·skip
       refine W.seq ?_
       refine W.region ?_
       refine S.pure tOk zOk rfl rfl rfl ?_
       refine S.pure tOk zOk rfl rfl rfl ?_
       refine thenK_n ?_
       refine W.ret ?_
       refine blockK_r ?_
       refine thenK_r ?_
       refine thenK_r ?_
       refine blockK_r ?_
       refine thenK_r ?_
       exact ⟨_, rfl, rfl, LeV.of_eq (congrArg (fun x => V.one (C.d (D.int .i64 x))) ((cmp_3 c1 c2).trans (cw_hit hi f0_1 (cw_p c4 c6) c7)).symm)⟩
      ·skip
       refine W.skip ?_
       refine blockK_n ?_
       refine thenK_n ?_
       refine W.region ?_
       refine S.pure tOk zOk rfl rfl rfl ?_
       refine S.pure tOk zOk rfl rfl rfl ?_
       refine loop_n ((Lib.split v.e [46]).length - (i + 1)) (by omega) ⟨i + 1, by omega, all_take_succ (d := 0) (cw_lt hi) f0_1 (cw_go hi (cw_p c4 c6) c7), rfl, _, _, _, _, rfl, rfl, rfl, rfl, inc_i64 (by omega), trivial⟩
     ·skip
      refine W.seq ?_
      refine W.region ?_
      refine S.pure tOk zOk rfl rfl rfl ?_
      refine S.pure tOk zOk rfl rfl rfl ?_
      refine thenK_n ?_
      refine W.cond rfl (fun c8 => ?_) (fun c8 => ?_)
      ·skip
       refine W.region ?_
       refine S.pure tOk zOk rfl rfl rfl ?_
       refine blockK_n ?_
       refine thenK_n ?_
       refine W.seq ?_
       refine W.region ?_
       refine S.pure tOk zOk rfl rfl rfl ?_
       refine S.pure tOk zOk rfl rfl rfl ?_
       refine thenK_n ?_
       refine W.cond rfl (fun c9 => ?_) (fun c9 => ?_)
       ·skip
        refine W.seq ?_
        refine W.region ?_
        refine S.pure tOk zOk rfl rfl rfl ?_
        refine S.pure tOk zOk rfl rfl rfl ?_
        refine thenK_n ?_
        refine W.ret ?_
        refine blockK_r ?_
        refine thenK_r ?_
        refine thenK_r ?_
        refine blockK_r ?_
        refine thenK_r ?_
        exact ⟨_, rfl, rfl, LeV.of_eq (congrArg (fun x => V.one (C.d (D.int .i64 x))) ((cmp_3 c1 c2).trans (cw_hit hi f0_1 (cw_q c4 c6 c8) c9)).symm)⟩
       ·skip
        refine W.skip ?_
        refine blockK_n ?_
        refine thenK_n ?_
        refine W.region ?_
        refine S.pure tOk zOk rfl rfl rfl ?_
        refine S.pure tOk zOk rfl rfl rfl ?_
        refine loop_n ((Lib.split v.e [46]).length - (i + 1)) (by omega) ⟨i + 1, by omega, all_take_succ (d := 0) (cw_lt hi) f0_1 (cw_go hi (cw_q c4 c6 c8) c9), rfl, _, _, _, _, rfl, rfl, rfl, rfl, inc_i64 (by omega), trivial⟩
      ·skip
       refine W.skip ?_
       refine blockK_n ?_
       refine thenK_n ?_
       refine W.seq ?_
       refine W.region ?_
       refine S.pure tOk zOk rfl rfl rfl ?_
       refine S.pure tOk zOk rfl rfl rfl ?_
       refine thenK_n ?_
       refine W.cond rfl (fun c10 => ?_) (fun c10 => ?_)
       ·skip
        refine W.seq ?_
        refine W.region ?_
        refine S.pure tOk zOk rfl rfl rfl ?_
        refine S.pure tOk zOk rfl rfl rfl ?_
        refine thenK_n ?_
        refine W.ret ?_
        refine blockK_r ?_
        refine thenK_r ?_
        refine thenK_r ?_
        refine blockK_r ?_
        refine thenK_r ?_
        exact ⟨_, rfl, rfl, LeV.of_eq (congrArg (fun x => V.one (C.d (D.int .i64 x))) ((cmp_3 c1 c2).trans (cw_hit hi f0_1 (cw_n c4 c6 c8) c10)).symm)⟩
       ·skip
        refine W.skip ?_
        refine blockK_n ?_
        refine thenK_n ?_
        refine W.region ?_
        refine S.pure tOk zOk rfl rfl rfl ?_
        refine S.pure tOk zOk rfl rfl rfl ?_
        refine loop_n ((Lib.split v.e [46]).length - (i + 1)) (by omega) ⟨i + 1, by omega, all_take_succ (d := 0) (cw_lt hi) f0_1 (cw_go hi (cw_n c4 c6 c8) c10), rfl, _, _, _, _, rfl, rfl, rfl, rfl, inc_i64 (by omega), trivial⟩
   ·skip
    have hi := min_ge (xs := (Lib.split v.e [46])) (ys := (Lib.split w.e [46])) (by simp) (by simp) c3
    refine W.exit ?_
    refine thenK_e ?_
    refine thenK_e ?_
    refine blockK_x ?_
    refine thenK_n ?_
    refine W.seq ?_
    refine W.region ?_
    refine S.pure tOk zOk rfl rfl rfl ?_
    refine S.pure tOk zOk rfl rfl rfl ?_
    refine S.pure tOk zOk rfl rfl rfl ?_
    refine S.pure tOk zOk rfl rfl rfl ?_
    refine S.call rfl rfl rfl rfl rfl (pc_cmpInt _ _) ?_
    refine S.pure tOk zOk rfl rfl rfl ?_
    refine thenK_n ?_
    refine W.ret ?_
    exact ⟨_, rfl, rfl, LeV.of_force rfl (by rw [(cmp_3 c1 c2).trans (cw_end hi f0_1)]; simp)⟩
end Go.Proofs.YtlkhdembbogcaaaGreatDoor

/- Plain words on versions: what is printed is read again. -/
set_option linter.unusedVariables false
set_option linter.unusedSimpArgs false
namespace Go.Proofs.YtlkhdembbogcaaaGreatDoor
open Go
def firstB (a b : Int) : Int := if a != 0 then a else b
theorem first2 (a b : Int) : firstNe [a, b] = firstB a b := by
  unfold firstNe firstB
  by_cases ha : a = 0 <;> by_cases hb : b = 0 <;> simp [ha, hb, bne_iff_ne]
theorem first1 (a : Int) : firstNe [a] = a := by
  unfold firstNe
  by_cases ha : a = 0 <;> simp [ha, bne_iff_ne]
def partE (p : Int) : Int := if !inB p 0 2 then 3 else 0
section
variable {v : Ver} {p : Int}
theorem part_ok (h : (firstB v.check (partE p) != 0) = false) : v.check = 0 ∧ 0 ≤ p ∧ p ≤ 2 := by
  unfold firstB partE at h
  by_cases hc : v.check = 0
  · simp [hc] at h
    unfold inB at h
    simp at h
    exact ⟨hc, by omega⟩
  · simp [hc] at h
theorem nxt_err (h : (firstB v.check (partE p) != 0) = true) : nextB v p = (Ver.z, firstB v.check (partE p)) := by
  unfold nextB
  by_cases hc : v.check = 0
  · have hp : partE p = 3 ∧ ¬ (0 ≤ p ∧ p ≤ 2) := by
      unfold firstB at h
      simp [hc] at h
      unfold partE at h ⊢
      cases hi : inB p 0 2 with
      | true => simp [hi] at h
      | false => unfold inB at hi; simp at hi; exact ⟨rfl, by omega⟩
    have h0 : (p == 0) = false := by simp; omega
    have h1 : (p == 1) = false := by simp; omega
    have h2 : (p == 2) = false := by simp; omega
    unfold firstB
    rw [hc, h0, h1, h2, hp.1]; rfl
  · unfold firstB
    rw [if_pos (by simpa using hc), if_pos (by simpa using hc)]
theorem nxt_0 (h : (firstB v.check (partE p) != 0) = false) (h0 : (p == 0) = true) : nextB v p = nextOk (w1 v.a) 0 0 := by
  unfold nextB
  rw [(part_ok h).1, h0]; rfl
theorem nxt_1 (h : (firstB v.check (partE p) != 0) = false) (h0 : (p == 0) = false) (h1 : (p == 1) = true) : nextB v p = nextOk v.a (w1 v.b) 0 := by
  unfold nextB
  rw [(part_ok h).1, h0, h1]; rfl
theorem two_of (h : (firstB v.check (partE p) != 0) = false) (h0 : (p == 0) = false) (h1 : (p == 1) = false) : (p == 2) = true := by
  have := part_ok h
  simp at h0 h1 ⊢; omega
theorem nxt_2 (h : (firstB v.check (partE p) != 0) = false) (h0 : (p == 0) = false) (h1 : (p == 1) = false) (h2 : (!(!(v.e == []))) = true) : nextB v p = nextOk v.a v.b (w1 v.c) := by
  unfold nextB
  rw [(part_ok h).1, h0, h1, two_of h h0 h1]
  rw [Bool.not_not] at h2
  rw [h2]; rfl
theorem nxt_3 (h : (firstB v.check (partE p) != 0) = false) (h0 : (p == 0) = false) (h1 : (p == 1) = false) (h2 : (!(!(v.e == []))) = false) : nextB v p = nextOk v.a v.b v.c := by
  unfold nextB
  rw [(part_ok h).1, h0, h1, two_of h h0 h1]
  rw [Bool.not_not] at h2
  rw [h2]; rfl
theorem nextOk_err {x y z : Int} (h : (checkB x y z [] != 0) = true) : nextOk x y z = (Ver.z, checkB x y z []) := by
  unfold nextOk
  rw [if_pos h, checkB_nil x y z (by simpa using h)]
theorem nextOk_ok {x y z : Int} (h : (checkB x y z [] != 0) = false) : nextOk x y z = (⟨x, y, z, []⟩, 0) := if_neg (Bool.eq_false_iff.1 h)
end
end Go.Proofs.YtlkhdembbogcaaaGreatDoor

set_option linter.unusedVariables false
set_option linter.unusedSimpArgs false
set_option maxRecDepth 100000
set_option maxHeartbeats 4000000
namespace Go.Proofs.YtlkhdembbogcaaaGreatDoor
open Go
open Go.RowKit
theorem pc_verr1 (v : Ver) (he : v.e.length < 4294967281) : PureCall Tryz.prog J 21 [.one (.d (.vec 4 [verD v]))] (.one (.d (.int .i64 v.check))) := by
  have h := pc_outref2_VersionError [v] (by simp) (by simpa using he)
  rw [show firstNe ([v].map Ver.check) = v.check from first1 _] at h
  exact h
theorem pc_first2 (a b : Int) : PureCall Tryz.prog J 7 [.one (.d (.vec 1 [[.int .i64 a], [.int .i64 b]]))] (.one (.d (.int .i64 (firstB a b)))) := by
  have h := pc_outref2_First [a, b] (by simp)
  rw [first2] at h
  exact h
theorem pc_num9 (s : List UInt8) (hs : s.length < 4294967281) : PureCall Tryz.prog J 182 [.one (.d (.str s)), .one (.d (.int .i64 9))] (.tup [.one (.d (.int .i64 (numB s).1)), .one (.d (.bool (numB s).2))]) := by
  have h := pc_outref2_Number s 9 (by decide) hs
  rw [numR_eq] at h
  exact h
theorem pc_outref2_NextOf (v : Ver) (he : v.e.length < 4294967281) (p : Int) :
  PureCall Tryz.prog J 221 [verV v, .one (.d (.int .i64 p))] (.tup [verV (nextB v p).1, .one (.d (.int .i64 (nextB v p).2))]) := by
 refine PureCall.of_body tOk (fn := Tryz.f221) Tryz.func221 (by kernel_rfl) rfl (Nat.le_of_ble_eq_true rfl) (fun E => ?_)
 refine W.seq ?_
 refine W.region ?_
 refine S.box rfl rfl rfl rfl ?_
 refine S.alloc tOk rfl rfl rfl rfl ?_
 refine S.pure tOk zOk rfl rfl rfl ?_
 refine thenK_n ?_
 refine W.seq ?_
 refine W.seq ?_
 refine W.region ?_
 refine S.pure tOk zOk rfl rfl rfl ?_
 refine S.slice tOk rfl rfl ?_
 refine S.call rfl rfl rfl rfl rfl (pc_verr1 v he) ?_
 refine S.pure tOk zOk rfl rfl rfl ?_
 refine S.call rfl rfl rfl rfl rfl (pc_outref2_In _ _ _) ?_
 refine S.pure tOk zOk rfl rfl rfl ?_
 refine S.call rfl rfl rfl rfl rfl (pc_outref2_When _ _) ?_
 refine S.slice tOk rfl rfl ?_
 refine S.call rfl rfl rfl rfl rfl (pc_first2 v.check (partE p)) ?_
 refine S.pure tOk zOk rfl rfl rfl ?_
 refine thenK_n ?_
 refine W.seq ?_
 refine W.region ?_
 refine S.pure tOk zOk rfl rfl rfl ?_
 refine S.pure tOk zOk rfl rfl rfl ?_
 refine thenK_n ?_
 refine W.cond rfl (fun c1 => ?_) (fun c1 => ?_)
 ·skip
  refine W.seq ?_
  refine W.region ?_
  refine S.pure tOk zOk rfl rfl rfl ?_
  refine S.pure tOk zOk rfl rfl rfl ?_
  refine S.store tOk rfl rfl rfl rfl rfl rfl rfl rfl ?_
  refine S.pure tOk zOk rfl rfl rfl ?_
  refine thenK_n ?_
  refine W.ret ?_
  refine thenK_r ?_
  exact ⟨_, rfl, rfl, LeV.of_force rfl (by rw [nxt_err c1]; rfl)⟩
 ·skip
  refine W.skip ?_
  refine thenK_n ?_
  refine W.seq ?_
  refine W.region ?_
  refine S.pure tOk zOk rfl rfl rfl ?_
  refine S.pure tOk zOk rfl rfl rfl ?_
  refine S.pure tOk zOk rfl rfl rfl ?_
  refine S.pure tOk zOk rfl rfl rfl ?_
  refine thenK_n ?_
  refine W.seq ?_
  refine W.region ?_
  refine S.pure tOk zOk rfl rfl rfl ?_
  refine S.store tOk rfl rfl rfl rfl rfl rfl rfl rfl ?_
  refine thenK_n ?_
  refine W.seq ?_
  refine W.block ?_
  refine W.seq ?_
  refine W.region ?_
  refine S.pure tOk zOk rfl rfl rfl ?_
  refine S.pure tOk zOk rfl rfl rfl ?_
  refine S.pure tOk zOk rfl rfl rfl ?_
  refine thenK_n ?_
  refine W.cond rfl (fun c2 => ?_) (fun c2 => ?_)
  ·skip
   refine W.region ?_
   refine S.pure tOk zOk rfl rfl rfl ?_
   refine S.pure tOk zOk rfl rfl rfl ?_
   refine S.pure tOk zOk rfl rfl rfl ?_
   refine S.pure tOk zOk rfl rfl rfl ?_
   refine S.store tOk rfl rfl rfl rfl rfl rfl rfl rfl ?_
   refine blockK_n ?_
   refine thenK_n ?_
   refine W.seq ?_
   refine W.seq ?_
   refine W.region ?_
   refine S.pure tOk zOk rfl rfl rfl ?_
   refine S.slice tOk rfl rfl ?_
   refine S.call rfl rfl rfl rfl rfl (pc_verr1 ⟨w1 v.a, 0, 0, []⟩ (by decide : ([] : List UInt8).length < _)) ?_
   refine S.pure tOk zOk rfl rfl rfl ?_
   refine thenK_n ?_
   refine W.seq ?_
   refine W.region ?_
   refine S.pure tOk zOk rfl rfl rfl ?_
   refine S.pure tOk zOk rfl rfl rfl ?_
   refine thenK_n ?_
   refine W.cond rfl (fun c3 => ?_) (fun c3 => ?_)
   ·skip
    refine W.seq ?_
    refine W.region ?_
    refine S.pure tOk zOk rfl rfl rfl ?_
    refine S.pure tOk zOk rfl rfl rfl ?_
    refine S.store tOk rfl rfl rfl rfl rfl rfl rfl rfl ?_
    refine S.pure tOk zOk rfl rfl rfl ?_
    refine thenK_n ?_
    refine W.ret ?_
    refine thenK_r ?_
    exact ⟨_, rfl, rfl, LeV.of_force rfl (by rw [(nxt_0 c1 c2).trans (nextOk_err c3)]; rfl)⟩
   ·skip
    refine W.skip ?_
    refine thenK_n ?_
    refine W.seq ?_
    refine W.region ?_
    refine S.pure tOk zOk rfl rfl rfl ?_
    refine S.store tOk rfl rfl rfl rfl rfl rfl rfl rfl ?_
    refine S.pure tOk zOk rfl rfl rfl ?_
    refine thenK_n ?_
    refine W.ret ?_
    exact ⟨_, rfl, rfl, LeV.of_force rfl (by rw [(nxt_0 c1 c2).trans (nextOk_ok c3)]; rfl)⟩
  ·skip
   refine W.seq ?_
   refine W.region ?_
   refine S.pure tOk zOk rfl rfl rfl ?_
   refine S.pure tOk zOk rfl rfl rfl ?_
   refine S.pure tOk zOk rfl rfl rfl ?_
   refine thenK_n ?_
   refine W.cond rfl (fun c4 => ?_) (fun c4 => ?_)
   ·skip
    refine W.region ?_
    refine S.pure tOk zOk rfl rfl rfl ?_
    refine S.pure tOk zOk rfl rfl rfl ?_
    refine S.pure tOk zOk rfl rfl rfl ?_
    refine S.pure tOk zOk rfl rfl rfl ?_
    refine S.pure tOk zOk rfl rfl rfl ?_
    refine S.pure tOk zOk rfl rfl rfl ?_
    refine S.store tOk rfl rfl rfl rfl rfl rfl rfl rfl ?_
    refine blockK_n ?_
    refine thenK_n ?_
    refine W.seq ?_
    refine W.seq ?_
    refine W.region ?_
    refine S.pure tOk zOk rfl rfl rfl ?_
    refine S.slice tOk rfl rfl ?_
    refine S.call rfl rfl rfl rfl rfl (pc_verr1 ⟨v.a, w1 v.b, 0, []⟩ (by decide : ([] : List UInt8).length < _)) ?_
    refine S.pure tOk zOk rfl rfl rfl ?_
    refine thenK_n ?_
    refine W.seq ?_
    refine W.region ?_
    refine S.pure tOk zOk rfl rfl rfl ?_
    refine S.pure tOk zOk rfl rfl rfl ?_
    refine thenK_n ?_
    refine W.cond rfl (fun c5 => ?_) (fun c5 => ?_)
    ·skip
     refine W.seq ?_
     refine W.region ?_
     refine S.pure tOk zOk rfl rfl rfl ?_
     refine S.pure tOk zOk rfl rfl rfl ?_
     refine S.store tOk rfl rfl rfl rfl rfl rfl rfl rfl ?_
     refine S.pure tOk zOk rfl rfl rfl ?_
     refine thenK_n ?_
     refine W.ret ?_
     refine thenK_r ?_
     exact ⟨_, rfl, rfl, LeV.of_force rfl (by rw [(nxt_1 c1 c2 c4).trans (nextOk_err c5)]; rfl)⟩
    ·skip
     refine W.skip ?_
     refine thenK_n ?_
     refine W.seq ?_
     refine W.region ?_
     refine S.pure tOk zOk rfl rfl rfl ?_
     refine S.store tOk rfl rfl rfl rfl rfl rfl rfl rfl ?_
     refine S.pure tOk zOk rfl rfl rfl ?_
     refine thenK_n ?_
     refine W.ret ?_
     exact ⟨_, rfl, rfl, LeV.of_force rfl (by rw [(nxt_1 c1 c2 c4).trans (nextOk_ok c5)]; rfl)⟩
   ·skip
    refine W.seq ?_
    refine W.region ?_
    refine S.pure tOk zOk rfl rfl rfl ?_
    refine S.pure tOk zOk rfl rfl rfl ?_
    refine S.pure tOk zOk rfl rfl rfl ?_
    refine thenK_n ?_
    refine W.cond rfl (fun c6 => ?_) (fun c6 => ?_)
    ·skip
     refine W.region ?_
     refine S.pure tOk zOk rfl rfl rfl ?_
     refine S.pure tOk zOk rfl rfl rfl ?_
     refine S.pure tOk zOk rfl rfl rfl ?_
     refine S.pure tOk zOk rfl rfl rfl ?_
     refine S.store tOk rfl rfl rfl rfl rfl rfl rfl rfl ?_
     refine blockK_n ?_
     refine thenK_n ?_
     refine W.seq ?_
     refine W.seq ?_
     refine W.region ?_
     refine S.pure tOk zOk rfl rfl rfl ?_
     refine S.slice tOk rfl rfl ?_
     refine S.call rfl rfl rfl rfl rfl (pc_verr1 ⟨v.a, v.b, w1 v.c, []⟩ (by decide : ([] : List UInt8).length < _)) ?_
     refine S.pure tOk zOk rfl rfl rfl ?_
     refine thenK_n ?_
     refine W.seq ?_
     refine W.region ?_
     refine S.pure tOk zOk rfl rfl rfl ?_
     refine S.pure tOk zOk rfl rfl rfl ?_
     refine thenK_n ?_
     refine W.cond rfl (fun c7 => ?_) (fun c7 => ?_)
     ·skip
      refine W.seq ?_
      refine W.region ?_
      refine S.pure tOk zOk rfl rfl rfl ?_
      refine S.pure tOk zOk rfl rfl rfl ?_
      refine S.store tOk rfl rfl rfl rfl rfl rfl rfl rfl ?_
      refine S.pure tOk zOk rfl rfl rfl ?_
      refine thenK_n ?_
      refine W.ret ?_
      refine thenK_r ?_
      exact ⟨_, rfl, rfl, LeV.of_force rfl (by rw [(nxt_2 c1 c2 c4 c6).trans (nextOk_err c7)]; rfl)⟩
     ·skip
      refine W.skip ?_
      refine thenK_n ?_
      refine W.seq ?_
      refine W.region ?_
      refine S.pure tOk zOk rfl rfl rfl ?_
      refine S.store tOk rfl rfl rfl rfl rfl rfl rfl rfl ?_
      refine S.pure tOk zOk rfl rfl rfl ?_
      refine thenK_n ?_
      refine W.ret ?_
      exact ⟨_, rfl, rfl, LeV.of_force rfl (by rw [(nxt_2 c1 c2 c4 c6).trans (nextOk_ok c7)]; rfl)⟩
    ·skip
     refine W.skip ?_
     refine blockK_n ?_
     refine thenK_n ?_
     refine W.seq ?_
     refine W.seq ?_
     refine W.region ?_
     refine S.pure tOk zOk rfl rfl rfl ?_
     refine S.slice tOk rfl rfl ?_
     refine S.call rfl rfl rfl rfl rfl (pc_verr1 ⟨v.a, v.b, v.c, []⟩ (by decide : ([] : List UInt8).length < _)) ?_
     refine S.pure tOk zOk rfl rfl rfl ?_
     refine thenK_n ?_
     refine W.seq ?_
     refine W.region ?_
     refine S.pure tOk zOk rfl rfl rfl ?_
     refine S.pure tOk zOk rfl rfl rfl ?_
     refine thenK_n ?_
     refine W.cond rfl (fun c8 => ?_) (fun c8 => ?_)
     ·skip
      refine W.seq ?_
      refine W.region ?_
      refine S.pure tOk zOk rfl rfl rfl ?_
      refine S.pure tOk zOk rfl rfl rfl ?_
      refine S.store tOk rfl rfl rfl rfl rfl rfl rfl rfl ?_
      refine S.pure tOk zOk rfl rfl rfl ?_
      refine thenK_n ?_
      refine W.ret ?_
      refine thenK_r ?_
      exact ⟨_, rfl, rfl, LeV.of_force rfl (by rw [(nxt_3 c1 c2 c4 c6).trans (nextOk_err c8)]; rfl)⟩
     ·skip
      refine W.skip ?_
      refine thenK_n ?_
      refine W.seq ?_
      refine W.region ?_
      refine S.pure tOk zOk rfl rfl rfl ?_
      refine S.store tOk rfl rfl rfl rfl rfl rfl rfl rfl ?_
      refine S.pure tOk zOk rfl rfl rfl ?_
      refine thenK_n ?_
      refine W.ret ?_
      exact ⟨_, rfl, rfl, LeV.of_force rfl (by rw [(nxt_3 c1 c2 c4 c6).trans (nextOk_ok c8)]; rfl)⟩
theorem pc_outref2_ReadVersion (s : List UInt8) (hs : s.length < 4294967281) :
  PureCall Tryz.prog J 128 [.one (.d (.str s))] (.tup [verV (parseB s).1, .one (.d (.int .i64 (parseB s).2))]) := by
 have hc := cut_le s [45]
 have hm := fun i => @split_at (Lib.cut s [45]).1 [46] i
 have hsp := pc_Split (Lib.cut s [45]).1 [46] (by omega) (by decide)
 unfold parseB
 generalize hws : Lib.split (Lib.cut s [45]).1 [46] = ws at hm hsp ⊢
 refine PureCall.of_body tOk (fn := Tryz.f128) Tryz.func128 (by kernel_rfl) rfl (Nat.le_of_ble_eq_true rfl) (fun E => ?_)
 refine W.seq ?_
 refine W.region ?_
 refine S.alloc tOk rfl rfl rfl rfl ?_
 refine S.pure tOk zOk rfl rfl rfl ?_
 refine thenK_n ?_
 refine W.seq ?_
 refine W.region ?_
 refine S.pure tOk zOk rfl rfl rfl ?_
 refine S.call rfl rfl rfl rfl rfl (pc_Cut _ _ hs) ?_
 refine S.pure tOk zOk rfl rfl rfl ?_
 refine S.pure tOk zOk rfl rfl rfl ?_
 refine S.pure tOk zOk rfl rfl rfl ?_
 refine S.pure tOk zOk rfl rfl rfl ?_
 refine S.pure tOk zOk rfl rfl rfl ?_
 refine S.pure tOk zOk rfl rfl rfl ?_
 refine S.pure tOk zOk rfl rfl rfl ?_
 refine thenK_n ?_
 refine W.seq ?_
 refine W.region ?_
 refine S.pure tOk zOk rfl rfl rfl ?_
 refine S.call rfl rfl rfl rfl rfl (hsp) ?_
 refine S.pure tOk zOk rfl rfl rfl ?_
 refine thenK_n ?_
 refine W.seq ?_
 refine W.seq ?_
 refine W.region ?_
 refine S.pure tOk zOk rfl rfl rfl ?_
 refine S.pure tOk zOk rfl rfl rfl ?_
 refine S.pure tOk zOk rfl rfl rfl ?_
 refine S.pure tOk zOk rfl rfl rfl ?_
 refine S.pureG tOk zOk rfl rfl tg (fun _ => rfl) rfl ?_
 refine S.pureG tOk zOk rfl rfl tg (fun _ => rfl) rfl ?_
 refine S.pureG tOk zOk rfl rfl tg (fun _ => rfl) rfl ?_
 refine S.pureG tOk zOk rfl rfl tg (fun _ => rfl) rfl ?_
 refine S.pickAndG tOk zOk rfl rfl rfl tg tg ?_
 refine S.pickOr tOk zOk rfl rfl tg ?_
 refine thenK_n ?_
 refine W.cond rfl (fun c1 => ?_) (fun c1 => ?_)
 ·skip
  refine W.seq ?_
  refine W.region ?_
  refine S.pure tOk zOk rfl rfl rfl ?_
  refine S.store tOk rfl rfl rfl rfl rfl rfl rfl rfl ?_
  refine S.pure tOk zOk rfl rfl rfl ?_
  refine thenK_n ?_
  refine W.ret ?_
  refine thenK_r ?_
  exact ⟨_, rfl, rfl, LeV.of_force rfl (by simp_all [parseW, verV, Ver.z])⟩
 ·skip
  have h3 : ws.length = 3 := by simp at c1; omega
  obtain ⟨p, q, r, rfl⟩ := three h3
  refine W.skip ?_
  refine thenK_n ?_
  refine W.seq ?_
  refine W.region ?_
  refine S.alloc tOk rfl rfl rfl rfl ?_
  refine thenK_n ?_
  refine W.seq ?_
  refine W.seq ?_
  refine W.region ?_
  refine S.pure tOk zOk rfl rfl rfl ?_
  refine thenK_n ?_
  refine W.block ?_
  refine W.rounds 4 ?_
  refine WR.succ ?_
  refine W.seq ?_
  refine W.region ?_
  refine S.pure tOk zOk rfl rfl rfl ?_
  refine thenK_n ?_
  refine W.seq ?_
  refine W.condT rfl rfl ?_
  refine W.skip ?_
  refine thenK_n ?_
  refine W.seq ?_
  refine W.block ?_
  refine W.seq ?_
  refine W.region ?_
  refine S.pure tOk zOk rfl rfl rfl ?_
  refine S.pure tOk zOk rfl rfl rfl ?_
  refine thenK_n ?_
  refine W.seq ?_
  refine W.region ?_
  refine S.pure tOk zOk rfl rfl rfl ?_
  refine S.pure tOk zOk rfl rfl rfl ?_
  refine S.pure tOk zOk rfl (by first | rfl | exact idx_ok (by omega) (by omega)) rfl ?_
  refine S.pure tOk zOk rfl rfl rfl ?_
  refine S.call rfl rfl rfl rfl rfl (pc_num9 _ (by first | (have := hm 0; simp at this; omega) | (have := hm 1; simp at this; omega) | (have := hm 2; simp at this; omega))) ?_
  refine S.pure tOk zOk rfl rfl rfl ?_
  refine S.pure tOk zOk rfl rfl rfl ?_
  refine S.pure tOk zOk rfl rfl rfl ?_
  refine S.pure tOk zOk rfl rfl rfl ?_
  refine S.pure tOk zOk rfl rfl rfl ?_
  refine thenK_n ?_
  refine W.seq ?_
  refine W.seq ?_
  refine W.region ?_
  refine S.pure tOk zOk rfl rfl rfl ?_
  refine S.pure tOk zOk rfl rfl rfl ?_
  refine thenK_n ?_
  refine W.cond rfl (fun c3 => ?_) (fun c3 => ?_)
  ·skip
   refine W.seq ?_
   refine W.region ?_
   refine S.pure tOk zOk rfl rfl rfl ?_
   refine S.store tOk rfl rfl rfl rfl rfl rfl rfl rfl ?_
   refine S.pure tOk zOk rfl rfl rfl ?_
   refine thenK_n ?_
   refine W.ret ?_
   refine thenK_r ?_
   refine blockK_r ?_
   refine thenK_r ?_
   refine thenK_r ?_
   refine blockK_r ?_
   refine thenK_r ?_
   exact ⟨_, rfl, rfl, LeV.of_force rfl (by rw [parse_ok c1]; clear c1; simp_all [threeB, verV, Ver.z, Ver.check])⟩
  ·skip
   refine W.skip ?_
   refine thenK_n ?_
   refine W.region ?_
   refine S.pure tOk zOk rfl rfl rfl ?_
   refine S.pure tOk zOk rfl rfl rfl ?_
   refine S.pure tOk zOk rfl (by first | rfl | exact idx_ok (by omega) (by omega)) rfl ?_
   refine S.store tOk rfl rfl rfl rfl rfl rfl rfl rfl ?_
   refine blockK_n ?_
   refine thenK_n ?_
   refine W.region ?_
   refine S.pure tOk zOk rfl rfl rfl ?_
   refine S.pure tOk zOk rfl rfl rfl ?_
   refine thenK_n ?_
   refine WR.succ ?_
   refine W.seq ?_
   refine W.region ?_
   refine S.pure tOk zOk rfl rfl rfl ?_
   refine thenK_n ?_
   refine W.seq ?_
   refine W.condT rfl rfl ?_
   refine W.skip ?_
   refine thenK_n ?_
   refine W.seq ?_
   refine W.block ?_
   refine W.seq ?_
   refine W.region ?_
   refine S.pure tOk zOk rfl rfl rfl ?_
   refine S.pure tOk zOk rfl rfl rfl ?_
   refine thenK_n ?_
   refine W.seq ?_
   refine W.region ?_
   refine S.pure tOk zOk rfl rfl rfl ?_
   refine S.pure tOk zOk rfl rfl rfl ?_
   refine S.pure tOk zOk rfl (by first | rfl | exact idx_ok (by omega) (by omega)) rfl ?_
   refine S.pure tOk zOk rfl rfl rfl ?_
   refine S.call rfl rfl rfl rfl rfl (pc_num9 _ (by first | (have := hm 0; simp at this; omega) | (have := hm 1; simp at this; omega) | (have := hm 2; simp at this; omega))) ?_
   refine S.pure tOk zOk rfl rfl rfl ?_
   refine S.pure tOk zOk rfl rfl rfl ?_
   refine S.pure tOk zOk rfl rfl rfl ?_
   refine S.pure tOk zOk rfl rfl rfl ?_
   refine S.pure tOk zOk rfl rfl rfl ?_
   refine thenK_n ?_
   refine W.seq ?_
   refine W.seq ?_
   refine W.region ?_
   refine S.pure tOk zOk rfl rfl rfl ?_
   refine S.pure tOk zOk rfl rfl rfl ?_
   refine thenK_n ?_
   refine W.cond rfl (fun c5 => ?_) (fun c5 => ?_)
   ·skip
    refine W.seq ?_
    refine W.region ?_
    refine S.pure tOk zOk rfl rfl rfl ?_
    refine S.store tOk rfl rfl rfl rfl rfl rfl rfl rfl ?_
    refine S.pure tOk zOk rfl rfl rfl ?_
    refine thenK_n ?_
    refine W.ret ?_
    refine thenK_r ?_
    refine blockK_r ?_
    refine thenK_r ?_
    refine thenK_r ?_
    refine blockK_r ?_
    refine thenK_r ?_
    exact ⟨_, rfl, rfl, LeV.of_force rfl (by rw [parse_ok c1]; clear c1; simp_all [threeB, verV, Ver.z, Ver.check])⟩
   ·skip
    refine W.skip ?_
    refine thenK_n ?_
    refine W.region ?_
    refine S.pure tOk zOk rfl rfl rfl ?_
    refine S.pure tOk zOk rfl rfl rfl ?_
    refine S.pure tOk zOk rfl (by first | rfl | exact idx_ok (by omega) (by omega)) rfl ?_
    refine S.store tOk rfl rfl rfl rfl rfl rfl rfl rfl ?_
    refine blockK_n ?_
    refine thenK_n ?_
    refine W.region ?_
    refine S.pure tOk zOk rfl rfl rfl ?_
    refine S.pure tOk zOk rfl rfl rfl ?_
    refine thenK_n ?_
    refine WR.succ ?_
    refine W.seq ?_
    refine W.region ?_
    refine S.pure tOk zOk rfl rfl rfl ?_
    refine thenK_n ?_
    refine W.seq ?_
    refine W.condT rfl rfl ?_
    refine W.skip ?_
    refine thenK_n ?_
    refine W.seq ?_
    refine W.block ?_
    refine W.seq ?_
    refine W.region ?_
    refine S.pure tOk zOk rfl rfl rfl ?_
    refine S.pure tOk zOk rfl rfl rfl ?_
    refine thenK_n ?_
    refine W.seq ?_
    refine W.region ?_
    refine S.pure tOk zOk rfl rfl rfl ?_
    refine S.pure tOk zOk rfl rfl rfl ?_
    refine S.pure tOk zOk rfl (by first | rfl | exact idx_ok (by omega) (by omega)) rfl ?_
    refine S.pure tOk zOk rfl rfl rfl ?_
    refine S.call rfl rfl rfl rfl rfl (pc_num9 _ (by first | (have := hm 0; simp at this; omega) | (have := hm 1; simp at this; omega) | (have := hm 2; simp at this; omega))) ?_
    refine S.pure tOk zOk rfl rfl rfl ?_
    refine S.pure tOk zOk rfl rfl rfl ?_
    refine S.pure tOk zOk rfl rfl rfl ?_
    refine S.pure tOk zOk rfl rfl rfl ?_
    refine S.pure tOk zOk rfl rfl rfl ?_
    refine thenK_n ?_
    refine W.seq ?_
    refine W.seq ?_
    refine W.region ?_
    refine S.pure tOk zOk rfl rfl rfl ?_
    refine S.pure tOk zOk rfl rfl rfl ?_
    refine thenK_n ?_
    refine W.cond rfl (fun c7 => ?_) (fun c7 => ?_)
    ·skip
     refine W.seq ?_
     refine W.region ?_
     refine S.pure tOk zOk rfl rfl rfl ?_
     refine S.store tOk rfl rfl rfl rfl rfl rfl rfl rfl ?_
     refine S.pure tOk zOk rfl rfl rfl ?_
     refine thenK_n ?_
     refine W.ret ?_
     refine thenK_r ?_
     refine blockK_r ?_
     refine thenK_r ?_
     refine thenK_r ?_
     refine blockK_r ?_
     refine thenK_r ?_
     exact ⟨_, rfl, rfl, LeV.of_force rfl (by rw [parse_ok c1]; clear c1; simp_all [threeB, verV, Ver.z, Ver.check])⟩
    ·skip
     refine W.skip ?_
     refine thenK_n ?_
     refine W.region ?_
     refine S.pure tOk zOk rfl rfl rfl ?_
     refine S.pure tOk zOk rfl rfl rfl ?_
     refine S.pure tOk zOk rfl (by first | rfl | exact idx_ok (by omega) (by omega)) rfl ?_
     refine S.store tOk rfl rfl rfl rfl rfl rfl rfl rfl ?_
     refine blockK_n ?_
     refine thenK_n ?_
     refine W.region ?_
     refine S.pure tOk zOk rfl rfl rfl ?_
     refine S.pure tOk zOk rfl rfl rfl ?_
     refine thenK_n ?_
     refine WR.succ ?_
     refine W.seq ?_
     refine W.region ?_
     refine S.pure tOk zOk rfl rfl rfl ?_
     refine thenK_n ?_
     refine W.seq ?_
     refine W.condF rfl rfl ?_
     refine W.exit ?_
     refine thenK_e ?_
     refine thenK_e ?_
     refine blockK_x ?_
     refine thenK_n ?_
     refine W.seq ?_
     refine W.region ?_
     refine S.pure tOk zOk rfl (by first | rfl | exact idx_ok (by omega) (by omega)) rfl ?_
     refine S.pure tOk zOk rfl rfl rfl ?_
     refine S.pure tOk zOk rfl (by first | rfl | exact idx_ok (by omega) (by omega)) rfl ?_
     refine S.pure tOk zOk rfl rfl rfl ?_
     refine S.pure tOk zOk rfl (by first | rfl | exact idx_ok (by omega) (by omega)) rfl ?_
     refine S.pure tOk zOk rfl rfl rfl ?_
     refine S.pure tOk zOk rfl rfl rfl ?_
     refine S.pure tOk zOk rfl rfl rfl ?_
     refine S.alloc tOk rfl rfl rfl rfl ?_
     refine S.store tOk rfl rfl rfl rfl rfl rfl rfl rfl ?_
     refine thenK_n ?_
     refine W.seq ?_
     refine W.seq ?_
     refine W.region ?_
     refine S.pure tOk zOk rfl rfl rfl ?_
     refine S.slice tOk rfl rfl ?_
     refine S.call rfl rfl rfl rfl rfl (pc_verr1 ⟨(numB p).1, (numB q).1, (numB r).1, (Lib.cut s [45]).2.1⟩ (by show (Lib.cut s [45]).2.1.length < _; omega)) ?_
     refine S.pure tOk zOk rfl rfl rfl ?_
     refine thenK_n ?_
     refine W.seq ?_
     refine W.region ?_
     refine S.pure tOk zOk rfl rfl rfl ?_
     refine S.pure tOk zOk rfl rfl rfl ?_
     refine thenK_n ?_
     refine W.cond rfl (fun c9 => ?_) (fun c9 => ?_)
     ·skip
      refine W.seq ?_
      refine W.region ?_
      refine S.pure tOk zOk rfl rfl rfl ?_
      refine S.pure tOk zOk rfl rfl rfl ?_
      refine S.store tOk rfl rfl rfl rfl rfl rfl rfl rfl ?_
      refine S.pure tOk zOk rfl rfl rfl ?_
      refine thenK_n ?_
      refine W.ret ?_
      refine thenK_r ?_
      exact ⟨_, rfl, rfl, LeV.of_force rfl (by rw [parse_ok c1]; clear c1; simp_all [threeB, verV, Ver.z, Ver.check])⟩
     ·skip
      refine W.skip ?_
      refine thenK_n ?_
      refine W.seq ?_
      refine W.region ?_
      refine S.pure tOk zOk rfl rfl rfl ?_
      refine S.store tOk rfl rfl rfl rfl rfl rfl rfl rfl ?_
      refine S.pure tOk zOk rfl rfl rfl ?_
      refine thenK_n ?_
      refine W.ret ?_
      exact ⟨_, rfl, rfl, LeV.of_force rfl (by rw [parse_ok c1]; clear c1; simp_all [threeB, verV, Ver.z, Ver.check])⟩
end Go.Proofs.YtlkhdembbogcaaaGreatDoor

/- Plain words on ranges. -/
set_option linter.unusedVariables false
set_option linter.unusedSimpArgs false
namespace Go.Proofs.YtlkhdembbogcaaaGreatDoor
open Go
structure Sp where
  hf : Bool
  ht : Bool
  f : Ver
  t : Ver
  deriving DecidableEq
def Sp.z : Sp := ⟨false, false, Ver.z, Ver.z⟩
/-- Two versions are the same, as a comparison of structs tells it. -/
def Ver.eqb (v w : Ver) : Bool := v.a == w.a && (v.b == w.b && (v.c == w.c && (v.e == w.e && true)))
theorem Ver.eqb_iff {v w : Ver} : v.eqb w = true ↔ v = w := by
  cases v; cases w
  simp [Ver.eqb]
/-- What is wrong with a span by itself. -/
def spanE (s : Sp) : Int :=
  if (!(s.f.eqb Ver.z) && !s.hf) || (!(s.t.eqb Ver.z) && !s.ht) then 2
  else if s.hf && s.f.check != 0 then s.f.check
  else if s.ht && s.t.check != 0 then s.t.check
  else if (s.hf && s.ht) && decide (orderB s.f s.t ≥ 0) then 7 else 0
section
variable {s : Sp}
theorem spE_form (h1 : ((!(s.f.eqb Ver.z) && !s.hf) || (!(s.t.eqb Ver.z) && !s.ht)) = true) : spanE s = 2 := if_pos h1
theorem spE_f (h1 : ((!(s.f.eqb Ver.z) && !s.hf) || (!(s.t.eqb Ver.z) && !s.ht)) = false) (h2 : (s.hf && s.f.check != 0) = true) : spanE s = s.f.check := by
  rw [spanE, if_neg (Bool.eq_false_iff.1 h1), if_pos h2]
theorem spE_t (h1 : ((!(s.f.eqb Ver.z) && !s.hf) || (!(s.t.eqb Ver.z) && !s.ht)) = false) (h2 : (s.hf && s.f.check != 0) = false) (h3 : (s.ht && s.t.check != 0) = true) : spanE s = s.t.check := by
  rw [spanE, if_neg (Bool.eq_false_iff.1 h1), if_neg (Bool.eq_false_iff.1 h2), if_pos h3]
theorem spE_o (h1 : ((!(s.f.eqb Ver.z) && !s.hf) || (!(s.t.eqb Ver.z) && !s.ht)) = false) (h2 : (s.hf && s.f.check != 0) = false) (h3 : (s.ht && s.t.check != 0) = false) (h4 : ((s.hf && s.ht) && decide (orderB s.f s.t ≥ 0)) = true) : spanE s = 7 := by
  rw [spanE, if_neg (Bool.eq_false_iff.1 h1), if_neg (Bool.eq_false_iff.1 h2), if_neg (Bool.eq_false_iff.1 h3), if_pos h4]
theorem spE_ok (h1 : ((!(s.f.eqb Ver.z) && !s.hf) || (!(s.t.eqb Ver.z) && !s.ht)) = false) (h2 : (s.hf && s.f.check != 0) = false) (h3 : (s.ht && s.t.check != 0) = false) (h4 : ((s.hf && s.ht) && decide (orderB s.f s.t ≥ 0)) = false) : spanE s = 0 := by
  rw [spanE, if_neg (Bool.eq_false_iff.1 h1), if_neg (Bool.eq_false_iff.1 h2), if_neg (Bool.eq_false_iff.1 h3), if_neg (Bool.eq_false_iff.1 h4)]
end
/-- What is wrong with it behind another. -/
def behindE (p s : Sp) : Int := if (!p.ht || !s.hf) || decide (orderB s.f p.t ≤ 0) then 7 else 0
def spAt (ss : List Sp) (i : Nat) : Int :=
  if spanE (ss.getD i Sp.z) != 0 then spanE (ss.getD i Sp.z) else if (i : Int) == 0 then 0 else behindE (ss.getD (i - 1) Sp.z) (ss.getD i Sp.z)
def rangeE (ss : List Sp) : Int := if decide ((ss.length : Int) > 10) then 4 else firstNe ((List.range ss.length).map (spAt ss))
theorem spAt_get {ss : List Sp} {i : Nat} (hi : i < ss.length) : ((List.range ss.length).map (spAt ss)).getD i 0 = spAt ss i := by
  simp [List.getD, hi]
theorem spAt_go {ss : List Sp} {i : Nat} (hi : i < ss.length) (h : spAt ss i = 0) : (((List.range ss.length).map (spAt ss)).getD i 0 == 0) = true := by
  rw [spAt_get hi, h]; rfl
theorem spAt_hit {ss : List Sp} {i : Nat} {n : Int} (hi : i < ss.length) (ht : (((List.range ss.length).map (spAt ss)).take i).all (· == 0) = true) (h : spAt ss i = n) (hn : n ≠ 0) : firstNe ((List.range ss.length).map (spAt ss)) = n := by
  rw [firstNe_hit (by simpa using hi) ht (by rw [spAt_get hi, h]; exact hn), spAt_get hi, h]
theorem rangeE_large {ss : List Sp} (h : decide ((ss.length : Int) > 10) = true) : rangeE ss = 4 := if_pos h
theorem rangeE_list {ss : List Sp} (h : decide ((ss.length : Int) > 10) = false) : rangeE ss = firstNe ((List.range ss.length).map (spAt ss)) := if_neg (Bool.eq_false_iff.1 h)
theorem spAt_own {ss : List Sp} {i : Nat} (h : (spanE (ss.getD i Sp.z) != 0) = true) : spAt ss i = spanE (ss.getD i Sp.z) := if_pos h
theorem spAt_first {ss : List Sp} {i : Nat} (h : (spanE (ss.getD i Sp.z) != 0) = false) (h0 : ((i : Int) == 0) = true) : spAt ss i = 0 := by
  rw [spAt, if_neg (Bool.eq_false_iff.1 h), if_pos h0]
theorem spAt_bad {ss : List Sp} {i : Nat} (h : (spanE (ss.getD i Sp.z) != 0) = false) (h0 : ((i : Int) == 0) = false)
    (hb : ((!(ss.getD (i - 1) Sp.z).ht || !(ss.getD i Sp.z).hf) || decide (orderB (ss.getD i Sp.z).f (ss.getD (i - 1) Sp.z).t ≤ 0)) = true) : spAt ss i = 7 := by
  rw [spAt, if_neg (Bool.eq_false_iff.1 h), if_neg (Bool.eq_false_iff.1 h0), behindE, if_pos hb]
theorem spAt_ok {ss : List Sp} {i : Nat} (h : (spanE (ss.getD i Sp.z) != 0) = false) (h0 : ((i : Int) == 0) = false)
    (hb : ((!(ss.getD (i - 1) Sp.z).ht || !(ss.getD i Sp.z).hf) || decide (orderB (ss.getD i Sp.z).f (ss.getD (i - 1) Sp.z).t ≤ 0)) = false) : spAt ss i = 0 := by
  rw [spAt, if_neg (Bool.eq_false_iff.1 h), if_neg (Bool.eq_false_iff.1 h0), behindE, if_neg (Bool.eq_false_iff.1 hb)]
/-- The texts in a span are not too long. -/
def SpLen (s : Sp) : Prop := s.f.e.length < 4294967281 ∧ s.t.e.length < 4294967281
theorem sp_at {ss : List Sp} {i : Nat} (hv : ∀ s ∈ ss, SpLen s) (hi : i < ss.length) : SpLen (ss.getD i Sp.z) := by
  rw [List.getD_eq_getElem?_getD, List.getElem?_eq_getElem hi]
  exact hv _ (List.getElem_mem hi)
/-- A span as it is written: a sign, and one or two versions. -/
structure It where
  sign : Int
  first : List UInt8
  last : List UInt8
def rowB (s : List UInt8) : Bool := !(Lib.contains s [32])
def wrongB (s : List UInt8) : Bool := (parseB s).2 == 8
def SpOk (s : Sp) : Prop := VerOk s.f ∧ VerOk s.t
theorem take_snoc2 {α β γ : Type} {f : β → γ} {p : α → β} {l : List α} {i : Nat} (d : α) (h : i < l.length) : ((l.take i).map p).map f ++ [f (p (l.getD i d))] = ((l.take (i + 1)).map p).map f := by
  rw [List.take_add_one, List.getElem?_eq_getElem h, List.map_append, List.map_append]
  simp [List.getD, List.getElem?_eq_getElem h]
theorem take_snoc3 {α β γ : Type} {f : β → γ} {p : α → β} {l : List α} {i : Nat} {d : α} {x : β} (hx : x = p (l.getD i d)) (h : i < l.length) : ((l.take i).map p).map f ++ [f x] = ((l.take (i + 1)).map p).map f := by
  rw [hx]; exact take_snoc2 d h
end Go.Proofs.YtlkhdembbogcaaaGreatDoor

/- Spans as values. -/
set_option linter.unusedVariables false
namespace Go.Proofs.YtlkhdembbogcaaaGreatDoor
open Go Go.RowKit
def spD (s : Sp) : List D := [.bool s.hf, .bool s.ht, .int .i64 s.f.a, .int .i64 s.f.b, .int .i64 s.f.c, .str s.f.e, .int .i64 s.t.a, .int .i64 s.t.b, .int .i64 s.t.c, .str s.t.e]
def spV (s : Sp) : V := .agg [.d (.bool s.hf), .d (.bool s.ht), .d (.int .i64 s.f.a), .d (.int .i64 s.f.b), .d (.int .i64 s.f.c), .d (.str s.f.e), .d (.int .i64 s.t.a), .d (.int .i64 s.t.b), .d (.int .i64 s.t.c), .d (.str s.t.e)]
def rgV (ss : List Sp) : V := .agg [.d (.vec 10 (ss.map spD))]
end Go.Proofs.YtlkhdembbogcaaaGreatDoor

set_option linter.unusedVariables false
set_option linter.unusedSimpArgs false
set_option maxRecDepth 100000
set_option maxHeartbeats 4000000
namespace Go.Proofs.YtlkhdembbogcaaaGreatDoor
open Go
open Go.RowKit
theorem pc_ver_spanFault (s : Sp) (h1 : s.f.e.length < 4294967281) (h2 : s.t.e.length < 4294967281) :
  PureCall Tryz.prog J 168 [spV s] (.one (.d (.int .i64 (spanE s)))) := by
 refine PureCall.of_body tOk (fn := Tryz.f168) Tryz.func168 (by kernel_rfl) rfl (Nat.le_of_ble_eq_true rfl) (fun E => ?_)
 refine W.seq ?_
 refine W.region ?_
 refine S.box rfl rfl rfl rfl ?_
 refine S.pure tOk zOk rfl rfl rfl ?_
 refine thenK_n ?_
 refine W.seq ?_
 refine W.region ?_
 refine S.pure tOk zOk rfl rfl rfl ?_
 refine S.alloc tOk rfl rfl rfl rfl ?_
 refine S.store tOk rfl rfl rfl rfl rfl rfl rfl rfl ?_
 refine thenK_n ?_
 refine W.seq ?_
 refine W.seq ?_
 refine W.region ?_
 refine S.pure tOk zOk rfl rfl rfl ?_
 refine S.pure tOk zOk rfl rfl rfl ?_
 refine S.pure tOk zOk rfl rfl rfl ?_
 refine S.pure tOk zOk rfl rfl rfl ?_
 refine S.pure tOk zOk rfl rfl rfl ?_
 refine S.pureG tOk zOk rfl rfl tg (fun _ => rfl) rfl ?_
 refine S.pureG tOk zOk rfl rfl tg (fun _ => rfl) rfl ?_
 refine S.pureG tOk zOk rfl rfl tg (fun _ => rfl) rfl ?_
 refine S.pickAnd tOk zOk rfl rfl tg ?_
 refine S.pure tOk zOk rfl rfl rfl ?_
 refine S.pureG tOk zOk rfl rfl tg (fun _ => rfl) rfl ?_
 refine S.pureG tOk zOk rfl rfl tg (fun _ => rfl) rfl ?_
 refine S.pureG tOk zOk rfl rfl tg (fun _ => rfl) rfl ?_
 refine S.pureG tOk zOk rfl rfl tg (fun _ => rfl) rfl ?_
 refine S.pureG tOk zOk rfl rfl tg (fun _ => rfl) rfl ?_
 refine S.pureG tOk zOk rfl rfl tg (fun _ => rfl) rfl ?_
 refine S.pureG tOk zOk rfl rfl tg (fun _ => rfl) rfl ?_
 refine S.pureG tOk zOk rfl rfl tg (fun _ => rfl) rfl ?_
 refine S.pickAndG tOk zOk rfl rfl rfl tg tg ?_
 refine S.pickOr tOk zOk rfl rfl tg ?_
 refine thenK_n ?_
 refine W.cond rfl (fun c1 => ?_) (fun c1 => ?_)
 ·skip
  refine W.seq ?_
  refine W.region ?_
  refine S.pure tOk zOk rfl rfl rfl ?_
  refine thenK_n ?_
  refine W.ret ?_
  refine thenK_r ?_
  exact ⟨_, rfl, rfl, LeV.of_eq (congrArg (fun x => V.one (C.d (D.int .i64 x))) (spE_form c1).symm)⟩
 ·skip
  refine W.skip ?_
  refine thenK_n ?_
  refine W.seq ?_
  refine W.seq ?_
  refine W.region ?_
  refine S.pure tOk zOk rfl rfl rfl ?_
  refine S.pure tOk zOk rfl rfl rfl ?_
  refine S.call rfl rfl rfl rfl rfl (pc_ver_Check s.f h1) ?_
  refine S.pure tOk zOk rfl rfl rfl ?_
  refine thenK_n ?_
  refine W.seq ?_
  refine W.region ?_
  refine S.pure tOk zOk rfl rfl rfl ?_
  refine S.pure tOk zOk rfl rfl rfl ?_
  refine S.pure tOk zOk rfl rfl rfl ?_
  refine S.pureG tOk zOk rfl rfl tg (fun _ => rfl) rfl ?_
  refine S.pureG tOk zOk rfl rfl tg (fun _ => rfl) rfl ?_
  refine S.pickAnd tOk zOk rfl rfl tg ?_
  refine thenK_n ?_
  refine W.cond rfl (fun c2 => ?_) (fun c2 => ?_)
  ·skip
   refine W.seq ?_
   refine W.region ?_
   refine S.pure tOk zOk rfl rfl rfl ?_
   refine S.pure tOk zOk rfl rfl rfl ?_
   refine thenK_n ?_
   refine W.ret ?_
   refine thenK_r ?_
   exact ⟨_, rfl, rfl, LeV.of_eq (congrArg (fun x => V.one (C.d (D.int .i64 x))) (spE_f c1 c2).symm)⟩
  ·skip
   refine W.skip ?_
   refine thenK_n ?_
   refine W.seq ?_
   refine W.seq ?_
   refine W.region ?_
   refine S.pure tOk zOk rfl rfl rfl ?_
   refine S.pure tOk zOk rfl rfl rfl ?_
   refine S.call rfl rfl rfl rfl rfl (pc_ver_Check s.t h2) ?_
   refine S.pure tOk zOk rfl rfl rfl ?_
   refine thenK_n ?_
   refine W.seq ?_
   refine W.region ?_
   refine S.pure tOk zOk rfl rfl rfl ?_
   refine S.pure tOk zOk rfl rfl rfl ?_
   refine S.pure tOk zOk rfl rfl rfl ?_
   refine S.pureG tOk zOk rfl rfl tg (fun _ => rfl) rfl ?_
   refine S.pureG tOk zOk rfl rfl tg (fun _ => rfl) rfl ?_
   refine S.pickAnd tOk zOk rfl rfl tg ?_
   refine thenK_n ?_
   refine W.cond rfl (fun c3 => ?_) (fun c3 => ?_)
   ·skip
    refine W.seq ?_
    refine W.region ?_
    refine S.pure tOk zOk rfl rfl rfl ?_
    refine S.pure tOk zOk rfl rfl rfl ?_
    refine thenK_n ?_
    refine W.ret ?_
    refine thenK_r ?_
    exact ⟨_, rfl, rfl, LeV.of_eq (congrArg (fun x => V.one (C.d (D.int .i64 x))) (spE_t c1 c2 c3).symm)⟩
   ·skip
    refine W.skip ?_
    refine thenK_n ?_
    refine W.seq ?_
    refine W.seq ?_
    refine W.region ?_
    refine S.pure tOk zOk rfl rfl rfl ?_
    refine S.pure tOk zOk rfl rfl rfl ?_
    refine S.pure tOk zOk rfl rfl rfl ?_
    refine S.pureG tOk zOk rfl rfl tg (fun _ => rfl) rfl ?_
    refine S.pureG tOk zOk rfl rfl tg (fun _ => rfl) rfl ?_
    refine S.pickAnd tOk zOk rfl rfl tg ?_
    refine S.pure tOk zOk rfl rfl rfl ?_
    refine S.pureG tOk zOk rfl rfl tg (fun _ => rfl) rfl ?_
    refine S.pureG tOk zOk rfl rfl tg (fun _ => rfl) rfl ?_
    refine S.pureG tOk zOk rfl rfl tg (fun _ => rfl) rfl ?_
    refine S.pureG tOk zOk rfl rfl tg (fun _ => rfl) rfl ?_
    refine S.callG rfl rfl rfl rfl tg rfl rfl (fun _ => pc_ver_Order s.f s.t h1 h2) ?_
    refine S.pureG tOk zOk rfl rfl tg (fun _ => rfl) rfl ?_
    refine S.pickAnd tOk zOk rfl rfl tg ?_
    refine thenK_n ?_
    refine W.cond rfl (fun c4 => ?_) (fun c4 => ?_)
    ·skip
     refine W.seq ?_
     refine W.region ?_
     refine S.pure tOk zOk rfl rfl rfl ?_
     refine thenK_n ?_
     refine W.ret ?_
     refine thenK_r ?_
     exact ⟨_, rfl, rfl, LeV.of_eq (congrArg (fun x => V.one (C.d (D.int .i64 x))) (spE_o c1 c2 c3 c4).symm)⟩
    ·skip
     refine W.skip ?_
     refine thenK_n ?_
     refine W.seq ?_
     refine W.region ?_
     refine S.pure tOk zOk rfl rfl rfl ?_
     refine thenK_n ?_
     refine W.ret ?_
     exact ⟨_, rfl, rfl, LeV.of_eq (congrArg (fun x => V.one (C.d (D.int .i64 x))) (spE_ok c1 c2 c3 c4).symm)⟩
theorem pc_ver_CheckRange (ss : List Sp) (hl : ss.length ≤ 1000000000) (hv : ∀ s ∈ ss, SpLen s) :
  PureCall Tryz.prog J 114 [rgV ss] (.one (.d (.int .i64 (rangeE ss)))) := by
 refine PureCall.of_body tOk (fn := Tryz.f114) Tryz.func114 (by kernel_rfl) rfl (Nat.le_of_ble_eq_true rfl) (fun E => ?_)
 refine W.seq ?_
 refine W.region ?_
 refine S.box rfl rfl rfl rfl ?_
 refine S.pure tOk zOk rfl rfl rfl ?_
 refine thenK_n ?_
 refine W.seq ?_
 refine W.seq ?_
 refine W.region ?_
 refine S.pure tOk zOk rfl rfl rfl ?_
 refine S.pure tOk zOk rfl rfl rfl ?_
 refine S.pure tOk zOk rfl rfl rfl ?_
 refine S.pure tOk zOk rfl rfl rfl ?_
 refine thenK_n ?_
 refine W.cond rfl (fun c1 => ?_) (fun c1 => ?_)
 ·skip
  refine W.seq ?_
  refine W.region ?_
  refine S.pure tOk zOk rfl rfl rfl ?_
  refine thenK_n ?_
  refine W.ret ?_
  refine thenK_r ?_
  exact ⟨_, rfl, rfl, LeV.of_eq (congrArg (fun x => V.one (C.d (D.int .i64 x))) (rangeE_large (by simpa using c1)).symm)⟩
 ·skip
  have hlen := rangeE_list (ss := ss) (by simpa using c1)
  refine W.skip ?_
  refine thenK_n ?_
  refine W.seq ?_
  refine W.seq ?_
  refine W.region ?_
  refine S.pure tOk zOk rfl rfl rfl ?_
  refine S.pure tOk zOk rfl rfl rfl ?_
  refine S.pure tOk zOk rfl rfl rfl ?_
  refine S.pure tOk zOk rfl rfl rfl ?_
  refine thenK_n ?_
  refine W.block ?_
  refine W.loop (fun k st => ∃ i : Nat, i ≤ ss.length ∧ (((List.range ss.length).map (spAt ss)).take i).all (· == 0) = true ∧ k = ss.length - i ∧ ∃ t b2 r2 m2, st = ⟨t, [[.d (.vec 10 (ss.map spD))]] ++ b2, [] ++ r2, [] ++ m2⟩ ∧ holdsL t [(1, .one (.ptr 0 0)), (12, .one (.d (.vec 10 (ss.map spD)))), (13, .one (.d (.int .i64 ((ss.map spD).length : Int)))), (14, .one (.d (.int .i64 (i : Int))))]) (ss.length) ⟨0, Nat.zero_le _, by simp, rfl, _, _, _, _, rfl, rfl, rfl, rfl, rfl, trivial⟩ ?_
  rintro k0 _ ⟨i, f0_0, f0_1, rfl, t0, bb0, rr0, mm0, rfl, hh0⟩
  refine W.keepR _ _ _ _ _ _ _ hh0 rfl ?_
  refine W.seq ?_
  refine W.region ?_
  refine S.pure tOk zOk rfl rfl rfl ?_
  refine thenK_n ?_
  refine W.seq ?_
  refine W.cond rfl (fun c2 => ?_) (fun c2 => ?_)
  ·skip
   have hi := row_lt c2
   have hs := sp_at hv hi
   refine W.skip ?_
   refine thenK_n ?_
   refine W.seq ?_
   refine W.block ?_
   refine W.seq ?_
   refine W.region ?_
   refine S.pure tOk zOk rfl rfl rfl ?_
   refine S.pureE tOk zOk rfl (row_ok hi) (row_at Sp.z hi) rfl ?_
   refine S.pure tOk zOk rfl rfl rfl ?_
   refine S.alloc tOk rfl rfl rfl rfl ?_
   refine S.pure tOk zOk rfl rfl rfl ?_
   refine S.store tOk rfl rfl rfl rfl rfl rfl rfl rfl ?_
   refine thenK_n ?_
   refine W.seq ?_
   refine W.seq ?_
   refine W.region ?_
   refine S.pure tOk zOk rfl rfl rfl ?_
   refine S.call rfl rfl rfl rfl rfl (pc_ver_spanFault (ss.getD i Sp.z) hs.1 hs.2) ?_
   refine S.pure tOk zOk rfl rfl rfl ?_
   refine thenK_n ?_
   refine W.seq ?_
   refine W.region ?_
   refine S.pure tOk zOk rfl rfl rfl ?_
   refine S.pure tOk zOk rfl rfl rfl ?_
   refine thenK_n ?_
   refine W.cond rfl (fun c3 => ?_) (fun c3 => ?_)
   ·skip
    refine W.seq ?_
    refine W.region ?_
    refine S.pure tOk zOk rfl rfl rfl ?_
    refine S.pure tOk zOk rfl rfl rfl ?_
    refine thenK_n ?_
    refine W.ret ?_
    refine thenK_r ?_
    refine blockK_r ?_
    refine thenK_r ?_
    refine thenK_r ?_
    refine blockK_r ?_
    refine thenK_r ?_
    exact ⟨_, rfl, rfl, LeV.of_eq (congrArg (fun x => V.one (C.d (D.int .i64 x))) (hlen.trans (spAt_hit hi f0_1 (spAt_own c3) (by simpa using c3))).symm)⟩
   ·skip
    refine W.skip ?_
    refine thenK_n ?_
    refine W.seq ?_
    refine W.seq ?_
    refine W.region ?_
    refine S.pure tOk zOk rfl rfl rfl ?_
    refine S.pure tOk zOk rfl rfl rfl ?_
    refine thenK_n ?_
    refine W.cond rfl (fun c4 => ?_) (fun c4 => ?_)
    ·skip
     refine W.exit ?_
     refine thenK_e ?_
     refine blockK_x ?_
     refine thenK_n ?_
     refine W.region ?_
     refine S.pure tOk zOk rfl rfl rfl ?_
     refine S.pure tOk zOk rfl rfl rfl ?_
     refine loop_n (ss.length - (i + 1)) (by omega) ⟨i + 1, hi, all_take_succ (d := 0) (by simpa using hi) f0_1 (spAt_go hi (spAt_first c3 c4)), rfl, _, _, _, _, rfl, rfl, rfl, rfl, inc_i64 (by omega), trivial⟩
    ·skip
     have hi1 : i - 1 < ss.length := by omega
     have hs1 := sp_at hv hi1
     refine W.skip ?_
     refine thenK_n ?_
     refine W.seq ?_
     refine W.region ?_
     refine S.pure tOk zOk rfl rfl rfl ?_
     refine S.pure tOk zOk rfl rfl rfl ?_
     refine S.pure tOk zOk rfl rfl rfl ?_
     refine S.pureE tOk zOk rfl rfl (dec_i64 c4 (by omega)) rfl ?_
     refine S.pureE tOk zOk rfl (row_ok hi1) (row_at Sp.z hi1) rfl ?_
     refine S.pure tOk zOk rfl rfl rfl ?_
     refine S.alloc tOk rfl rfl rfl rfl ?_
     refine S.store tOk rfl rfl rfl rfl rfl rfl rfl rfl ?_
     refine thenK_n ?_
     refine W.seq ?_
     refine W.region ?_
     refine S.pure tOk zOk rfl rfl rfl ?_
     refine S.pure tOk zOk rfl rfl rfl ?_
     refine S.pure tOk zOk rfl rfl rfl ?_
     refine S.pure tOk zOk rfl rfl rfl ?_
     refine S.pureG tOk zOk rfl rfl tg (fun _ => rfl) rfl ?_
     refine S.pureG tOk zOk rfl rfl tg (fun _ => rfl) rfl ?_
     refine S.pureG tOk zOk rfl rfl tg (fun _ => rfl) rfl ?_
     refine S.pickOr tOk zOk rfl rfl tg ?_
     refine S.pure tOk zOk rfl rfl rfl ?_
     refine S.pureG tOk zOk rfl rfl tg (fun _ => rfl) rfl ?_
     refine S.pureG tOk zOk rfl rfl tg (fun _ => rfl) rfl ?_
     refine S.pureG tOk zOk rfl rfl tg (fun _ => rfl) rfl ?_
     refine S.pureG tOk zOk rfl rfl tg (fun _ => rfl) rfl ?_
     refine S.callG rfl rfl rfl rfl tg rfl rfl (fun _ => pc_ver_Order (ss.getD i Sp.z).f (ss.getD (i - 1) Sp.z).t hs.1 hs1.2) ?_
     refine S.pureG tOk zOk rfl rfl tg (fun _ => rfl) rfl ?_
     refine S.pickOr tOk zOk rfl rfl tg ?_
     refine thenK_n ?_
     refine W.cond rfl (fun c5 => ?_) (fun c5 => ?_)
     ·skip
      refine W.seq ?_
      refine W.region ?_
      refine S.pure tOk zOk rfl rfl rfl ?_
      refine thenK_n ?_
      refine W.ret ?_
      refine blockK_r ?_
      refine thenK_r ?_
      refine thenK_r ?_
      refine blockK_r ?_
      refine thenK_r ?_
      exact ⟨_, rfl, rfl, LeV.of_eq (congrArg (fun x => V.one (C.d (D.int .i64 x))) (hlen.trans (spAt_hit hi f0_1 (spAt_bad c3 c4 c5) (by decide))).symm)⟩
     ·skip
      refine W.skip ?_
      refine blockK_n ?_
      refine thenK_n ?_
      refine W.region ?_
      refine S.pure tOk zOk rfl rfl rfl ?_
      refine S.pure tOk zOk rfl rfl rfl ?_
      refine loop_n (ss.length - (i + 1)) (by omega) ⟨i + 1, hi, all_take_succ (d := 0) (by simpa using hi) f0_1 (spAt_go hi (spAt_ok c3 c4 c5)), rfl, _, _, _, _, rfl, rfl, rfl, rfl, inc_i64 (by omega), trivial⟩
  ·skip
   have hi := row_ge c2
   refine W.exit ?_
   refine thenK_e ?_
   refine thenK_e ?_
   refine blockK_x ?_
   refine thenK_n ?_
   refine W.seq ?_
   refine W.region ?_
   refine S.pure tOk zOk rfl rfl rfl ?_
   refine thenK_n ?_
   refine W.ret ?_
   exact ⟨_, rfl, rfl, LeV.of_eq (congrArg (fun x => V.one (C.d (D.int .i64 x))) (hlen.trans (firstNe_none (by simpa using hi) f0_1)).symm)⟩
theorem pc_ver_isRow (s : List UInt8) (hs : s.length < 4294967281) :
  PureCall Tryz.prog J 247 [.one (.d (.str s))] (.one (.d (.bool (rowB s)))) := by
 refine PureCall.of_body tOk (fn := Tryz.f247) Tryz.func247 (by kernel_rfl) rfl (Nat.le_of_ble_eq_true rfl) (fun E => ?_)
 refine W.seq ?_
 refine W.region ?_
 refine S.pure tOk zOk rfl rfl rfl ?_
 refine thenK_n ?_
 refine W.seq ?_
 refine W.region ?_
 refine S.pure tOk zOk rfl rfl rfl ?_
 refine S.call rfl rfl rfl rfl rfl (pc_Contains _ _ (by omega)) ?_
 refine S.pure tOk zOk rfl rfl rfl ?_
 refine S.pure tOk zOk rfl rfl rfl ?_
 refine thenK_n ?_
 refine W.ret ?_
 exact ⟨_, rfl, rfl, LeV.refl _⟩
theorem pc_ver_wrong (s : List UInt8) (hs : s.length < 4294967281) :
  PureCall Tryz.prog J 239 [.one (.d (.str s))] (.one (.d (.bool (wrongB s)))) := by
 refine PureCall.of_body tOk (fn := Tryz.f239) Tryz.func239 (by kernel_rfl) rfl (Nat.le_of_ble_eq_true rfl) (fun E => ?_)
 refine W.seq ?_
 refine W.region ?_
 refine S.pure tOk zOk rfl rfl rfl ?_
 refine thenK_n ?_
 refine W.seq ?_
 refine W.region ?_
 refine S.pure tOk zOk rfl rfl rfl ?_
 refine S.call rfl rfl rfl rfl rfl (pc_ver_Parse _ (by omega)) ?_
 refine S.pure tOk zOk rfl rfl rfl ?_
 refine S.pure tOk zOk rfl rfl rfl ?_
 refine S.pure tOk zOk rfl rfl rfl ?_
 refine S.alloc tOk rfl rfl rfl rfl ?_
 refine S.store tOk rfl rfl rfl rfl rfl rfl rfl rfl ?_
 refine S.pure tOk zOk rfl rfl rfl ?_
 refine thenK_n ?_
 refine W.seq ?_
 refine W.region ?_
 refine S.pure tOk zOk rfl rfl rfl ?_
 refine S.pure tOk zOk rfl rfl rfl ?_
 refine S.pure tOk zOk rfl rfl rfl ?_
 refine thenK_n ?_
 refine W.ret ?_
 exact ⟨_, rfl, rfl, LeV.refl _⟩
end Go.Proofs.YtlkhdembbogcaaaGreatDoor

set_option linter.unusedVariables false
set_option linter.unusedSimpArgs false
set_option maxRecDepth 100000
set_option maxHeartbeats 4000000
namespace Go.Proofs.YtlkhdembbogcaaaGreatDoor
open Go
open Go.RowKit
end Go.Proofs.YtlkhdembbogcaaaGreatDoor

/- Plain words: the order of versions the other way round. -/
set_option linter.unusedVariables false
set_option linter.unusedSimpArgs false
namespace Go.Proofs.YtlkhdembbogcaaaGreatDoor
open Go
theorem cmpInt_neg (x y : Int) : Lib.compareInt y x = -Lib.compareInt x y := by
  unfold Lib.compareInt
  by_cases h1 : x < y
  · rw [if_pos h1, if_neg (by omega), if_pos h1]; rfl
  · by_cases h2 : y < x
    · rw [if_pos h2, if_neg h1, if_pos h2]
    · rw [if_neg h2, if_neg h1, if_neg h1, if_neg h2]; rfl
theorem cmpBytes_neg : ∀ (a b : List UInt8), Lib.compareBytes b a = -Lib.compareBytes a b
  | [], [] => rfl
  | [], _ :: _ => rfl
  | _ :: _, [] => rfl
  | a :: l, b :: m => by
    have ih := cmpBytes_neg l m
    by_cases h1 : a < b
    · have h2 : ¬ b < a := by
        have h1' : a.toNat < b.toNat := h1
        show ¬ b.toNat < a.toNat
        omega
      simp only [Lib.compareBytes, h1, h2, if_true, if_false]; rfl
    · by_cases h2 : b < a
      · simp only [Lib.compareBytes, h1, h2, if_true, if_false]
      · simp only [Lib.compareBytes, h1, h2, if_false]; exact ih
theorem cwB_neg (a b : List UInt8) : cwB b a = -cwB a b := by
  unfold cwB
  cases ha : numeralB a <;> cases hb : numeralB b <;> simp only [Bool.and_true, Bool.and_false, Bool.false_and, Bool.true_and, if_true, if_false, Bool.false_eq_true]
  · exact cmpBytes_neg a b
  · rfl
  · by_cases h : a.length = b.length
    · rw [if_neg (by simp [h]), if_neg (by simp [h])]; exact cmpBytes_neg a b
    · rw [if_pos (by simp; omega), if_pos (by simp; omega)]; exact cmpInt_neg _ _
theorem firstNe_neg (l : List Int) : firstNe (l.map fun x => -x) = -firstNe l := by
  induction l with
  | nil => rfl
  | cons a l ih =>
    unfold firstNe at ih ⊢
    by_cases h : a = 0
    · subst h; simpa using ih
    · have h' : ¬ -a = 0 := by omega
      simp [List.find?_cons, bne_iff_ne, h, h']
theorem zip_neg : ∀ (xs ys : List (List UInt8)), List.zipWith cwB ys xs = (List.zipWith cwB xs ys).map fun x => -x
  | [], ys => by cases ys <;> rfl
  | x :: xs, [] => rfl
  | x :: xs, y :: ys => by simp only [List.zipWith_cons_cons, List.map_cons, zip_neg xs ys, cwB_neg x y]
theorem rowsB_neg (xs ys : List (List UInt8)) : rowsB ys xs = -rowsB xs ys := by
  unfold rowsB
  rw [zip_neg, firstNe_neg]
  by_cases h : firstNe (List.zipWith cwB xs ys) = 0
  · rw [h]; exact cmpInt_neg _ _
  · have h' : ¬ -firstNe (List.zipWith cwB xs ys) = 0 := by omega
    rw [if_pos (by simpa using h), if_pos (by simpa using h')]
theorem ceB_neg (a b : List UInt8) : ceB b a = -ceB a b := by
  unfold ceB
  by_cases h : a = b
  · subst h; simp
  · have h1 : (a == b) = false := by simpa using h
    have h2 : (b == a) = false := by rw [beq_eq_false_iff_ne]; exact fun e => h e.symm
    rw [h1, h2]
    cases ha : (a == []) <;> cases hb : (b == [])
    · exact rowsB_neg _ _
    · rfl
    · rfl
    · exact absurd ((by simpa using ha : a = []).trans (by simpa using hb : b = []).symm) h
theorem orderB_neg (v w : Ver) : orderB w v = -orderB v w := by
  unfold orderB
  rw [← firstNe_neg]
  simp only [List.map_cons, List.map_nil, cmpInt_neg v.a w.a, cmpInt_neg v.b w.b, cmpInt_neg v.c w.c, ceB_neg v.e w.e]
/-- Where a span's own form is right. -/
theorem check_z : Ver.z.check = 0 := by decide
theorem form_f {s : Sp} (h : ((!(s.f.eqb Ver.z) && !s.hf) || (!(s.t.eqb Ver.z) && !s.ht)) = false) : (s.hf = false → s.f = Ver.z) ∧ (s.ht = false → s.t = Ver.z) := by
  rw [Bool.or_eq_false_iff] at h
  constructor
  · intro hf
    have := h.1
    rw [hf] at this
    simp at this
    exact Ver.eqb_iff.1 this
  · intro ht
    have := h.2
    rw [ht] at this
    simp at this
    exact Ver.eqb_iff.1 this
/-- The reference's errors of a span, in its order, are the program's. -/
def formR (s : Sp) : Bool := (!s.hf && !(s.f.eqb Ver.z)) || (!s.ht && !(s.t.eqb Ver.z))
theorem formR_eq (s : Sp) : formR s = ((!(s.f.eqb Ver.z) && !s.hf) || (!(s.t.eqb Ver.z) && !s.ht)) := by
  unfold formR; rw [Bool.and_comm, Bool.and_comm (!s.ht)]
theorem spanR_form {s : Sp} (h : formR s = true) : spanE s = 2 := spE_form (by rw [← formR_eq]; exact h)
theorem spanR_ver {s : Sp} (h : formR s = false) (h2 : (firstB s.f.check s.t.check != 0) = true) : spanE s = firstB s.f.check s.t.check := by
  rw [formR_eq] at h
  obtain ⟨hf, ht⟩ := form_f h
  unfold firstB at h2 ⊢
  by_cases hc : s.f.check = 0
  · simp only [hc, bne_self_eq_false, Bool.false_eq_true, if_false] at h2 ⊢
    have h3 : s.ht = true := by
      cases hh : s.ht with
      | true => rfl
      | false => rw [ht hh, check_z] at h2; cases h2
    exact spE_t h (by simp [hc]) (by rw [h3]; simpa using h2)
  · rw [if_pos (by simpa using hc)]
    have h3 : s.hf = true := by
      cases hh : s.hf with
      | true => rfl
      | false => rw [hf hh] at hc; exact absurd check_z hc
    exact spE_f h (by rw [h3]; simpa using hc)
theorem checks_0 {s : Sp} (h2 : (firstB s.f.check s.t.check != 0) = false) : s.f.check = 0 ∧ s.t.check = 0 := by
  unfold firstB at h2
  by_cases hc : s.f.check = 0
  · exact ⟨hc, by simpa [hc] using h2⟩
  · simp [hc] at h2
theorem spanR_order {s : Sp} (h : formR s = false) (h2 : (firstB s.f.check s.t.check != 0) = false) (h3 : ((s.hf && s.ht) && decide (compareR s.f s.t ≥ 0)) = true) : spanE s = 7 := by
  rw [formR_eq] at h
  obtain ⟨c1, c2⟩ := checks_0 h2
  rw [compare_eq c1 c2] at h3
  exact spE_o h (by simp [c1]) (by simp [c2]) h3
theorem spanR_ok {s : Sp} (h : formR s = false) (h2 : (firstB s.f.check s.t.check != 0) = false) (h3 : ((s.hf && s.ht) && decide (compareR s.f s.t ≥ 0)) = false) : spanE s = 0 := by
  rw [formR_eq] at h
  obtain ⟨c1, c2⟩ := checks_0 h2
  rw [compare_eq c1 c2] at h3
  exact spE_ok h (by simp [c1]) (by simp [c2]) h3
/-- A span without fault has right versions. -/
theorem span_checks {s : Sp} (h : spanE s = 0) : s.f.check = 0 ∧ s.t.check = 0 := by
  have hform : ((!(s.f.eqb Ver.z) && !s.hf) || (!(s.t.eqb Ver.z) && !s.ht)) = false := by
    cases hh : ((!(s.f.eqb Ver.z) && !s.hf) || (!(s.t.eqb Ver.z) && !s.ht)) with
    | false => rfl
    | true => rw [spE_form hh] at h; cases h
  obtain ⟨hf, ht⟩ := form_f hform
  have h1 : s.f.check = 0 := by
    apply Decidable.byContradiction; intro hc
    have hh : s.hf = true := by
      cases hh : s.hf with
      | true => rfl
      | false => rw [hf hh] at hc; exact absurd check_z hc
    rw [spE_f hform (by rw [hh]; simpa using hc)] at h
    exact hc h
  refine ⟨h1, ?_⟩
  apply Decidable.byContradiction; intro hc
  have hh : s.ht = true := by
    cases hh : s.ht with
    | true => rfl
    | false => rw [ht hh] at hc; exact absurd check_z hc
  rw [spE_t hform (by simp [h1]) (by rw [hh]; simpa using hc)] at h
  exact hc h
theorem prev_ok {ss : List Sp} {i : Nat} (hi : i < ss.length) (h0 : 0 < i) (ht : (((List.range ss.length).map (spAt ss)).take i).all (· == 0) = true) : spanE (ss.getD (i - 1) Sp.z) = 0 := by
  have h1 : spAt ss (i - 1) = 0 := by
    have h2 := List.all_eq_true.1 ht (spAt ss (i - 1)) (by
      rw [List.mem_iff_getElem?]
      refine ⟨i - 1, ?_⟩
      rw [List.getElem?_take, if_pos (by omega)]
      have : i - 1 < ss.length := by omega
      simp [this])
    simpa using h2
  apply Decidable.byContradiction; intro hne
  rw [spAt_own (by simpa using hne)] at h1
  exact hne h1
theorem behindR {p s : Sp} (hp : p.t.check = 0) (hs : s.f.check = 0) : decide (compareR p.t s.f ≥ 0) = decide (orderB s.f p.t ≤ 0) := by
  rw [compare_eq hp hs, orderB_neg s.f p.t]
  simp only [decide_eq_decide]; omega
theorem spAt_form {ss : List Sp} {i : Nat} (h : formR (ss.getD i Sp.z) = true) : spAt ss i = 2 := (spAt_own (by rw [spanR_form h]; rfl)).trans (spanR_form h)
theorem spAt_ver {ss : List Sp} {i : Nat} (h : formR (ss.getD i Sp.z) = false) (h2 : (firstB (ss.getD i Sp.z).f.check (ss.getD i Sp.z).t.check != 0) = true) : spAt ss i = firstB (ss.getD i Sp.z).f.check (ss.getD i Sp.z).t.check :=
  (spAt_own (by rw [spanR_ver h h2]; exact h2)).trans (spanR_ver h h2)
theorem spAt_ord {ss : List Sp} {i : Nat} (h : formR (ss.getD i Sp.z) = false) (h2 : (firstB (ss.getD i Sp.z).f.check (ss.getD i Sp.z).t.check != 0) = false)
    (h3 : (((ss.getD i Sp.z).hf && (ss.getD i Sp.z).ht) && decide (compareR (ss.getD i Sp.z).f (ss.getD i Sp.z).t ≥ 0)) = true) : spAt ss i = 7 := (spAt_own (by rw [spanR_order h h2 h3]; rfl)).trans (spanR_order h h2 h3)
section
variable {ss : List Sp} {i : Nat} (hi : i < ss.length) (ht : (((List.range ss.length).map (spAt ss)).take i).all (· == 0) = true) (h : formR (ss.getD i Sp.z) = false) (h2 : (firstB (ss.getD i Sp.z).f.check (ss.getD i Sp.z).t.check != 0) = false)
  (h3 : (((ss.getD i Sp.z).hf && (ss.getD i Sp.z).ht) && decide (compareR (ss.getD i Sp.z).f (ss.getD i Sp.z).t ≥ 0)) = false)
include hi ht h h2 h3
theorem spAt_r7 (h6 : (decide ((i : Int) > 0) && ((!(ss.getD (i - 1) Sp.z).ht || !(ss.getD i Sp.z).hf) || decide (compareR (ss.getD (i - 1) Sp.z).t (ss.getD i Sp.z).f ≥ 0))) = true) : spAt ss i = 7 := by
  rw [Bool.and_eq_true] at h6
  have h0 : 0 < i := by have := of_decide_eq_true h6.1; omega
  have hp := (span_checks (prev_ok hi h0 ht)).2
  rw [behindR hp (checks_0 h2).1] at h6
  exact spAt_bad (by rw [spanR_ok h h2 h3]; rfl) (by simp; omega) h6.2
theorem spAt_r0 (h6 : (decide ((i : Int) > 0) && ((!(ss.getD (i - 1) Sp.z).ht || !(ss.getD i Sp.z).hf) || decide (compareR (ss.getD (i - 1) Sp.z).t (ss.getD i Sp.z).f ≥ 0))) = false) : spAt ss i = 0 := by
  by_cases h0 : 0 < i
  · have hp := (span_checks (prev_ok hi h0 ht)).2
    rw [show decide ((i : Int) > 0) = true from decide_eq_true (by omega), Bool.true_and, behindR hp (checks_0 h2).1] at h6
    exact spAt_ok (by rw [spanR_ok h h2 h3]; rfl) (by simp; omega) h6
  · exact spAt_first (by rw [spanR_ok h h2 h3]; rfl) (by simp; omega)
end
end Go.Proofs.YtlkhdembbogcaaaGreatDoor

set_option linter.unusedVariables false
set_option linter.unusedSimpArgs false
set_option maxRecDepth 100000
set_option maxHeartbeats 4000000
namespace Go.Proofs.YtlkhdembbogcaaaGreatDoor
open Go
open Go.RowKit
theorem pc_verr2 (v w : Ver) (hv : v.e.length < 4294967281) (hw : w.e.length < 4294967281) : PureCall Tryz.prog J 21 [.one (.d (.vec 4 [verD v, verD w]))] (.one (.d (.int .i64 (firstB v.check w.check)))) := by
  have h := pc_outref2_VersionError [v, w] (by simp) (by intro u hu; simp at hu; rcases hu with rfl | rfl <;> assumption)
  rw [show firstNe ([v, w].map Ver.check) = firstB v.check w.check from first2 _ _] at h
  exact h
theorem pc_outref2_RangeError (ss : List Sp) (hl : ss.length ≤ 1000000000) (hv : ∀ s ∈ ss, SpLen s) :
  PureCall Tryz.prog J 51 [rgV ss] (.one (.d (.int .i64 (rangeE ss)))) := by
 refine PureCall.of_body tOk (fn := Tryz.f51) Tryz.func51 (by kernel_rfl) rfl (Nat.le_of_ble_eq_true rfl) (fun E => ?_)
 refine W.seq ?_
 refine W.region ?_
 refine S.box rfl rfl rfl rfl ?_
 refine S.pure tOk zOk rfl rfl rfl ?_
 refine thenK_n ?_
 refine W.seq ?_
 refine W.seq ?_
 refine W.region ?_
 refine S.pure tOk zOk rfl rfl rfl ?_
 refine S.pure tOk zOk rfl rfl rfl ?_
 refine S.pure tOk zOk rfl rfl rfl ?_
 refine S.pure tOk zOk rfl rfl rfl ?_
 refine thenK_n ?_
 refine W.cond rfl (fun c1 => ?_) (fun c1 => ?_)
 ·skip
  refine W.seq ?_
  refine W.region ?_
  refine S.pure tOk zOk rfl rfl rfl ?_
  refine thenK_n ?_
  refine W.ret ?_
  refine thenK_r ?_
  exact ⟨_, rfl, rfl, LeV.of_eq (congrArg (fun x => V.one (C.d (D.int .i64 x))) (rangeE_large (by simpa using c1)).symm)⟩
 ·skip
  have hlen := rangeE_list (ss := ss) (by simpa using c1)
  refine W.skip ?_
  refine thenK_n ?_
  refine W.seq ?_
  refine W.seq ?_
  refine W.region ?_
  refine S.pure tOk zOk rfl rfl rfl ?_
  refine S.pure tOk zOk rfl rfl rfl ?_
  refine S.pure tOk zOk rfl rfl rfl ?_
  refine S.pure tOk zOk rfl rfl rfl ?_
  refine thenK_n ?_
  refine W.block ?_
  refine W.loop (fun k st => ∃ i : Nat, i ≤ ss.length ∧ (((List.range ss.length).map (spAt ss)).take i).all (· == 0) = true ∧ k = ss.length - i ∧ ∃ t b2 r2 m2, st = ⟨t, [[.d (.vec 10 (ss.map spD))]] ++ b2, [] ++ r2, [] ++ m2⟩ ∧ holdsL t [(1, .one (.ptr 0 0)), (11, .one (.d (.vec 10 (ss.map spD)))), (12, .one (.d (.int .i64 ((ss.map spD).length : Int)))), (13, .one (.d (.int .i64 (i : Int))))]) (ss.length) ⟨0, Nat.zero_le _, by simp, rfl, _, _, _, _, rfl, rfl, rfl, rfl, rfl, trivial⟩ ?_
  rintro k0 _ ⟨i, f0_0, f0_1, rfl, t0, bb0, rr0, mm0, rfl, hh0⟩
  refine W.keepR _ _ _ _ _ _ _ hh0 rfl ?_
  refine W.seq ?_
  refine W.region ?_
  refine S.pure tOk zOk rfl rfl rfl ?_
  refine thenK_n ?_
  refine W.seq ?_
  refine W.cond rfl (fun c2 => ?_) (fun c2 => ?_)
  ·skip
   have hi := row_lt c2
   have hs := sp_at hv hi
   have hi1 : i - 1 < ss.length := by omega
   have hs1 := sp_at hv hi1
   refine W.skip ?_
   refine thenK_n ?_
   refine W.seq ?_
   refine W.block ?_
   refine W.seq ?_
   refine W.region ?_
   refine S.pure tOk zOk rfl rfl rfl ?_
   refine S.pureE tOk zOk rfl (row_ok hi) (row_at Sp.z hi) rfl ?_
   refine S.pure tOk zOk rfl rfl rfl ?_
   refine S.alloc tOk rfl rfl rfl rfl ?_
   refine S.pure tOk zOk rfl rfl rfl ?_
   refine S.store tOk rfl rfl rfl rfl rfl rfl rfl rfl ?_
   refine thenK_n ?_
   refine W.seq ?_
   refine W.seq ?_
   refine W.region ?_
   refine S.pure tOk zOk rfl rfl rfl ?_
   refine S.pure tOk zOk rfl rfl rfl ?_
   refine S.pure tOk zOk rfl rfl rfl ?_
   refine S.pure tOk zOk rfl rfl rfl ?_
   refine S.pureG tOk zOk rfl rfl tg (fun _ => rfl) rfl ?_
   refine S.pureG tOk zOk rfl rfl tg (fun _ => rfl) rfl ?_
   refine S.pureG tOk zOk rfl rfl tg (fun _ => rfl) rfl ?_
   refine S.pureG tOk zOk rfl rfl tg (fun _ => rfl) rfl ?_
   refine S.pickAnd tOk zOk rfl rfl tg ?_
   refine S.pure tOk zOk rfl rfl rfl ?_
   refine S.pureG tOk zOk rfl rfl tg (fun _ => rfl) rfl ?_
   refine S.pureG tOk zOk rfl rfl tg (fun _ => rfl) rfl ?_
   refine S.pureG tOk zOk rfl rfl tg (fun _ => rfl) rfl ?_
   refine S.pureG tOk zOk rfl rfl tg (fun _ => rfl) rfl ?_
   refine S.pureG tOk zOk rfl rfl tg (fun _ => rfl) rfl ?_
   refine S.pureG tOk zOk rfl rfl tg (fun _ => rfl) rfl ?_
   refine S.pureG tOk zOk rfl rfl tg (fun _ => rfl) rfl ?_
   refine S.pureG tOk zOk rfl rfl tg (fun _ => rfl) rfl ?_
   refine S.pickAndG tOk zOk rfl rfl rfl tg tg ?_
   refine S.pickOr tOk zOk rfl rfl tg ?_
   refine thenK_n ?_
   refine W.cond rfl (fun c3 => ?_) (fun c3 => ?_)
   ·skip
    refine W.seq ?_
    refine W.region ?_
    refine S.pure tOk zOk rfl rfl rfl ?_
    refine thenK_n ?_
    refine W.ret ?_
    refine thenK_r ?_
    refine blockK_r ?_
    refine thenK_r ?_
    refine thenK_r ?_
    refine blockK_r ?_
    refine thenK_r ?_
    exact ⟨_, rfl, rfl, LeV.of_eq (congrArg (fun x => V.one (C.d (D.int .i64 x))) (hlen.trans (spAt_hit hi f0_1 (spAt_form c3) (by decide))).symm)⟩
   ·skip
    refine W.skip ?_
    refine thenK_n ?_
    refine W.seq ?_
    refine W.seq ?_
    refine W.region ?_
    refine S.pure tOk zOk rfl rfl rfl ?_
    refine S.pure tOk zOk rfl rfl rfl ?_
    refine S.pure tOk zOk rfl rfl rfl ?_
    refine S.pure tOk zOk rfl rfl rfl ?_
    refine S.slice tOk rfl rfl ?_
    refine S.call rfl rfl rfl rfl rfl (pc_verr2 (ss.getD i Sp.z).f (ss.getD i Sp.z).t hs.1 hs.2) ?_
    refine S.pure tOk zOk rfl rfl rfl ?_
    refine thenK_n ?_
    refine W.seq ?_
    refine W.region ?_
    refine S.pure tOk zOk rfl rfl rfl ?_
    refine S.pure tOk zOk rfl rfl rfl ?_
    refine thenK_n ?_
    refine W.cond rfl (fun c4 => ?_) (fun c4 => ?_)
    ·skip
     refine W.seq ?_
     refine W.region ?_
     refine S.pure tOk zOk rfl rfl rfl ?_
     refine S.pure tOk zOk rfl rfl rfl ?_
     refine thenK_n ?_
     refine W.ret ?_
     refine thenK_r ?_
     refine blockK_r ?_
     refine thenK_r ?_
     refine thenK_r ?_
     refine blockK_r ?_
     refine thenK_r ?_
     exact ⟨_, rfl, rfl, LeV.of_eq (congrArg (fun x => V.one (C.d (D.int .i64 x))) (hlen.trans (spAt_hit hi f0_1 (spAt_ver c3 c4) (by simpa using c4))).symm)⟩
    ·skip
     refine W.skip ?_
     refine thenK_n ?_
     refine W.seq ?_
     refine W.seq ?_
     refine W.region ?_
     refine S.pure tOk zOk rfl rfl rfl ?_
     refine S.pure tOk zOk rfl rfl rfl ?_
     refine S.pure tOk zOk rfl rfl rfl ?_
     refine S.pureG tOk zOk rfl rfl tg (fun _ => rfl) rfl ?_
     refine S.pureG tOk zOk rfl rfl tg (fun _ => rfl) rfl ?_
     refine S.pickAnd tOk zOk rfl rfl tg ?_
     refine S.pure tOk zOk rfl rfl rfl ?_
     refine S.pureG tOk zOk rfl rfl tg (fun _ => rfl) rfl ?_
     refine S.pureG tOk zOk rfl rfl tg (fun _ => rfl) rfl ?_
     refine S.pureG tOk zOk rfl rfl tg (fun _ => rfl) rfl ?_
     refine S.pureG tOk zOk rfl rfl tg (fun _ => rfl) rfl ?_
     refine S.callG rfl rfl rfl rfl tg rfl rfl (fun _ => pc_outref2_CompareOf (ss.getD i Sp.z).f (ss.getD i Sp.z).t hs.1 hs.2) ?_
     refine S.pureG tOk zOk rfl rfl tg (fun _ => rfl) rfl ?_
     refine S.pickAnd tOk zOk rfl rfl tg ?_
     refine thenK_n ?_
     refine W.cond rfl (fun c5 => ?_) (fun c5 => ?_)
     ·skip
      refine W.seq ?_
      refine W.region ?_
      refine S.pure tOk zOk rfl rfl rfl ?_
      refine thenK_n ?_
      refine W.ret ?_
      refine thenK_r ?_
      refine blockK_r ?_
      refine thenK_r ?_
      refine thenK_r ?_
      refine blockK_r ?_
      refine thenK_r ?_
      exact ⟨_, rfl, rfl, LeV.of_eq (congrArg (fun x => V.one (C.d (D.int .i64 x))) (hlen.trans (spAt_hit hi f0_1 (spAt_ord c3 c4 c5) (by decide))).symm)⟩
     ·skip
      refine W.skip ?_
      refine thenK_n ?_
      refine W.seq ?_
      refine W.regionD mixed (by kernel_rfl) ?_
      refine D.pure tOk zOk rfl rfl rfl rfl ?_
      refine D.pure tOk zOk rfl rfl rfl rfl ?_
      refine D.pure tOk zOk rfl rfl rfl rfl ?_
      refine D.pureG tOk zOk rfl rfl rfl tg (fun _ => rfl) rfl ?_
      refine D.pureG tOk zOk rfl rfl rfl tg (fun _ => rfl) rfl ?_
      refine D.pureG tOk zOk rfl rfl rfl tg (fun _ => rfl) rfl ?_
      refine D.pureG tOk zOk rfl rfl rfl tg (fun _ => rfl) rfl ?_
      refine D.pureEG tOk zOk rfl rfl rfl tg (fun h => pred_ok h hi (by omega)) (row_pred Sp.z hi (by omega)) rfl ?_
      refine D.pureG tOk zOk rfl rfl rfl tg (fun _ => rfl) rfl ?_
      refine D.pureG tOk zOk rfl rfl rfl tg (fun _ => rfl) rfl ?_
      refine D.pureG tOk zOk rfl rfl rfl tg (fun _ => rfl) rfl ?_
      refine D.pureG tOk zOk rfl rfl rfl tg (fun _ => rfl) rfl ?_
      refine D.pureG tOk zOk rfl rfl rfl tg (fun _ => rfl) rfl ?_
      refine D.pureG tOk zOk rfl rfl rfl tg (fun _ => rfl) rfl ?_
      refine D.pureG tOk zOk rfl rfl rfl tg (fun _ => rfl) rfl ?_
      refine D.pickOrG tOk zOk rfl rfl rfl tg tg ?_
      refine D.pureG tOk zOk rfl rfl rfl tg (fun _ => rfl) rfl ?_
      refine D.pureG tOk zOk rfl rfl rfl tg (fun _ => rfl) rfl ?_
      refine D.pureG tOk zOk rfl rfl rfl tg (fun _ => rfl) rfl ?_
      refine D.pureG tOk zOk rfl rfl rfl tg (fun _ => rfl) rfl ?_
      refine D.pureG tOk zOk rfl rfl rfl tg (fun _ => rfl) rfl ?_
      refine D.pureEG tOk zOk rfl rfl rfl tg (fun h => pred_ok (andl h) hi (by omega)) (row_pred Sp.z hi (by omega)) rfl ?_
      refine D.pureG tOk zOk rfl rfl rfl tg (fun _ => rfl) rfl ?_
      refine D.pureG tOk zOk rfl rfl rfl tg (fun _ => rfl) rfl ?_
      refine D.pureG tOk zOk rfl rfl rfl tg (fun _ => rfl) rfl ?_
      refine D.pureG tOk zOk rfl rfl rfl tg (fun _ => rfl) rfl ?_
      refine D.callG rfl rfl rfl rfl tg rfl rfl (fun _ => pc_outref2_CompareOf (ss.getD (i - 1) Sp.z).t (ss.getD i Sp.z).f hs1.2 hs.1) ?_
      refine D.pureG tOk zOk rfl rfl rfl tg (fun _ => rfl) rfl ?_
      refine D.pickOrG tOk zOk rfl rfl rfl tg tg ?_
      refine D.pickAnd tOk zOk rfl rfl tg ?_
      refine thenK_n ?_
      refine W.cond rfl (fun c6 => ?_) (fun c6 => ?_)
      ·skip
       refine W.seq ?_
       refine W.region ?_
       refine S.pure tOk zOk rfl rfl rfl ?_
       refine thenK_n ?_
       refine W.ret ?_
       refine blockK_r ?_
       refine thenK_r ?_
       refine thenK_r ?_
       refine blockK_r ?_
       refine thenK_r ?_
       exact ⟨_, rfl, rfl, LeV.of_eq (congrArg (fun x => V.one (C.d (D.int .i64 x))) (hlen.trans (spAt_hit hi f0_1 (spAt_r7 hi f0_1 c3 c4 c5 c6) (by decide))).symm)⟩
      ·skip
       refine W.skip ?_
       refine blockK_n ?_
       refine thenK_n ?_
       refine W.region ?_
       refine S.pure tOk zOk rfl rfl rfl ?_
       refine S.pure tOk zOk rfl rfl rfl ?_
       refine loop_n (ss.length - (i + 1)) (by omega) ⟨i + 1, hi, all_take_succ (d := 0) (by simpa using hi) f0_1 (spAt_go hi (spAt_r0 hi f0_1 c3 c4 c5 c6)), rfl, _, _, _, _, rfl, rfl, rfl, rfl, inc_i64 (by omega), trivial⟩
  ·skip
   have hi := row_ge c2
   refine W.exit ?_
   refine thenK_e ?_
   refine thenK_e ?_
   refine blockK_x ?_
   refine thenK_n ?_
   refine W.seq ?_
   refine W.region ?_
   refine S.pure tOk zOk rfl rfl rfl ?_
   refine thenK_n ?_
   refine W.ret ?_
   exact ⟨_, rfl, rfl, LeV.of_eq (congrArg (fun x => V.one (C.d (D.int .i64 x))) (hlen.trans (firstNe_none (by simpa using hi) f0_1)).symm)⟩
end Go.Proofs.YtlkhdembbogcaaaGreatDoor

/- Plain words: two rows are the same. -/
set_option linter.unusedVariables false
set_option linter.unusedSimpArgs false
namespace Go.Proofs.YtlkhdembbogcaaaGreatDoor
open Go
end Go.Proofs.YtlkhdembbogcaaaGreatDoor

set_option linter.unusedVariables false
set_option linter.unusedSimpArgs false
set_option maxRecDepth 100000
set_option maxHeartbeats 4000000
namespace Go.Proofs.YtlkhdembbogcaaaGreatDoor
open Go
open Go.RowKit
end Go.Proofs.YtlkhdembbogcaaaGreatDoor

/- Plain words: spans as they are written, read by the program and by the reference. -/
set_option linter.unusedVariables false
set_option linter.unusedSimpArgs false
namespace Go.Proofs.YtlkhdembbogcaaaGreatDoor
open Go
/-- The form of a span (the program). -/
def itemB (s : List UInt8) : It × Bool :=
  if s == [42] then (⟨42, [], []⟩, true)
  else if Lib.hasPrefix s [62, 61] then
    (if (Lib.cut (Lib.trimPrefix s [62, 61]) [32]).2.2 then
      (⟨98, (Lib.cut (Lib.trimPrefix s [62, 61]) [32]).1, Lib.trimPrefix (Lib.cut (Lib.trimPrefix s [62, 61]) [32]).2.1 [60]⟩,
        (Lib.hasPrefix (Lib.cut (Lib.trimPrefix s [62, 61]) [32]).2.1 [60] && rowB (Lib.cut (Lib.trimPrefix s [62, 61]) [32]).1) && rowB (Lib.trimPrefix (Lib.cut (Lib.trimPrefix s [62, 61]) [32]).2.1 [60]))
     else (⟨62, Lib.trimPrefix s [62, 61], []⟩, rowB (Lib.trimPrefix s [62, 61])))
  else if !(s == []) && decide (Lib.indexByte [60, 61, 94, 126] (bI (s.getD 0 0)).toNat.toUInt8 ≥ 0) then (⟨bI (s.getD 0 0), s.drop 1, []⟩, rowB (s.drop 1))
  else (⟨94, s, []⟩, rowB s)
/-- A version that comes next (the program). -/
def behindB (v : Ver) (g : Int) : Ver × Int :=
  if g == 61 && !(v.e == []) then (⟨v.a, v.b, v.c, v.e ++ [46, 48]⟩, checkB v.a v.b v.c (v.e ++ [46, 48]))
  else if g == 61 then (⟨(nextB v 2).1.a, (nextB v 2).1.b, (nextB v 2).1.c, [48]⟩, (nextB v 2).2)
  else if g == 94 && !(v.a == 0) then nextB v 0 else nextB v 1
/-- A span out of its form (the program). -/
def spanB (it : It) : Sp × Int :=
  if it.sign == 42 then (Sp.z, 0)
  else if (parseB it.first).2 != 0 then (Sp.z, (parseB it.first).2)
  else if it.sign == 62 then (⟨true, false, (parseB it.first).1, Ver.z⟩, 0)
  else if it.sign == 60 then (⟨false, true, Ver.z, (parseB it.first).1⟩, 0)
  else if it.sign == 98 then (⟨true, true, (parseB it.first).1, (parseB it.last).1⟩, (parseB it.last).2)
  else (⟨true, true, (parseB it.first).1, (behindB (parseB it.first).1 it.sign).1⟩, (behindB (parseB it.first).1 it.sign).2)
def badB (t : List UInt8) : Bool := (!(itemB t).2 || (!((itemB t).1.sign == 42) && wrongB (itemB t).1.first)) || ((itemB t).1.sign == 98 && wrongB (itemB t).1.last)
abbrev partsR (s : List UInt8) : List (List UInt8) := Lib.split s [44, 32]
/-- A range that is read (the program). -/
def rangeB (s : List UInt8) : List Sp × Int :=
  if decide ((s.length : Int) > 1000) then ([], 4) else if s == [110, 111, 110, 101] then ([], 0)
  else if (partsR s).any badB then ([], 8)
  else if firstNe ((partsR s).map fun t => (spanB (itemB t).1).2) != 0 then ([], firstNe ((partsR s).map fun t => (spanB (itemB t).1).2))
  else if rangeE ((partsR s).map fun t => (spanB (itemB t).1).1) != 0 then ([], rangeE ((partsR s).map fun t => (spanB (itemB t).1).1))
  else ((partsR s).map fun t => (spanB (itemB t).1).1, 0)
theorem trim_le (s p : List UInt8) : (Lib.trimPrefix s p).length ≤ s.length := by
  unfold Lib.trimPrefix
  split <;> simp
theorem cut3_le (s p : List UInt8) : (Lib.trimPrefix (Lib.cut s p).2.1 [60]).length ≤ s.length := Nat.le_trans (trim_le _ _) (cut_le s p).2
theorem checkB_ver (v : Ver) : checkB v.a v.b v.c v.e = v.check := rfl
theorem item_le (s : List UInt8) : (itemB s).1.first.length ≤ s.length ∧ (itemB s).1.last.length ≤ s.length := by
  unfold itemB
  have h1 := trim_le s [62, 61]
  have h2 := cut_le (Lib.trimPrefix s [62, 61]) [32]
  have h3 := cut3_le (Lib.trimPrefix s [62, 61]) [32]
  split
  · simp
  · split
    · split
      · exact ⟨by simp only; omega, by simp only; omega⟩
      · exact ⟨h1, by simp⟩
    · split
      · simp
      · simp
theorem parse_e (s : List UInt8) : (parseB s).1.e.length ≤ s.length := by
  have hc := cut_le s [45]
  unfold parseB parseW
  split
  · simp [Ver.z]
  · split
    · unfold threeB
      split
      · simp [Ver.z]
      · split
        · simp [Ver.z]
        · split
          · simp [Ver.z]
          · split
            · simp [Ver.z]
            · exact hc.2
    · simp [Ver.z]
theorem next_e (v : Ver) (p : Int) : (nextB v p).1.e = [] := by
  have h : ∀ x y z, (nextOk x y z).1.e = [] := fun x y z => by unfold nextOk; split <;> rfl
  unfold nextB
  split
  · rfl
  · split
    · exact h _ _ _
    · split
      · exact h _ _ _
      · split
        · exact h _ _ _
        · split
          · rfl
          · exact h _ _ _
theorem behind_e (v : Ver) (g : Int) : (behindB v g).1.e.length ≤ v.e.length + 2 := by
  unfold behindB
  split
  · simp
  · split
    · simp
    · split
      · rw [next_e]; simp
      · rw [next_e]; simp
theorem span_e (t : List UInt8) : (spanB (itemB t).1).1.f.e.length ≤ t.length + 2 ∧ (spanB (itemB t).1).1.t.e.length ≤ t.length + 2 := by
  have h := item_le t
  have h1 := parse_e (itemB t).1.first
  have h2 := parse_e (itemB t).1.last
  have h3 := behind_e (parseB (itemB t).1.first).1 (itemB t).1.sign
  unfold spanB
  split
  · simp [Sp.z, Ver.z]
  · split
    · simp [Sp.z, Ver.z]
    · split
      · exact ⟨by simp only; omega, by simp [Ver.z]⟩
      · split
        · exact ⟨by simp [Ver.z], by simp only; omega⟩
        · split
          · exact ⟨by simp only; omega, by simp only; omega⟩
          · exact ⟨by simp only; omega, by simp only; omega⟩
def spRes (t : List UInt8) : Sp := (spanB (itemB t).1).1
/-- 'any' and its rounds. -/
theorem any_take {α : Type} {xs : List α} {p : α → Bool} {i : Nat} {d : α} (hi : i < xs.length) (h : (xs.take i).any p = false) (hp : p (xs.getD i d) = false) : (xs.take (i + 1)).any p = false := by
  rw [List.take_add_one, List.any_append, h]
  simp only [List.getD_eq_getElem?_getD, List.getElem?_eq_getElem hi, Option.getD_some] at hp
  simp [List.getElem?_eq_getElem hi, hp]
theorem any_hit {α : Type} {xs : List α} {p : α → Bool} {i : Nat} {d : α} (hi : i < xs.length) (hp : p (xs.getD i d) = true) : xs.any p = true := by
  simp only [List.getD_eq_getElem?_getD, List.getElem?_eq_getElem hi, Option.getD_some] at hp
  exact List.any_eq_true.2 ⟨_, List.getElem_mem hi, hp⟩
theorem any_end {α : Type} {xs : List α} {p : α → Bool} {i : Nat} (hi : xs.length ≤ i) (h : (xs.take i).any p = false) : xs.any p = false := by rwa [List.take_of_length_le hi] at h
section
variable {s : List UInt8}
theorem rB_large (h : decide ((s.length : Int) > 1000) = true) : rangeB s = ([], 4) := if_pos h
theorem rB_none (h : decide ((s.length : Int) > 1000) = false) (h2 : (s == [110, 111, 110, 101]) = true) : rangeB s = ([], 0) := by
  rw [rangeB, if_neg (Bool.eq_false_iff.1 h), if_pos h2]
theorem rB_bad (h : decide ((s.length : Int) > 1000) = false) (h2 : (s == [110, 111, 110, 101]) = false) (h3 : (partsR s).any badB = true) : rangeB s = ([], 8) := by
  rw [rangeB, if_neg (Bool.eq_false_iff.1 h), if_neg (Bool.eq_false_iff.1 h2), if_pos h3]
theorem rB_err {n : Int} (h : decide ((s.length : Int) > 1000) = false) (h2 : (s == [110, 111, 110, 101]) = false) (h3 : (partsR s).any badB = false) (h4 : firstNe ((partsR s).map fun t => (spanB (itemB t).1).2) = n) (hn : n ≠ 0) : rangeB s = ([], n) := by
  rw [rangeB, if_neg (Bool.eq_false_iff.1 h), if_neg (Bool.eq_false_iff.1 h2), if_neg (Bool.eq_false_iff.1 h3), h4, if_pos (by simpa using hn)]
theorem rB_range (h : decide ((s.length : Int) > 1000) = false) (h2 : (s == [110, 111, 110, 101]) = false) (h3 : (partsR s).any badB = false) (h4 : firstNe ((partsR s).map fun t => (spanB (itemB t).1).2) = 0)
    (h5 : (rangeE ((partsR s).map spRes) != 0) = true) : rangeB s = ([], rangeE ((partsR s).map spRes)) := by
  rw [rangeB, if_neg (Bool.eq_false_iff.1 h), if_neg (Bool.eq_false_iff.1 h2), if_neg (Bool.eq_false_iff.1 h3), h4, if_neg (by simp)]
  exact if_pos h5
theorem rB_ok (h : decide ((s.length : Int) > 1000) = false) (h2 : (s == [110, 111, 110, 101]) = false) (h3 : (partsR s).any badB = false) (h4 : firstNe ((partsR s).map fun t => (spanB (itemB t).1).2) = 0)
    (h5 : (rangeE ((partsR s).map spRes) != 0) = false) : rangeB s = ((partsR s).map spRes, 0) := by
  rw [rangeB, if_neg (Bool.eq_false_iff.1 h), if_neg (Bool.eq_false_iff.1 h2), if_neg (Bool.eq_false_iff.1 h3), h4, if_neg (by simp)]
  exact if_neg (Bool.eq_false_iff.1 h5)
end
theorem code_at {ts : List (List UInt8)} {i : Nat} {f : List UInt8 → Int} (hi : i < ts.length) : (ts.map f).getD i 0 = f (ts.getD i []) := by
  simp [List.getD_eq_getElem?_getD, hi]
theorem code_go {ts : List (List UInt8)} {i : Nat} {f : List UInt8 → Int} (hi : i < ts.length) (h : (f (ts.getD i []) != 0) = false) : ((ts.map f).getD i 0 == 0) = true := by
  rw [code_at hi]; simpa using h
theorem code_hit {ts : List (List UInt8)} {i : Nat} {f : List UInt8 → Int} (hi : i < ts.length) (ht : ((ts.map f).take i).all (· == 0) = true) (h : (f (ts.getD i []) != 0) = true) : firstNe (ts.map f) = f (ts.getD i []) := by
  rw [firstNe_hit (by simpa using hi) ht (by rw [code_at hi]; simpa using h), code_at hi]
theorem code_end {ts : List (List UInt8)} {i : Nat} {f : List UInt8 → Int} (hi : ts.length ≤ i) (ht : ((ts.map f).take i).all (· == 0) = true) : firstNe (ts.map f) = 0 := firstNe_none (by simpa using hi) ht
def behindR' (v : Ver) (g : Int) : Ver × Int :=
  if g == 61 && !(v.e == []) then (⟨v.a, v.b, v.c, v.e ++ [46, 48]⟩, checkB v.a v.b v.c (v.e ++ [46, 48]))
  else if g == 61 then (⟨(nextB v 2).1.a, (nextB v 2).1.b, (nextB v 2).1.c, [48]⟩, (nextB v 2).2)
  else if g == 94 && decide (v.a > 0) then nextB v 0 else nextB v 1
def shortV (k : Int) (w : List UInt8) : Sp × Int :=
  if (parseB w).2 != 0 then (Sp.z, (parseB w).2)
  else if k == 61 && !((parseB w).1.e == []) then (⟨true, true, (parseB w).1, ⟨(parseB w).1.a, (parseB w).1.b, (parseB w).1.c, (parseB w).1.e ++ [46, 48]⟩⟩, checkB (parseB w).1.a (parseB w).1.b (parseB w).1.c ((parseB w).1.e ++ [46, 48]))
  else if k == 61 then (⟨true, true, (parseB w).1, ⟨(nextB (parseB w).1 2).1.a, (nextB (parseB w).1 2).1.b, (nextB (parseB w).1 2).1.c, [48]⟩⟩, (nextB (parseB w).1 2).2)
  else if k == 94 && decide ((parseB w).1.a > 0) then (⟨true, true, (parseB w).1, (nextB (parseB w).1 0).1⟩, (nextB (parseB w).1 0).2) else (⟨true, true, (parseB w).1, (nextB (parseB w).1 1).1⟩, (nextB (parseB w).1 1).2)
theorem shortV_def (k : Int) (w : List UInt8) : shortV k w = if (parseB w).2 != 0 then (Sp.z, (parseB w).2) else (⟨true, true, (parseB w).1, (behindR' (parseB w).1 k).1⟩, (behindR' (parseB w).1 k).2) := by
  unfold shortV behindR'
  split
  · rfl
  · split
    · rfl
    · split
      · rfl
      · split <;> rfl
def shortB (w : List UInt8) : Sp × Int :=
  if w == [42] then (Sp.z, 0)
  else if !(w == []) && decide (Lib.indexByte [61, 94, 126] (bI (w.getD 0 0)).toNat.toUInt8 ≥ 0) then shortV (bI (w.getD 0 0)) (w.drop 1) else shortV 94 w
abbrev wordsR (t : List UInt8) : List (List UInt8) := Lib.split t [32]
def tokW (ws : List (List UInt8)) (f l : List UInt8) : Sp × Int :=
  if (ws.length : Int) == 1 && Lib.hasPrefix f [62, 61] then (⟨true, false, (parseB (Lib.trimPrefix f [62, 61])).1, Ver.z⟩, (parseB (Lib.trimPrefix f [62, 61])).2)
  else if (ws.length : Int) == 1 && Lib.hasPrefix l [60] then (⟨false, true, Ver.z, (parseB (Lib.trimPrefix l [60])).1⟩, (parseB (Lib.trimPrefix l [60])).2)
  else if (ws.length : Int) == 1 then shortB f
  else if ((ws.length : Int) == 2 && Lib.hasPrefix f [62, 61]) && Lib.hasPrefix l [60] then
    (⟨true, true, (parseB (Lib.trimPrefix f [62, 61])).1, (parseB (Lib.trimPrefix l [60])).1⟩,
      if (parseB (Lib.trimPrefix f [62, 61])).2 == 8 || (parseB (Lib.trimPrefix l [60])).2 == 8 then 8 else firstB (parseB (Lib.trimPrefix f [62, 61])).2 (parseB (Lib.trimPrefix l [60])).2)
  else (Sp.z, 8)
def tokR (t : List UInt8) : Sp × Int := tokW (wordsR t) ((wordsR t).getD 0 []) ((wordsR t).getD ((wordsR t).length - 1) [])
def tokS (t : List UInt8) : Sp := (tokR t).1
def tokE (t : List UInt8) : Int := (tokR t).2
def rangeR (s : List UInt8) : List Sp × Int :=
  if decide ((s.length : Int) > 1000) then ([], 4) else if s == [110, 111, 110, 101] then ([], 0)
  else if (partsR s).any (fun t => tokE t == 8) then ([], 8)
  else if firstB (firstNe ((partsR s).map tokE)) (rangeE ((partsR s).map tokS)) != 0 then ([], firstB (firstNe ((partsR s).map tokE)) (rangeE ((partsR s).map tokS)))
  else ((partsR s).map tokS, 0)
theorem firstNe_snoc (l : List Int) (x : Int) : firstNe (l ++ [x]) = firstB (firstNe l) x := by
  induction l with
  | nil => by_cases h : x = 0 <;> simp [firstNe, firstB, h]
  | cons a l ih =>
    simp only [List.cons_append, firstNe] at ih ⊢
    by_cases h : a = 0
    · subst h; simpa using ih
    · simp [h, firstB]
theorem tok_acc {ts : List (List UInt8)} {i : Nat} (hi : i < ts.length) : firstB (firstNe ((ts.take i).map tokE)) (tokE (ts.getD i [])) = firstNe ((ts.take (i + 1)).map tokE) := by
  rw [List.take_add_one, List.getElem?_eq_getElem hi, List.map_append]
  simp only [Option.toList_some, List.map_cons, List.map_nil]
  rw [firstNe_snoc]
  simp [List.getD_eq_getElem?_getD, List.getElem?_eq_getElem hi]
theorem short_e (w : List UInt8) : (shortB w).1.f.e.length ≤ w.length + 2 ∧ (shortB w).1.t.e.length ≤ w.length + 2 := by
  have hb : ∀ (v : Ver) (g : Int), (behindR' v g).1.e.length ≤ v.e.length + 2 := fun v g => by
    unfold behindR'
    split
    · simp
    · split
      · simp
      · split
        · rw [next_e]; simp
        · rw [next_e]; simp
  have hv : ∀ (k : Int) (w : List UInt8), (shortV k w).1.f.e.length ≤ w.length + 2 ∧ (shortV k w).1.t.e.length ≤ w.length + 2 := fun k w => by
    have h1 := parse_e w
    have h2 := hb (parseB w).1 k
    rw [shortV_def]
    split
    · simp [Sp.z, Ver.z]
    · exact ⟨by simp only; omega, by simp only; omega⟩
  unfold shortB
  split
  · simp [Sp.z, Ver.z]
  · split
    · have := hv (bI (w.getD 0 0)) (w.drop 1)
      simp only [List.length_drop] at this
      omega
    · exact hv 94 w
theorem tok_e (t : List UInt8) : (tokS t).f.e.length ≤ t.length + 2 ∧ (tokS t).t.e.length ≤ t.length + 2 := by
  have hf : ((wordsR t).getD 0 []).length ≤ t.length := split_at
  have hl : ((wordsR t).getD ((wordsR t).length - 1) []).length ≤ t.length := split_at
  have t1 := trim_le ((wordsR t).getD 0 []) [62, 61]
  have t2 := trim_le ((wordsR t).getD ((wordsR t).length - 1) []) [60]
  have p1 := parse_e (Lib.trimPrefix ((wordsR t).getD 0 []) [62, 61])
  have p2 := parse_e (Lib.trimPrefix ((wordsR t).getD ((wordsR t).length - 1) []) [60])
  have hs := short_e ((wordsR t).getD 0 [])
  unfold tokS tokR tokW
  split
  · exact ⟨by simp only; omega, by simp [Ver.z]⟩
  · split
    · exact ⟨by simp [Ver.z], by simp only; omega⟩
    · split
      · omega
      · split
        · exact ⟨by simp only; omega, by simp only; omega⟩
        · simp [Sp.z, Ver.z]
theorem split_pos (s sep : List UInt8) : 0 < (Lib.split s sep).length := by
  unfold Lib.split
  cases Lib.count s sep with
  | zero => simp [Lib.splitK]
  | succ k => unfold Lib.splitK; split <;> simp
section
variable {t : List UInt8}
theorem tok_1 (h : (((wordsR t).length : Int) == 1 && Lib.hasPrefix ((wordsR t).getD 0 []) [62, 61]) = true) : tokR t = (⟨true, false, (parseB (Lib.trimPrefix ((wordsR t).getD 0 []) [62, 61])).1, Ver.z⟩, (parseB (Lib.trimPrefix ((wordsR t).getD 0 []) [62, 61])).2) := if_pos h
theorem tok_2 (h : (((wordsR t).length : Int) == 1 && Lib.hasPrefix ((wordsR t).getD 0 []) [62, 61]) = false) (h2 : (((wordsR t).length : Int) == 1 && Lib.hasPrefix ((wordsR t).getD ((wordsR t).length - 1) []) [60]) = true) :
    tokR t = (⟨false, true, Ver.z, (parseB (Lib.trimPrefix ((wordsR t).getD ((wordsR t).length - 1) []) [60])).1⟩, (parseB (Lib.trimPrefix ((wordsR t).getD ((wordsR t).length - 1) []) [60])).2) := by
  rw [tokR, tokW, if_neg (Bool.eq_false_iff.1 h), if_pos h2]
theorem tok_3 (h : (((wordsR t).length : Int) == 1 && Lib.hasPrefix ((wordsR t).getD 0 []) [62, 61]) = false) (h2 : (((wordsR t).length : Int) == 1 && Lib.hasPrefix ((wordsR t).getD ((wordsR t).length - 1) []) [60]) = false) (h3 : (((wordsR t).length : Int) == 1) = true) :
    tokR t = shortB ((wordsR t).getD 0 []) := by
  rw [tokR, tokW, if_neg (Bool.eq_false_iff.1 h), if_neg (Bool.eq_false_iff.1 h2), if_pos h3]
theorem tok_4 (h : (((wordsR t).length : Int) == 1 && Lib.hasPrefix ((wordsR t).getD 0 []) [62, 61]) = false) (h2 : (((wordsR t).length : Int) == 1 && Lib.hasPrefix ((wordsR t).getD ((wordsR t).length - 1) []) [60]) = false) (h3 : (((wordsR t).length : Int) == 1) = false)
    (h4 : ((((wordsR t).length : Int) == 2 && Lib.hasPrefix ((wordsR t).getD 0 []) [62, 61]) && Lib.hasPrefix ((wordsR t).getD ((wordsR t).length - 1) []) [60]) = true) :
    tokR t = (⟨true, true, (parseB (Lib.trimPrefix ((wordsR t).getD 0 []) [62, 61])).1, (parseB (Lib.trimPrefix ((wordsR t).getD ((wordsR t).length - 1) []) [60])).1⟩,
      if (parseB (Lib.trimPrefix ((wordsR t).getD 0 []) [62, 61])).2 == 8 || (parseB (Lib.trimPrefix ((wordsR t).getD ((wordsR t).length - 1) []) [60])).2 == 8 then 8 else firstB (parseB (Lib.trimPrefix ((wordsR t).getD 0 []) [62, 61])).2 (parseB (Lib.trimPrefix ((wordsR t).getD ((wordsR t).length - 1) []) [60])).2) := by
  rw [tokR, tokW, if_neg (Bool.eq_false_iff.1 h), if_neg (Bool.eq_false_iff.1 h2), if_neg (Bool.eq_false_iff.1 h3), if_pos h4]
theorem tok_5 (h : (((wordsR t).length : Int) == 1 && Lib.hasPrefix ((wordsR t).getD 0 []) [62, 61]) = false) (h2 : (((wordsR t).length : Int) == 1 && Lib.hasPrefix ((wordsR t).getD ((wordsR t).length - 1) []) [60]) = false) (h3 : (((wordsR t).length : Int) == 1) = false)
    (h4 : ((((wordsR t).length : Int) == 2 && Lib.hasPrefix ((wordsR t).getD 0 []) [62, 61]) && Lib.hasPrefix ((wordsR t).getD ((wordsR t).length - 1) []) [60]) = false) : tokR t = (Sp.z, 8) := by
  rw [tokR, tokW, if_neg (Bool.eq_false_iff.1 h), if_neg (Bool.eq_false_iff.1 h2), if_neg (Bool.eq_false_iff.1 h3), if_neg (Bool.eq_false_iff.1 h4)]
end
section
variable {s : List UInt8}
theorem rR_large (h : decide ((s.length : Int) > 1000) = true) : rangeR s = ([], 4) := if_pos h
theorem rR_none (h : decide ((s.length : Int) > 1000) = false) (h2 : (s == [110, 111, 110, 101]) = true) : rangeR s = ([], 0) := by
  rw [rangeR, if_neg (Bool.eq_false_iff.1 h), if_pos h2]
theorem rR_bad {i : Nat} (h : decide ((s.length : Int) > 1000) = false) (h2 : (s == [110, 111, 110, 101]) = false) (hi : i < (partsR s).length) (h3 : tokE ((partsR s).getD i []) = 8) : rangeR s = ([], 8) := by
  rw [rangeR, if_neg (Bool.eq_false_iff.1 h), if_neg (Bool.eq_false_iff.1 h2), if_pos (any_hit (d := []) hi (by simpa using h3))]
theorem rR_err (h : decide ((s.length : Int) > 1000) = false) (h2 : (s == [110, 111, 110, 101]) = false) (h3 : (partsR s).any (fun t => tokE t == 8) = false)
    (h4 : (firstB (firstNe ((partsR s).map tokE)) (rangeE ((partsR s).map tokS)) != 0) = true) : rangeR s = ([], firstB (firstNe ((partsR s).map tokE)) (rangeE ((partsR s).map tokS))) := by
  rw [rangeR, if_neg (Bool.eq_false_iff.1 h), if_neg (Bool.eq_false_iff.1 h2), if_neg (Bool.eq_false_iff.1 h3), if_pos h4]
theorem rR_ok (h : decide ((s.length : Int) > 1000) = false) (h2 : (s == [110, 111, 110, 101]) = false) (h3 : (partsR s).any (fun t => tokE t == 8) = false)
    (h4 : (firstB (firstNe ((partsR s).map tokE)) (rangeE ((partsR s).map tokS)) != 0) = false) : rangeR s = ((partsR s).map tokS, 0) := by
  rw [rangeR, if_neg (Bool.eq_false_iff.1 h), if_neg (Bool.eq_false_iff.1 h2), if_neg (Bool.eq_false_iff.1 h3), if_neg (Bool.eq_false_iff.1 h4)]
end
end Go.Proofs.YtlkhdembbogcaaaGreatDoor

/- A slice that lies in a box's cell as a row. -/
set_option linter.unusedVariables false
set_option linter.unusedSimpArgs false
namespace Go.Proofs.YtlkhdembbogcaaaGreatDoor
open Go Go.RowKit
variable {J : Inv} {k0 : Lens} {E : Env J k0} {P : Program} {n : Nat} {t : Nat → V} {b : List (List C)} {r : List (Option RowO)} {m : List (List (DV × DV))}
theorem W.newRowB {c : Code} {KK : Ex → St → Prop} (l j sz : Nat) (e : TypeId) {cs : List C} {b' : List (List C)} (hb : b[l]? = some cs) (hk : cs[j]? = some (.d .nilsl)) (hb' : forceL (b.set l (cs.set j (.row r.length 0 0 0))) = some b')
    (h : W E P n c KK ⟨t, b', r ++ [some ⟨false, 0, sz, e, []⟩], m⟩) : W E P n c KK ⟨t, b, r, m⟩ := by
  obtain rfl := forceL_eq hb'
  have hlive : ∀ x, (⟨t, b.set l (cs.set j (.row r.length 0 0 0)), r ++ [some ⟨false, 0, sz, e, []⟩], m⟩ : St).live x → (⟨t, b, r, m⟩ : St).live x := fun x hx => by
    cases x with
    | b q => have : q < (b.set l (cs.set j (.row r.length 0 0 0))).length := hx; show q < b.length; simpa using this
    | m q => exact hx
    | r q =>
      obtain ⟨o, ho, hal⟩ := hx
      have ho : (r ++ [some ⟨false, 0, sz, e, []⟩])[q]? = some (some o) := ho
      by_cases hl : q < r.length
      · rw [List.getElem?_append_left hl] at ho; exact ⟨o, ho, hal⟩
      · rw [List.getElem?_append_right (by omega)] at ho
        have : q - r.length = 0 := by have := (List.getElem?_eq_some_iff.1 ho).1; simp at this; omega
        rw [this] at ho
        simp at ho; rw [← ho] at hal; cases hal
  refine h.weaken fun g a w rel => ?_
  have ext : Ext g (⟨t, b, r, m⟩ : St).sh w g (⟨t, b.set l (cs.set j (.row r.length 0 0 0)), r ++ [some ⟨false, 0, sz, e, []⟩], m⟩ : St).sh w := by
    refine ⟨fun _ h => h, fun _ _ => rfl, by simp [St.sh], Nat.le_refl _, by simp [St.sh], fun _ _ => rfl, fun _ _ => rfl, fun q al ver sz' len hq hh => ⟨al, ver, sz', len, ?_, Nat.le_refl _, fun _ => ⟨rfl, rfl, Nat.le_refl _, rfl, rfl, rfl⟩⟩⟩
    have hq' : q < r.length := by simpa [St.sh] using hq
    simpa [St.sh, List.getElem?_append_left hq', List.getElem?_append_left (show q < (r.map (·.map RowO.form)).length by simpa using hq')] using hh
  refine ⟨g, rel.below, rel.ext.trans ext, rel.imlt, rel.imold, fun x hx => rel.own x (hlive x hx), ⟨fun x hx => rel.heap.lt x (hlive x hx), fun x hx => rel.heap.new x (hlive x hx), fun x y hx hy => rel.heap.inj x y (hlive x hx) (hlive y hy), fun q ds hq => ?_, fun q o hq => ?_, fun q es hq => ?_⟩, rel.size, rel.defers, fun i hi => (rel.tmps i hi).mono ext⟩
  · have hq : (b.set l (cs.set j (.row r.length 0 0 0)))[q]? = some ds := hq
    by_cases hql : l = q
    · subst hql
      have hlt := (List.getElem?_eq_some_iff.1 hb).1
      have hds : cs.set j (.row r.length 0 0 0) = ds := by simpa [List.getElem?_set, hlt] using hq
      obtain ⟨vs, ty, h1, h2, h3⟩ := rel.heap.box l cs hb
      refine ⟨vs, ty, h1, by rw [← hds]; simpa using h2, fun k c v hc hv => ?_⟩
      rw [← hds, List.getElem?_set] at hc
      split at hc
      · rename_i hjk
        subst hjk
        split at hc
        · simp only [Option.some.injEq] at hc
          subst hc
          have h4 := h3 j _ v hk hv
          cases h4 with | d _ _ h4 =>
          cases h4
          refine .row _ _ _ _ _ rfl (by simp [St.sh]) (fun al ver' sz' len hh => ?_)
          have : (some (some (al, ver', sz', len)) : Option (Option _)) = some (some (false, 0, sz, 0)) := by rw [← hh]; simp [St.sh, RowO.form]
          simp only [Option.some.injEq, Prod.mk.injEq] at this
          obtain ⟨rfl, rfl, rfl, rfl⟩ := this
          exact ⟨Nat.le_refl _, fun _ => ⟨Nat.le_refl _, by simp⟩⟩
        · cases hc
      · exact (h3 k c v hc hv).mono ext
    · obtain ⟨vs, ty, h1, h2, h3⟩ := rel.heap.box q ds (by simpa [List.getElem?_set, hql] using hq)
      exact ⟨vs, ty, h1, h2, fun k c v hc hv => (h3 k c v hc hv).mono ext⟩
  · have hq : (r ++ [some ⟨false, 0, sz, e, []⟩])[q]? = some (some o) := hq
    by_cases hl : q < r.length
    · rw [List.getElem?_append_left hl] at hq; exact rel.heap.row q o hq
    · rw [List.getElem?_append_right (by omega)] at hq
      have : q - r.length = 0 := by have := (List.getElem?_eq_some_iff.1 hq).1; simp at this; omega
      rw [this] at hq
      simp at hq; rw [← hq]; simp
  · obtain ⟨arr, clock, h1, h2, h3⟩ := rel.heap.map q es hq
    exact ⟨arr, clock, h1, h2, fun i x e hx he => ⟨(h3 i x e hx he).1.mono ext, (h3 i x e hx he).2.mono ext⟩⟩
theorem row_RD {s : St} {g : Gh} {a : Act} {w : World} (rel : Rel E n g s a w) {ri : Nat} {q : RowO} (ho : s.r[ri]? = some (some q)) {v : Value} (hv : RV g s.sh w (.one (.row ri q.ver 0 q.xs.length)) v) :
    RD (fun x => g.im x ∨ (q.al = true ∧ x = g.at_ (.r ri))) w (.vec q.sz q.xs) v := by
  obtain ⟨flat, hown, hnil, hblk, hcells, hrows⟩ := row_form rel ho hv
  rcases hown.2 with ⟨hv2, h0⟩ | ⟨bb, cap, cur, hv2, hb2, hc2, hn2, hm2, hs2, ht2⟩
  · rw [hv2, List.length_eq_zero_iff.1 h0]; exact .empty _ _ _
  · have hal : q.al = true := by
      cases hh : q.al with
      | true => rfl
      | false => have := hnil.2 hh; rw [this] at hv2; cases hv2
    have hbb : bb = g.at_ (.r ri) := by have := hblk hal; rw [hv2] at this; exact Option.some.inj this
    by_cases hne : q.xs = []
    · rw [hv2, hne]; exact .empty _ _ _
    · rw [hv2]
      have hat : ∀ (i j : Nat) (x : List D) (d : D), q.xs[i]? = some x → x[j]? = some d → ∃ v, w.cell? ⟨bb, 0 + i * q.sz + j, none⟩ = some v ∧ RD (fun x => g.im x ∨ (q.al = true ∧ x = g.at_ (.r ri))) w d v := fun i j x d p1 p2 => by
        have hj' : j < q.sz := by
          have h3 := (List.getElem?_eq_some_iff.1 p2).1
          rw [hrows x (List.mem_of_getElem? p1)] at h3; exact h3
        have hi := (List.getElem?_eq_some_iff.1 p1).1
        have hk2 : i * q.sz + j < q.xs.length * q.sz := by
          have := Nat.mul_le_mul_right q.sz (show i + 1 ≤ q.xs.length from hi)
          rw [Nat.add_mul, Nat.one_mul] at this; omega
        have hf : flat[i * q.sz + j]? = some (flat[i * q.sz + j]'(by rw [hown.1]; exact hk2)) := List.getElem?_eq_getElem _
        refine ⟨_, ?_, (hcells i j x d _ p1 p2 hf).mono (fun _ h => .inl h) (fun _ _ => rfl)⟩
        have hf2 : (cur.toList.take (q.xs.length * q.sz))[i * q.sz + j]? = some (flat[i * q.sz + j]'(by rw [hown.1]; exact hk2)) := by rw [ht2]; exact hf
        rw [List.getElem?_take, if_pos hk2] at hf2
        simp only [Nat.zero_add, World.cell?, hc2, Option.isSome_none, Bool.false_eq_true, if_false]
        simpa using hf2
      exact RD.vec q.sz q.xs bb 0 cap (fun i j => (w.cell? ⟨bb, 0 + i * q.sz + j, none⟩).getD undef) hne hn2 (.inr ⟨hal, hbb⟩) hrows
        (fun i j x d p1 p2 => by obtain ⟨v, h3, _⟩ := hat i j x d p1 p2; rw [h3]; rfl)
        (fun i j x d p1 p2 => by obtain ⟨v, h3, h4⟩ := hat i j x d p1 p2; simp only [h3, Option.getD_some]; exact h4)
theorem W.freezeB {c : Code} {KK : Ex → St → Prop} {ri : Nat} {q : RowO} (l j : Nat) {cs : List C} {b' : List (List C)} (hq : r[ri]? = some (some q)) (hb : b[l]? = some cs) (hk : cs[j]? = some (.row ri q.ver 0 q.xs.length)) (hb' : forceL (b.set l (cs.set j (.d (.vec q.sz q.xs)))) = some b')
    (h : W E P n c KK ⟨t, b', r.set ri none, m⟩) : W E P n c KK ⟨t, b, r, m⟩ := by
  obtain rfl := forceL_eq hb'
  have hr : ri < r.length := (List.getElem?_eq_some_iff.1 hq).1
  have hlive : ∀ x, (⟨t, b.set l (cs.set j (.d (.vec q.sz q.xs))), r.set ri none, m⟩ : St).live x → (⟨t, b, r, m⟩ : St).live x ∧ x ≠ .r ri := fun x hx => by
    cases x with
    | b l' => exact ⟨by have : l' < (b.set l (cs.set j (.d (.vec q.sz q.xs)))).length := hx; show l' < b.length; simpa using this, by simp⟩
    | m l => exact ⟨hx, by simp⟩
    | r l =>
      obtain ⟨o, ho, hal⟩ := hx
      have ho : (r.set ri none)[l]? = some (some o) := ho
      by_cases e : ri = l
      · subst e; simp [List.getElem?_set, hr] at ho
      · exact ⟨⟨o, by simpa [List.getElem?_set, e] using ho, hal⟩, fun h => e (by injection h with h; exact h.symm)⟩
  refine h.weaken fun g a w rel => ?_
  have ho : (⟨t, b, r, m⟩ : St).r[ri]? = some (some q) := hq
  have hrl : q.al = true → (⟨t, b, r, m⟩ : St).live (.r ri) := fun h => ⟨q, hq, h⟩
  have ext : Ext g (⟨t, b, r, m⟩ : St).sh w ⟨fun x => g.im x ∨ (q.al = true ∧ x = g.at_ (.r ri)), g.at_, g.off, g.cap⟩ (⟨t, b.set l (cs.set j (.d (.vec q.sz q.xs))), r.set ri none, m⟩ : St).sh w := by
    refine ⟨fun _ h => .inl h, fun _ _ => rfl, by simp [St.sh], Nat.le_refl _, by simp [St.sh], fun _ _ => rfl, fun _ _ => rfl, fun k al ver sz' len hk' hh => ?_⟩
    by_cases e : ri = k
    · subst e; simp [St.sh, List.getElem?_set, hr] at hh
    · exact ⟨al, ver, sz', len, by simpa [St.sh, List.getElem?_set, e] using hh, Nat.le_refl _, fun _ => ⟨rfl, rfl, Nat.le_refl _, rfl, rfl, rfl⟩⟩
  refine ⟨⟨fun x => g.im x ∨ (q.al = true ∧ x = g.at_ (.r ri)), g.at_, g.off, g.cap⟩, rel.below, rel.ext.trans ext, fun x hx => ?_, fun x hx => ?_, fun x hx => rel.own x (hlive x hx).1, ⟨fun x hx => rel.heap.lt x (hlive x hx).1, fun x hx => ?_, fun x y hx hy => rel.heap.inj x y (hlive x hx).1 (hlive y hy).1, fun k ds hk' => ?_, fun k o hk' => ?_, fun k es hk' => ?_⟩, rel.size, rel.defers, fun j' hj => ?_⟩
  · rcases hx with h | ⟨h1, h2⟩
    · exact rel.imlt x h
    · rw [h2]; exact rel.heap.lt _ (hrl h1)
  · rcases hx with h | ⟨h1, h2⟩
    · exact rel.imold x h
    · rw [h2]; exact .inr (rel.own _ (hrl h1))
  · rintro (h | ⟨h1, h2⟩)
    · exact rel.heap.new x (hlive x hx).1 h
    · exact (hlive x hx).2 (rel.heap.inj x _ (hlive x hx).1 (hrl h1) h2)
  · have hk2 : (b.set l (cs.set j (.d (.vec q.sz q.xs))))[k]? = some ds := hk'
    by_cases hql : l = k
    · subst hql
      have hlt := (List.getElem?_eq_some_iff.1 hb).1
      have hds : cs.set j (.d (.vec q.sz q.xs)) = ds := by simpa [List.getElem?_set, hlt] using hk2
      obtain ⟨vs, ty, h1, h2, h3⟩ := rel.heap.box l cs hb
      refine ⟨vs, ty, h1, by rw [← hds]; simpa using h2, fun i c v hc hv => ?_⟩
      rw [← hds, List.getElem?_set] at hc
      split at hc
      · rename_i hjk
        subst hjk
        split at hc
        · simp only [Option.some.injEq] at hc
          subst hc
          exact .d _ _ (row_RD rel ho (.one _ _ (h3 j _ v hk hv)))
        · cases hc
      · exact (h3 i c v hc hv).mono ext
    · obtain ⟨vs, ty, h1, h2, h3⟩ := rel.heap.box k ds (by simpa [List.getElem?_set, hql] using hk2)
      exact ⟨vs, ty, h1, h2, fun i c v hc hv => (h3 i c v hc hv).mono ext⟩
  · have hk' : (r.set ri none)[k]? = some (some o) := hk'
    by_cases e : ri = k
    · subst e; simp [List.getElem?_set, hr] at hk'
    · have h1 := rel.heap.row k o (by simpa [List.getElem?_set, e] using hk')
      by_cases hal : o.al = true
      · rw [if_pos hal] at h1 ⊢
        obtain ⟨vs, t', q1, q2, q3, q4, q5, q6⟩ := h1
        exact ⟨vs, t', q1, q2, q3, q4, q5, fun i j x d v p1 p2 p3 => (q6 i j x d v p1 p2 p3).mono ext.im ext.same⟩
      · rw [if_neg hal] at h1 ⊢; exact h1
  · obtain ⟨arr, clock, h1, h2, h3⟩ := rel.heap.map k es hk'
    exact ⟨arr, clock, h1, h2, fun i x e hx he => ⟨(h3 i x e hx he).1.mono ext, (h3 i x e hx he).2.mono ext⟩⟩
  · exact (rel.tmps j' hj).mono ext
theorem LeV.aggNil (sz : Nat) : LeV (.agg [.d .nilsl]) (.agg [.d (.vec sz [])]) := fun im w v h => by
  cases h with | agg _ vs hl hx =>
  refine .agg _ _ hl (fun i c v hc hv => ?_)
  match i with
  | 0 =>
    simp at hc; subst hc
    have h1 := hx 0 _ v rfl hv
    cases h1 with | d _ _ h1 =>
    cases h1
    exact .d _ _ (.empty _ _ _)
  | i + 1 => simp at hc
end Go.Proofs.YtlkhdembbogcaaaGreatDoor

set_option linter.unusedVariables false
set_option linter.unusedSimpArgs false
set_option maxRecDepth 100000
set_option maxHeartbeats 4000000
namespace Go.Proofs.YtlkhdembbogcaaaGreatDoor
open Go
open Go.RowKit
def itV (it : It) : V := .agg [.d (.int .u8 it.sign), .d (.str it.first), .d (.str it.last)]
def itD (t : List UInt8) : List D := [.int .u8 (itemB t).1.sign, .str (itemB t).1.first, .str (itemB t).1.last]
theorem sl_tail (s : List UInt8) : V.one (.d (.str ((s.take ((s.length : Int)).toNat).drop (1 : Int).toNat))) = V.one (.d (.str (s.drop 1))) := by simp
theorem le_rgNil {n : Int} {x : List Sp × Int} (h : x = ([], n)) : LeV (.tup [.agg [.d .nilsl], .one (.d (.int .i64 n))]) (.tup [rgV x.1, .one (.d (.int .i64 x.2))]) := by
  subst h; exact LeV.tup2 (LeV.aggNil 10) (LeV.refl _)
theorem le_rg {ss : List Sp} {n : Int} {x : List Sp × Int} (h : x = (ss, n)) : LeV (.tup [.agg [.d (.vec 10 (ss.map spD))], .one (.d (.int .i64 n))]) (.tup [rgV x.1, .one (.d (.int .i64 x.2))]) := by
  subst h; exact LeV.refl _
theorem len_pos {s : List UInt8} {b : Bool} (h : (!(s == []) && b) = true) : (1 : Int) ≤ (s.length : Int) := by
  cases s with
  | nil => simp at h
  | cons a l => simp only [List.length_cons]; omega
theorem pc_ver_itemOf (s : List UInt8) (hs : s.length < 4294967281) :
  PureCall Tryz.prog J 238 [.one (.d (.str s))] (.tup [itV (itemB s).1, .one (.d (.bool (itemB s).2))]) := by
 have h1 := trim_le s [62, 61]
 have h2 := cut_le (Lib.trimPrefix s [62, 61]) [32]
 have h3 := cut3_le (Lib.trimPrefix s [62, 61]) [32]
 refine PureCall.of_body tOk (fn := Tryz.f238) Tryz.func238 (by kernel_rfl) rfl (Nat.le_of_ble_eq_true rfl) (fun E => ?_)
 refine W.seq ?_
 refine W.region ?_
 refine S.alloc tOk rfl rfl rfl rfl ?_
 refine S.pure tOk zOk rfl rfl rfl ?_
 refine thenK_n ?_
 refine W.seq ?_
 refine W.seq ?_
 refine W.region ?_
 refine S.pure tOk zOk rfl rfl rfl ?_
 refine S.pure tOk zOk rfl rfl rfl ?_
 refine thenK_n ?_
 refine W.cond rfl (fun c1 => ?_) (fun c1 => ?_)
 ·skip
  refine W.seq ?_
  refine W.region ?_
  refine S.pure tOk zOk rfl rfl rfl ?_
  refine S.store tOk rfl rfl rfl rfl rfl rfl rfl rfl ?_
  refine S.pure tOk zOk rfl rfl rfl ?_
  refine thenK_n ?_
  refine W.ret ?_
  refine thenK_r ?_
  exact ⟨_, rfl, rfl, LeV.of_force rfl (congrArg (fun x : It × Bool => V.tup [itV x.1, .one (.d (.bool x.2))]) ((if_pos c1) : itemB s = _)).symm⟩
 ·skip
  refine W.skip ?_
  refine thenK_n ?_
  refine W.seq ?_
  refine W.region ?_
  refine S.pure tOk zOk rfl rfl rfl ?_
  refine S.pure tOk zOk rfl rfl rfl ?_
  refine S.alloc tOk rfl rfl rfl rfl ?_
  refine S.store tOk rfl rfl rfl rfl rfl rfl rfl rfl ?_
  refine thenK_n ?_
  refine W.seq ?_
  refine W.seq ?_
  refine W.region ?_
  refine S.pure tOk zOk rfl rfl rfl ?_
  refine S.call rfl rfl rfl rfl rfl (pc_CutPrefix s [62, 61]) ?_
  refine S.pure tOk zOk rfl rfl rfl ?_
  refine S.pure tOk zOk rfl rfl rfl ?_
  refine S.pure tOk zOk rfl rfl rfl ?_
  refine S.pure tOk zOk rfl rfl rfl ?_
  refine S.pure tOk zOk rfl rfl rfl ?_
  refine thenK_n ?_
  refine W.seq ?_
  refine W.region ?_
  refine S.pure tOk zOk rfl rfl rfl ?_
  refine thenK_n ?_
  refine W.cond rfl (fun c2 => ?_) (fun c2 => ?_)
  ·skip
   refine W.seq ?_
   refine W.region ?_
   refine S.pure tOk zOk rfl rfl rfl ?_
   refine S.pure tOk zOk rfl rfl rfl ?_
   refine S.store tOk rfl rfl rfl rfl rfl rfl rfl rfl ?_
   refine thenK_n ?_
   refine W.seq ?_
   refine W.region ?_
   refine S.pure tOk zOk rfl rfl rfl ?_
   refine S.call rfl rfl rfl rfl rfl (pc_Cut (Lib.trimPrefix s [62, 61]) [32] (by omega)) ?_
   refine S.pure tOk zOk rfl rfl rfl ?_
   refine S.pure tOk zOk rfl rfl rfl ?_
   refine S.pure tOk zOk rfl rfl rfl ?_
   refine S.pure tOk zOk rfl rfl rfl ?_
   refine S.pure tOk zOk rfl rfl rfl ?_
   refine S.pure tOk zOk rfl rfl rfl ?_
   refine S.pure tOk zOk rfl rfl rfl ?_
   refine thenK_n ?_
   refine W.seq ?_
   refine W.region ?_
   refine S.pure tOk zOk rfl rfl rfl ?_
   refine thenK_n ?_
   refine W.cond rfl (fun c3 => ?_) (fun c3 => ?_)
   ·skip
    refine W.seq ?_
    refine W.region ?_
    refine S.pure tOk zOk rfl rfl rfl ?_
    refine S.call rfl rfl rfl rfl rfl (pc_CutPrefix (Lib.cut (Lib.trimPrefix s [62, 61]) [32]).2.1 [60]) ?_
    refine S.pure tOk zOk rfl rfl rfl ?_
    refine S.pure tOk zOk rfl rfl rfl ?_
    refine S.pure tOk zOk rfl rfl rfl ?_
    refine S.pure tOk zOk rfl rfl rfl ?_
    refine S.pure tOk zOk rfl rfl rfl ?_
    refine thenK_n ?_
    refine W.seq ?_
    refine W.region ?_
    refine S.pure tOk zOk rfl rfl rfl ?_
    refine S.pure tOk zOk rfl rfl rfl ?_
    refine S.pure tOk zOk rfl rfl rfl ?_
    refine S.pure tOk zOk rfl rfl rfl ?_
    refine S.pure tOk zOk rfl rfl rfl ?_
    refine S.pureG tOk zOk rfl rfl tg (fun _ => rfl) rfl ?_
    refine S.callG rfl rfl rfl rfl tg rfl rfl (fun _ => pc_ver_isRow _ (by first | omega | (simp; omega))) ?_
    refine S.pickAnd tOk zOk rfl rfl tg ?_
    refine S.pure tOk zOk rfl rfl rfl ?_
    refine S.pureG tOk zOk rfl rfl tg (fun _ => rfl) rfl ?_
    refine S.callG rfl rfl rfl rfl tg rfl rfl (fun _ => pc_ver_isRow _ (by first | omega | (simp; omega))) ?_
    refine S.pickAnd tOk zOk rfl rfl tg ?_
    refine S.store tOk rfl rfl rfl rfl rfl rfl rfl rfl ?_
    refine S.pure tOk zOk rfl rfl rfl ?_
    refine thenK_n ?_
    refine W.ret ?_
    refine thenK_r ?_
    exact ⟨_, rfl, rfl, LeV.of_force rfl (congrArg (fun x : It × Bool => V.tup [itV x.1, .one (.d (.bool x.2))]) (((if_neg (Bool.eq_false_iff.1 c1)).trans ((if_pos c2).trans (if_pos c3))) : itemB s = _)).symm⟩
   ·skip
    refine W.skip ?_
    refine thenK_n ?_
    refine W.seq ?_
    refine W.regionD mixed (by kernel_rfl) ?_
    refine D.pure tOk zOk rfl rfl rfl rfl ?_
    refine D.pure tOk zOk rfl rfl rfl rfl ?_
    refine D.pure tOk zOk rfl rfl rfl rfl ?_
    refine D.call rfl rfl rfl rfl rfl (pc_ver_isRow _ (by first | omega | (simp; omega))) ?_
    refine D.store tOk rfl rfl rfl rfl rfl rfl rfl rfl ?_
    refine D.pure tOk zOk rfl rfl rfl rfl ?_
    refine thenK_n ?_
    refine W.ret ?_
    exact ⟨_, rfl, rfl, LeV.of_force rfl (congrArg (fun x : It × Bool => V.tup [itV x.1, .one (.d (.bool x.2))]) (((if_neg (Bool.eq_false_iff.1 c1)).trans ((if_pos c2).trans (if_neg (Bool.eq_false_iff.1 c3)))) : itemB s = _)).symm⟩
  ·skip
   refine W.seq ?_
   refine W.region ?_
   refine S.pure tOk zOk rfl rfl rfl ?_
   refine S.pure tOk zOk rfl rfl rfl ?_
   refine S.pure tOk zOk rfl rfl rfl ?_
   refine S.pureG tOk zOk rfl rfl tg (fun _ => rfl) rfl ?_
   refine S.pureG tOk zOk rfl rfl tg (fun h => idx_ok (Int.le_refl _) (by have := len_pos (b := true) (by simpa using h); omega)) rfl ?_
   refine S.callG rfl rfl rfl rfl tg rfl rfl (fun _ => pc_IndexByte _ _) ?_
   refine S.pureG tOk zOk rfl rfl tg (fun _ => rfl) rfl ?_
   refine S.pickAnd tOk zOk rfl rfl tg ?_
   refine thenK_n ?_
   refine W.cond rfl (fun c4 => ?_) (fun c4 => ?_)
   ·skip
    refine W.regionD mixed (by kernel_rfl) ?_
    refine D.pure tOk zOk rfl rfl rfl rfl ?_
    refine D.pure tOk zOk rfl rfl (idx_ok (Int.le_refl _) (by have := len_pos c4; omega)) rfl ?_
    refine D.pure tOk zOk rfl rfl rfl rfl ?_
    refine D.pureE tOk zOk rfl rfl (sl_ok (l := 1) (h := (s.length : Int)) (n := (s.length : Int)) (by decide) (len_pos c4) (Int.le_refl _)) (sl_tail s) rfl ?_
    refine D.pure tOk zOk rfl rfl rfl rfl ?_
    refine D.store tOk rfl rfl rfl rfl rfl rfl rfl rfl ?_
    refine thenK_n ?_
    refine W.seq ?_
    refine W.regionD mixed (by kernel_rfl) ?_
    refine D.pure tOk zOk rfl rfl rfl rfl ?_
    refine D.pure tOk zOk rfl rfl rfl rfl ?_
    refine D.pure tOk zOk rfl rfl rfl rfl ?_
    refine D.call rfl rfl rfl rfl rfl (pc_ver_isRow _ (by first | omega | (simp; omega))) ?_
    refine D.store tOk rfl rfl rfl rfl rfl rfl rfl rfl ?_
    refine D.pure tOk zOk rfl rfl rfl rfl ?_
    refine thenK_n ?_
    refine W.ret ?_
    exact ⟨_, rfl, rfl, LeV.of_force rfl (congrArg (fun x : It × Bool => V.tup [itV x.1, .one (.d (.bool x.2))]) (((if_neg (Bool.eq_false_iff.1 c1)).trans ((if_neg (Bool.eq_false_iff.1 c2)).trans (if_pos c4))) : itemB s = _)).symm⟩
   ·skip
    refine W.skip ?_
    refine thenK_n ?_
    refine W.seq ?_
    refine W.regionD mixed (by kernel_rfl) ?_
    refine D.pure tOk zOk rfl rfl rfl rfl ?_
    refine D.pure tOk zOk rfl rfl rfl rfl ?_
    refine D.pure tOk zOk rfl rfl rfl rfl ?_
    refine D.call rfl rfl rfl rfl rfl (pc_ver_isRow _ (by first | omega | (simp; omega))) ?_
    refine D.store tOk rfl rfl rfl rfl rfl rfl rfl rfl ?_
    refine D.pure tOk zOk rfl rfl rfl rfl ?_
    refine thenK_n ?_
    refine W.ret ?_
    exact ⟨_, rfl, rfl, LeV.of_force rfl (congrArg (fun x : It × Bool => V.tup [itV x.1, .one (.d (.bool x.2))]) (((if_neg (Bool.eq_false_iff.1 c1)).trans ((if_neg (Bool.eq_false_iff.1 c2)).trans (if_neg (Bool.eq_false_iff.1 c4)))) : itemB s = _)).symm⟩
theorem pc_ver_behind (v : Ver) (he : v.e.length < 4294967000) (g : Int) :
  PureCall Tryz.prog J 248 [verV v, .one (.d (.int .u8 g))] (.tup [verV (behindB v g).1, .one (.d (.int .i64 (behindB v g).2))]) := by
 refine PureCall.of_body tOk (fn := Tryz.f248) Tryz.func248 (by kernel_rfl) rfl (Nat.le_of_ble_eq_true rfl) (fun E => ?_)
 refine W.seq ?_
 refine W.region ?_
 refine S.box rfl rfl rfl rfl ?_
 refine S.alloc tOk rfl rfl rfl rfl ?_
 refine S.pure tOk zOk rfl rfl rfl ?_
 refine thenK_n ?_
 refine W.seq ?_
 refine W.block ?_
 refine W.seq ?_
 refine W.region ?_
 refine S.pure tOk zOk rfl rfl rfl ?_
 refine S.pure tOk zOk rfl rfl rfl ?_
 refine S.pure tOk zOk rfl rfl rfl ?_
 refine S.pureG tOk zOk rfl rfl tg (fun _ => rfl) rfl ?_
 refine S.pureG tOk zOk rfl rfl tg (fun _ => rfl) rfl ?_
 refine S.pureG tOk zOk rfl rfl tg (fun _ => rfl) rfl ?_
 refine S.pickAnd tOk zOk rfl rfl tg ?_
 refine S.pure tOk zOk rfl rfl rfl ?_
 refine thenK_n ?_
 refine W.cond rfl (fun c1 => ?_) (fun c1 => ?_)
 ·skip
  refine W.seq ?_
  refine W.region ?_
  refine S.pure tOk zOk rfl rfl rfl ?_
  refine S.pure tOk zOk rfl rfl rfl ?_
  refine S.pure tOk zOk rfl (cat_ok (by simp [-List.getD_eq_getElem?_getD]; omega)) rfl ?_
  refine S.pure tOk zOk rfl rfl rfl ?_
  refine S.store tOk rfl rfl rfl rfl rfl rfl rfl rfl ?_
  refine thenK_n ?_
  refine W.seq ?_
  refine W.regionD mixed (by kernel_rfl) ?_
  refine D.pure tOk zOk rfl rfl rfl rfl ?_
  refine D.pure tOk zOk rfl rfl rfl rfl ?_
  refine D.call rfl rfl rfl rfl rfl (pc_ver_Check ⟨v.a, v.b, v.c, v.e ++ [46, 48]⟩ (by simp; omega)) ?_
  refine D.store tOk rfl rfl rfl rfl rfl rfl rfl rfl ?_
  refine D.pure tOk zOk rfl rfl rfl rfl ?_
  refine thenK_n ?_
  refine W.ret ?_
  refine blockK_r ?_
  refine thenK_r ?_
  exact ⟨_, rfl, rfl, LeV.of_force rfl (congrArg (fun x : Ver × Int => V.tup [verV x.1, .one (.d (.int .i64 x.2))]) ((if_pos c1) : behindB v g = _)).symm⟩
 ·skip
  refine W.seq ?_
  refine W.region ?_
  refine S.pure tOk zOk rfl rfl rfl ?_
  refine S.pure tOk zOk rfl rfl rfl ?_
  refine S.pure tOk zOk rfl rfl rfl ?_
  refine thenK_n ?_
  refine W.cond rfl (fun c2 => ?_) (fun c2 => ?_)
  ·skip
   refine W.seq ?_
   refine W.region ?_
   refine S.pure tOk zOk rfl rfl rfl ?_
   refine S.call rfl rfl rfl rfl rfl (pc_ver_Next v (by omega) 2) ?_
   refine S.pure tOk zOk rfl rfl rfl ?_
   refine S.pure tOk zOk rfl rfl rfl ?_
   refine S.pure tOk zOk rfl rfl rfl ?_
   refine S.alloc tOk rfl rfl rfl rfl ?_
   refine S.store tOk rfl rfl rfl rfl rfl rfl rfl rfl ?_
   refine S.pure tOk zOk rfl rfl rfl ?_
   refine thenK_n ?_
   refine W.seq ?_
   refine W.region ?_
   refine S.pure tOk zOk rfl rfl rfl ?_
   refine S.store tOk rfl rfl rfl rfl rfl rfl rfl rfl ?_
   refine thenK_n ?_
   refine W.seq ?_
   refine W.region ?_
   refine S.pure tOk zOk rfl rfl rfl ?_
   refine S.pure tOk zOk rfl rfl rfl ?_
   refine S.store tOk rfl rfl rfl rfl rfl rfl rfl rfl ?_
   refine S.pure tOk zOk rfl rfl rfl ?_
   refine thenK_n ?_
   refine W.ret ?_
   refine blockK_r ?_
   refine thenK_r ?_
   exact ⟨_, rfl, rfl, LeV.of_force rfl (congrArg (fun x : Ver × Int => V.tup [verV x.1, .one (.d (.int .i64 x.2))]) (((if_neg (Bool.eq_false_iff.1 c1)).trans (if_pos c2)) : behindB v g = _)).symm⟩
  ·skip
   refine W.seq ?_
   refine W.region ?_
   refine S.pure tOk zOk rfl rfl rfl ?_
   refine S.pure tOk zOk rfl rfl rfl ?_
   refine S.pure tOk zOk rfl rfl rfl ?_
   refine S.pureG tOk zOk rfl rfl tg (fun _ => rfl) rfl ?_
   refine S.pureG tOk zOk rfl rfl tg (fun _ => rfl) rfl ?_
   refine S.pureG tOk zOk rfl rfl tg (fun _ => rfl) rfl ?_
   refine S.pickAnd tOk zOk rfl rfl tg ?_
   refine S.pure tOk zOk rfl rfl rfl ?_
   refine thenK_n ?_
   refine W.cond rfl (fun c3 => ?_) (fun c3 => ?_)
   ·skip
    refine W.seq ?_
    refine W.region ?_
    refine S.pure tOk zOk rfl rfl rfl ?_
    refine S.call rfl rfl rfl rfl rfl (pc_ver_Next v (by omega) 0) ?_
    refine S.pure tOk zOk rfl rfl rfl ?_
    refine S.pure tOk zOk rfl rfl rfl ?_
    refine S.store tOk rfl rfl rfl rfl rfl rfl rfl rfl ?_
    refine S.pure tOk zOk rfl rfl rfl ?_
    refine thenK_n ?_
    refine W.ret ?_
    refine blockK_r ?_
    refine thenK_r ?_
    exact ⟨_, rfl, rfl, LeV.of_force rfl (congrArg (fun x : Ver × Int => V.tup [verV x.1, .one (.d (.int .i64 x.2))]) (((if_neg (Bool.eq_false_iff.1 c1)).trans ((if_neg (Bool.eq_false_iff.1 c2)).trans (if_pos c3))) : behindB v g = _)).symm⟩
   ·skip
    refine W.skip ?_
    refine blockK_n ?_
    refine thenK_n ?_
    refine W.seq ?_
    refine W.region ?_
    refine S.pure tOk zOk rfl rfl rfl ?_
    refine S.call rfl rfl rfl rfl rfl (pc_ver_Next v (by omega) 1) ?_
    refine S.pure tOk zOk rfl rfl rfl ?_
    refine S.pure tOk zOk rfl rfl rfl ?_
    refine S.store tOk rfl rfl rfl rfl rfl rfl rfl rfl ?_
    refine S.pure tOk zOk rfl rfl rfl ?_
    refine thenK_n ?_
    refine W.ret ?_
    exact ⟨_, rfl, rfl, LeV.of_force rfl (congrArg (fun x : Ver × Int => V.tup [verV x.1, .one (.d (.int .i64 x.2))]) (((if_neg (Bool.eq_false_iff.1 c1)).trans ((if_neg (Bool.eq_false_iff.1 c2)).trans (if_neg (Bool.eq_false_iff.1 c3)))) : behindB v g = _)).symm⟩
theorem pc_ver_spanOf (it : It) (h1 : it.first.length < 4294967000) (h2 : it.last.length < 4294967000) :
  PureCall Tryz.prog J 240 [itV it] (.tup [spV (spanB it).1, .one (.d (.int .i64 (spanB it).2))]) := by
 have h3 := parse_e it.first
 refine PureCall.of_body tOk (fn := Tryz.f240) Tryz.func240 (by kernel_rfl) rfl (Nat.le_of_ble_eq_true rfl) (fun E => ?_)
 refine W.seq ?_
 refine W.region ?_
 refine S.box rfl rfl rfl rfl ?_
 refine S.alloc tOk rfl rfl rfl rfl ?_
 refine S.pure tOk zOk rfl rfl rfl ?_
 refine thenK_n ?_
 refine W.seq ?_
 refine W.seq ?_
 refine W.region ?_
 refine S.pure tOk zOk rfl rfl rfl ?_
 refine S.pure tOk zOk rfl rfl rfl ?_
 refine S.pure tOk zOk rfl rfl rfl ?_
 refine thenK_n ?_
 refine W.cond rfl (fun c1 => ?_) (fun c1 => ?_)
 ·skip
  refine W.seq ?_
  refine W.region ?_
  refine S.pure tOk zOk rfl rfl rfl ?_
  refine S.store tOk rfl rfl rfl rfl rfl rfl rfl rfl ?_
  refine S.pure tOk zOk rfl rfl rfl ?_
  refine thenK_n ?_
  refine W.ret ?_
  refine thenK_r ?_
  exact ⟨_, rfl, rfl, LeV.of_force rfl (congrArg (fun x : Sp × Int => V.tup [spV x.1, .one (.d (.int .i64 x.2))]) ((if_pos c1) : spanB it = _)).symm⟩
 ·skip
  refine W.skip ?_
  refine thenK_n ?_
  refine W.seq ?_
  refine W.region ?_
  refine S.pure tOk zOk rfl rfl rfl ?_
  refine S.pure tOk zOk rfl rfl rfl ?_
  refine S.call rfl rfl rfl rfl rfl (pc_ver_Parse it.first (by omega)) ?_
  refine S.pure tOk zOk rfl rfl rfl ?_
  refine S.pure tOk zOk rfl rfl rfl ?_
  refine S.pure tOk zOk rfl rfl rfl ?_
  refine S.alloc tOk rfl rfl rfl rfl ?_
  refine S.store tOk rfl rfl rfl rfl rfl rfl rfl rfl ?_
  refine S.pure tOk zOk rfl rfl rfl ?_
  refine thenK_n ?_
  refine W.seq ?_
  refine W.seq ?_
  refine W.region ?_
  refine S.pure tOk zOk rfl rfl rfl ?_
  refine S.pure tOk zOk rfl rfl rfl ?_
  refine thenK_n ?_
  refine W.cond rfl (fun c2 => ?_) (fun c2 => ?_)
  ·skip
   refine W.seq ?_
   refine W.region ?_
   refine S.pure tOk zOk rfl rfl rfl ?_
   refine S.pure tOk zOk rfl rfl rfl ?_
   refine S.store tOk rfl rfl rfl rfl rfl rfl rfl rfl ?_
   refine S.pure tOk zOk rfl rfl rfl ?_
   refine thenK_n ?_
   refine W.ret ?_
   refine thenK_r ?_
   exact ⟨_, rfl, rfl, LeV.of_force rfl (congrArg (fun x : Sp × Int => V.tup [spV x.1, .one (.d (.int .i64 x.2))]) (((if_neg (Bool.eq_false_iff.1 c1)).trans (if_pos c2)) : spanB it = _)).symm⟩
  ·skip
   refine W.skip ?_
   refine thenK_n ?_
   refine W.seq ?_
   refine W.seq ?_
   refine W.region ?_
   refine S.pure tOk zOk rfl rfl rfl ?_
   refine S.pure tOk zOk rfl rfl rfl ?_
   refine thenK_n ?_
   refine W.block ?_
   refine W.seq ?_
   refine W.region ?_
   refine S.pure tOk zOk rfl rfl rfl ?_
   refine S.pure tOk zOk rfl rfl rfl ?_
   refine thenK_n ?_
   refine W.cond rfl (fun c3 => ?_) (fun c3 => ?_)
   ·skip
    refine W.seq ?_
    refine W.region ?_
    refine S.pure tOk zOk rfl rfl rfl ?_
    refine S.pure tOk zOk rfl rfl rfl ?_
    refine S.store tOk rfl rfl rfl rfl rfl rfl rfl rfl ?_
    refine S.pure tOk zOk rfl rfl rfl ?_
    refine thenK_n ?_
    refine W.ret ?_
    refine blockK_r ?_
    refine thenK_r ?_
    exact ⟨_, rfl, rfl, LeV.of_force rfl (congrArg (fun x : Sp × Int => V.tup [spV x.1, .one (.d (.int .i64 x.2))]) (((if_neg (Bool.eq_false_iff.1 c1)).trans ((if_neg (Bool.eq_false_iff.1 c2)).trans (if_pos c3))) : spanB it = _)).symm⟩
   ·skip
    refine W.seq ?_
    refine W.region ?_
    refine S.pure tOk zOk rfl rfl rfl ?_
    refine S.pure tOk zOk rfl rfl rfl ?_
    refine thenK_n ?_
    refine W.cond rfl (fun c4 => ?_) (fun c4 => ?_)
    ·skip
     refine W.seq ?_
     refine W.region ?_
     refine S.pure tOk zOk rfl rfl rfl ?_
     refine S.pure tOk zOk rfl rfl rfl ?_
     refine S.store tOk rfl rfl rfl rfl rfl rfl rfl rfl ?_
     refine S.pure tOk zOk rfl rfl rfl ?_
     refine thenK_n ?_
     refine W.ret ?_
     refine blockK_r ?_
     refine thenK_r ?_
     exact ⟨_, rfl, rfl, LeV.of_force rfl (congrArg (fun x : Sp × Int => V.tup [spV x.1, .one (.d (.int .i64 x.2))]) (((if_neg (Bool.eq_false_iff.1 c1)).trans ((if_neg (Bool.eq_false_iff.1 c2)).trans ((if_neg (Bool.eq_false_iff.1 c3)).trans (if_pos c4)))) : spanB it = _)).symm⟩
    ·skip
     refine W.seq ?_
     refine W.region ?_
     refine S.pure tOk zOk rfl rfl rfl ?_
     refine S.pure tOk zOk rfl rfl rfl ?_
     refine thenK_n ?_
     refine W.cond rfl (fun c5 => ?_) (fun c5 => ?_)
     ·skip
      refine W.seq ?_
      refine W.region ?_
      refine S.pure tOk zOk rfl rfl rfl ?_
      refine S.pure tOk zOk rfl rfl rfl ?_
      refine S.call rfl rfl rfl rfl rfl (pc_ver_Parse it.last (by omega)) ?_
      refine S.pure tOk zOk rfl rfl rfl ?_
      refine S.pure tOk zOk rfl rfl rfl ?_
      refine S.pure tOk zOk rfl rfl rfl ?_
      refine S.alloc tOk rfl rfl rfl rfl ?_
      refine S.store tOk rfl rfl rfl rfl rfl rfl rfl rfl ?_
      refine S.pure tOk zOk rfl rfl rfl ?_
      refine thenK_n ?_
      refine W.seq ?_
      refine W.region ?_
      refine S.pure tOk zOk rfl rfl rfl ?_
      refine S.pure tOk zOk rfl rfl rfl ?_
      refine S.pure tOk zOk rfl rfl rfl ?_
      refine S.pure tOk zOk rfl rfl rfl ?_
      refine S.store tOk rfl rfl rfl rfl rfl rfl rfl rfl ?_
      refine S.pure tOk zOk rfl rfl rfl ?_
      refine thenK_n ?_
      refine W.ret ?_
      refine blockK_r ?_
      refine thenK_r ?_
      exact ⟨_, rfl, rfl, LeV.of_force rfl (congrArg (fun x : Sp × Int => V.tup [spV x.1, .one (.d (.int .i64 x.2))]) (((if_neg (Bool.eq_false_iff.1 c1)).trans ((if_neg (Bool.eq_false_iff.1 c2)).trans ((if_neg (Bool.eq_false_iff.1 c3)).trans ((if_neg (Bool.eq_false_iff.1 c4)).trans (if_pos c5))))) : spanB it = _)).symm⟩
     ·skip
      refine W.skip ?_
      refine blockK_n ?_
      refine thenK_n ?_
      refine W.seq ?_
      refine W.region ?_
      refine S.pure tOk zOk rfl rfl rfl ?_
      refine S.pure tOk zOk rfl rfl rfl ?_
      refine S.pure tOk zOk rfl rfl rfl ?_
      refine S.call rfl rfl rfl rfl rfl (pc_ver_behind (parseB it.first).1 (by omega) it.sign) ?_
      refine S.pure tOk zOk rfl rfl rfl ?_
      refine S.pure tOk zOk rfl rfl rfl ?_
      refine S.pure tOk zOk rfl rfl rfl ?_
      refine S.alloc tOk rfl rfl rfl rfl ?_
      refine S.store tOk rfl rfl rfl rfl rfl rfl rfl rfl ?_
      refine S.pure tOk zOk rfl rfl rfl ?_
      refine thenK_n ?_
      refine W.seq ?_
      refine W.region ?_
      refine S.pure tOk zOk rfl rfl rfl ?_
      refine S.pure tOk zOk rfl rfl rfl ?_
      refine S.pure tOk zOk rfl rfl rfl ?_
      refine S.pure tOk zOk rfl rfl rfl ?_
      refine S.store tOk rfl rfl rfl rfl rfl rfl rfl rfl ?_
      refine S.pure tOk zOk rfl rfl rfl ?_
      refine thenK_n ?_
      refine W.ret ?_
      exact ⟨_, rfl, rfl, LeV.of_force rfl (congrArg (fun x : Sp × Int => V.tup [spV x.1, .one (.d (.int .i64 x.2))]) (((if_neg (Bool.eq_false_iff.1 c1)).trans ((if_neg (Bool.eq_false_iff.1 c2)).trans ((if_neg (Bool.eq_false_iff.1 c3)).trans ((if_neg (Bool.eq_false_iff.1 c4)).trans (if_neg (Bool.eq_false_iff.1 c5)))))) : spanB it = _)).symm⟩
theorem pc_ver_ParseRange (s : List UInt8) (hs : s.length < 4294967000) :
  PureCall Tryz.prog J 209 [.one (.d (.str s))] (.tup [rgV (rangeB s).1, .one (.d (.int .i64 (rangeB s).2))]) := by
 have hmany := split_le s [44, 32]
 have hm := fun i => @split_at s [44, 32] i
 refine PureCall.of_body tOk (fn := Tryz.f209) Tryz.func209 (by kernel_rfl) rfl (Nat.le_of_ble_eq_true rfl) (fun E => ?_)
 refine W.seq ?_
 refine W.region ?_
 refine S.alloc tOk rfl rfl rfl rfl ?_
 refine S.pure tOk zOk rfl rfl rfl ?_
 refine thenK_n ?_
 refine W.seq ?_
 refine W.seq ?_
 refine W.region ?_
 refine S.pure tOk zOk rfl rfl rfl ?_
 refine S.pure tOk zOk rfl rfl rfl ?_
 refine S.pure tOk zOk rfl rfl rfl ?_
 refine thenK_n ?_
 refine W.cond rfl (fun c1 => ?_) (fun c1 => ?_)
 ·skip
  refine W.seq ?_
  refine W.region ?_
  refine S.pure tOk zOk rfl rfl rfl ?_
  refine S.store tOk rfl rfl rfl rfl rfl rfl rfl rfl ?_
  refine S.pure tOk zOk rfl rfl rfl ?_
  refine thenK_n ?_
  refine W.ret ?_
  refine thenK_r ?_
  exact ⟨_, rfl, rfl, le_rgNil (rB_large c1)⟩
 ·skip
  refine W.skip ?_
  refine thenK_n ?_
  refine W.seq ?_
  refine W.seq ?_
  refine W.region ?_
  refine S.pure tOk zOk rfl rfl rfl ?_
  refine S.pure tOk zOk rfl rfl rfl ?_
  refine thenK_n ?_
  refine W.cond rfl (fun c2 => ?_) (fun c2 => ?_)
  ·skip
   refine W.seq ?_
   refine W.region ?_
   refine S.pure tOk zOk rfl rfl rfl ?_
   refine S.store tOk rfl rfl rfl rfl rfl rfl rfl rfl ?_
   refine S.pure tOk zOk rfl rfl rfl ?_
   refine thenK_n ?_
   refine W.ret ?_
   refine thenK_r ?_
   exact ⟨_, rfl, rfl, le_rgNil (rB_none c1 c2)⟩
  ·skip
   refine W.skip ?_
   refine thenK_n ?_
   refine W.seq ?_
   refine W.region ?_
   refine S.pure tOk zOk rfl rfl rfl ?_
   refine thenK_n ?_
   refine W.seq ?_
   refine W.seq ?_
   refine W.newRow 4 3 256 rfl ?_
   refine W.region ?_
   refine S.pure tOk zOk rfl rfl rfl ?_
   refine S.call rfl rfl rfl rfl rfl (pc_Split s [44, 32] (by omega) (by decide)) ?_
   refine S.pure tOk zOk rfl rfl rfl ?_
   refine S.pure tOk zOk rfl rfl rfl ?_
   refine thenK_n ?_
   refine W.block ?_
   refine W.loop (fun k st => ∃ i : Nat, ∃ v : Nat, ∃ al : Bool, i ≤ (Lib.split s [44, 32]).length ∧ ((Lib.split s [44, 32]).take i).any badB = false ∧ k = (Lib.split s [44, 32]).length - i ∧ ∃ t b2 r2 m2, st = ⟨t, [[.d .nilsl]] ++ b2, [some ⟨al, v, 3, 256, (((Lib.split s [44, 32]).take i).map itD)⟩] ++ r2, [] ++ m2⟩ ∧ holdsL t [(2, .one (.ptr 0 0)), (4, .one (.row 0 v 0 (((Lib.split s [44, 32]).take i).map itD).length)), (23, .one (.d (.vec 1 ((Lib.split s [44, 32]).map fun x => [.str x])))), (24, .one (.d (.int .i64 (((Lib.split s [44, 32]).map fun x => ([.str x] : List D)).length : Int)))), (25, .one (.d (.int .i64 (i : Int))))]) ((Lib.split s [44, 32]).length) ⟨0, 0, false, Nat.zero_le _, by simp, rfl, _, _, _, _, rfl, rfl, rfl, rfl, rfl, rfl, trivial⟩ ?_
   rintro k0 _ ⟨i, v, al, f0_0, f0_1, rfl, t0, bb0, rr0, mm0, rfl, hh0⟩
   refine W.keepR _ _ _ _ _ _ _ hh0 rfl ?_
   refine W.seq ?_
   refine W.region ?_
   refine S.pure tOk zOk rfl rfl rfl ?_
   refine thenK_n ?_
   refine W.seq ?_
   refine W.cond rfl (fun c3 => ?_) (fun c3 => ?_)
   ·skip
    have hi := row_lt c3
    refine W.skip ?_
    refine thenK_n ?_
    refine W.seq ?_
    refine W.block ?_
    refine W.seq ?_
    refine W.region ?_
    refine S.pureE tOk zOk rfl (row_ok hi) (row_at [] hi) rfl ?_
    refine S.pure tOk zOk rfl rfl rfl ?_
    refine S.pure tOk zOk rfl rfl rfl ?_
    refine thenK_n ?_
    refine W.seq ?_
    refine W.region ?_
    refine S.pure tOk zOk rfl rfl rfl ?_
    refine S.call rfl rfl rfl rfl rfl (pc_ver_itemOf ((Lib.split s [44, 32]).getD i []) (by have := hm i; omega)) ?_
    refine S.pure tOk zOk rfl rfl rfl ?_
    refine S.pure tOk zOk rfl rfl rfl ?_
    refine S.pure tOk zOk rfl rfl rfl ?_
    refine S.alloc tOk rfl rfl rfl rfl ?_
    refine S.store tOk rfl rfl rfl rfl rfl rfl rfl rfl ?_
    refine S.pure tOk zOk rfl rfl rfl ?_
    refine thenK_n ?_
    refine W.seq ?_
    refine W.seq ?_
    refine W.region ?_
    refine S.pure tOk zOk rfl rfl rfl ?_
    refine S.pure tOk zOk rfl rfl rfl ?_
    refine S.pure tOk zOk rfl rfl rfl ?_
    refine S.pureG tOk zOk rfl rfl tg (fun _ => rfl) rfl ?_
    refine S.pureG tOk zOk rfl rfl tg (fun _ => rfl) rfl ?_
    refine S.pureG tOk zOk rfl rfl tg (fun _ => rfl) rfl ?_
    refine S.pureG tOk zOk rfl rfl tg (fun _ => rfl) rfl ?_
    refine S.pureG tOk zOk rfl rfl tg (fun _ => rfl) rfl ?_
    refine S.pureG tOk zOk rfl rfl tg (fun _ => rfl) rfl ?_
    refine S.callG rfl rfl rfl rfl tg rfl rfl (fun _ => pc_ver_wrong (itemB ((Lib.split s [44, 32]).getD i [])).1.first (by have := hm i; have := item_le ((Lib.split s [44, 32]).getD i []); omega)) ?_
    refine S.pickAndG tOk zOk rfl rfl rfl tg tg ?_
    refine S.pickOr tOk zOk rfl rfl tg ?_
    refine S.pure tOk zOk rfl rfl rfl ?_
    refine S.pureG tOk zOk rfl rfl tg (fun _ => rfl) rfl ?_
    refine S.pureG tOk zOk rfl rfl tg (fun _ => rfl) rfl ?_
    refine S.pureG tOk zOk rfl rfl tg (fun _ => rfl) rfl ?_
    refine S.pureG tOk zOk rfl rfl tg (fun _ => rfl) rfl ?_
    refine S.pureG tOk zOk rfl rfl tg (fun _ => rfl) rfl ?_
    refine S.pureG tOk zOk rfl rfl tg (fun _ => rfl) rfl ?_
    refine S.callG rfl rfl rfl rfl tg rfl rfl (fun _ => pc_ver_wrong (itemB ((Lib.split s [44, 32]).getD i [])).1.last (by have := hm i; have := item_le ((Lib.split s [44, 32]).getD i []); omega)) ?_
    refine S.pickAndG tOk zOk rfl rfl rfl tg tg ?_
    refine S.pickOr tOk zOk rfl rfl tg ?_
    refine thenK_n ?_
    refine W.cond rfl (fun c4 => ?_) (fun c4 => ?_)
    ·skip
     refine W.seq ?_
     refine W.region ?_
     refine S.pure tOk zOk rfl rfl rfl ?_
     refine S.store tOk rfl rfl rfl rfl rfl rfl rfl rfl ?_
     refine S.pure tOk zOk rfl rfl rfl ?_
     refine thenK_n ?_
     refine W.ret ?_
     refine thenK_r ?_
     refine blockK_r ?_
     refine thenK_r ?_
     refine thenK_r ?_
     refine blockK_r ?_
     refine thenK_r ?_
     exact ⟨_, rfl, rfl, le_rgNil (rB_bad c1 c2 (any_hit (d := []) hi c4))⟩
    ·skip
     refine W.skip ?_
     refine thenK_n ?_
     refine W.region ?_
     refine S.pure tOk zOk rfl rfl rfl ?_
     refine S.pure tOk zOk rfl rfl rfl ?_
     refine S.slice tOk rfl rfl ?_
     refine S.append tOk rfl rfl rfl rfl rfl rfl rfl rfl rfl rfl rfl rfl (by show _ + 1 ≤ _; simp; omega) rfl (take_snoc [] hi) rfl ?_
     refine S.pure tOk zOk rfl rfl rfl ?_
     refine blockK_n ?_
     refine thenK_n ?_
     refine W.region ?_
     refine S.pure tOk zOk rfl rfl rfl ?_
     refine S.pure tOk zOk rfl rfl rfl ?_
     refine loop_n ((Lib.split s [44, 32]).length - (i + 1)) (by omega) ⟨i + 1, _, _, hi, any_take (d := []) hi f0_1 c4, rfl, _, _, _, _, rfl, rfl, rfl, rfl, rfl, inc_i64 (by omega), trivial⟩
   ·skip
    have hi := row_ge c3
    refine W.exit ?_
    refine thenK_e ?_
    refine thenK_e ?_
    refine blockK_x ?_
    refine thenK_n ?_
    refine W.seq ?_
    refine W.freeze (q := ⟨_, _, _, _, _⟩) [4] rfl (by intro k hk; simp at hk; subst hk; rfl) ?_
    have hall := any_end hi f0_1
    have hts : (Lib.split s [44, 32]).take i = (Lib.split s [44, 32]) := List.take_of_length_le hi
    rw [hts]
    refine W.region ?_
    refine S.pure tOk zOk rfl rfl rfl ?_
    refine S.alloc tOk rfl rfl rfl rfl ?_
    refine S.store tOk rfl rfl rfl rfl rfl rfl rfl rfl ?_
    refine thenK_n ?_
    refine W.seq ?_
    refine W.seq ?_
    refine W.newRowB 1 0 10 135 rfl rfl rfl ?_
    refine W.region ?_
    refine S.pure tOk zOk rfl rfl rfl ?_
    refine S.pure tOk zOk rfl rfl rfl ?_
    refine S.pure tOk zOk rfl rfl rfl ?_
    refine thenK_n ?_
    refine W.block ?_
    refine W.loop (fun k st => ∃ i : Nat, ∃ v : Nat, ∃ al : Bool, i ≤ (Lib.split s [44, 32]).length ∧ (((Lib.split s [44, 32]).map fun t => (spanB (itemB t).1).2).take i).all (· == 0) = true ∧ k = (Lib.split s [44, 32]).length - i ∧ ∃ t b2 r2 m2, st = ⟨t, [[.d .nilsl], [.row 1 v 0 ((((Lib.split s [44, 32]).take i).map spRes).map spD).length]] ++ b2, [none, some ⟨al, v, 10, 135, ((((Lib.split s [44, 32]).take i).map spRes).map spD)⟩] ++ r2, [] ++ m2⟩ ∧ holdsL t [(2, .one (.ptr 0 0)), (9, .one (.ptr 1 0)), (63, .one (.d (.vec 3 ((Lib.split s [44, 32]).map itD)))), (64, .one (.d (.int .i64 (((Lib.split s [44, 32]).map itD).length : Int)))), (65, .one (.d (.int .i64 (i : Int))))]) ((Lib.split s [44, 32]).length) ⟨0, 0, false, Nat.zero_le _, by simp, rfl, _, _, _, _, rfl, rfl, rfl, rfl, rfl, rfl, trivial⟩ ?_
    rintro k2 _ ⟨i, v, al, f2_0, f2_1, rfl, t2, bb2, rr2, mm2, rfl, hh2⟩
    refine W.keepR _ _ _ _ _ _ _ hh2 rfl ?_
    refine W.seq ?_
    refine W.region ?_
    refine S.pure tOk zOk rfl rfl rfl ?_
    refine thenK_n ?_
    refine W.seq ?_
    refine W.cond rfl (fun c5 => ?_) (fun c5 => ?_)
    ·skip
     have hi := row_lt c5
     refine W.skip ?_
     refine thenK_n ?_
     refine W.seq ?_
     refine W.block ?_
     refine W.seq ?_
     refine W.region ?_
     refine S.pureE tOk zOk rfl (row_ok hi) (row_at [] hi) rfl ?_
     refine S.pure tOk zOk rfl rfl rfl ?_
     refine S.alloc tOk rfl rfl rfl rfl ?_
     refine S.store tOk rfl rfl rfl rfl rfl rfl rfl rfl ?_
     refine thenK_n ?_
     refine W.seq ?_
     refine W.region ?_
     refine S.pure tOk zOk rfl rfl rfl ?_
     refine S.call rfl rfl rfl rfl rfl (pc_ver_spanOf (itemB ((Lib.split s [44, 32]).getD i [])).1 (by have := hm i; have := item_le ((Lib.split s [44, 32]).getD i []); omega) (by have := hm i; have := item_le ((Lib.split s [44, 32]).getD i []); omega)) ?_
     refine S.pure tOk zOk rfl rfl rfl ?_
     refine S.pure tOk zOk rfl rfl rfl ?_
     refine S.pure tOk zOk rfl rfl rfl ?_
     refine S.alloc tOk rfl rfl rfl rfl ?_
     refine S.store tOk rfl rfl rfl rfl rfl rfl rfl rfl ?_
     refine S.pure tOk zOk rfl rfl rfl ?_
     refine thenK_n ?_
     refine W.seq ?_
     refine W.seq ?_
     refine W.region ?_
     refine S.pure tOk zOk rfl rfl rfl ?_
     refine S.pure tOk zOk rfl rfl rfl ?_
     refine thenK_n ?_
     refine W.cond rfl (fun c6 => ?_) (fun c6 => ?_)
     ·skip
      refine W.seq ?_
      refine W.region ?_
      refine S.pure tOk zOk rfl rfl rfl ?_
      refine S.pure tOk zOk rfl rfl rfl ?_
      refine S.store tOk rfl rfl rfl rfl rfl rfl rfl rfl ?_
      refine S.pure tOk zOk rfl rfl rfl ?_
      refine thenK_n ?_
      refine W.ret ?_
      refine thenK_r ?_
      refine blockK_r ?_
      refine thenK_r ?_
      refine thenK_r ?_
      refine blockK_r ?_
      refine thenK_r ?_
      exact ⟨_, rfl, rfl, le_rgNil (rB_err c1 c2 hall (code_hit hi f2_1 c6) (by simpa using c6))⟩
     ·skip
      refine W.skip ?_
      refine thenK_n ?_
      refine W.region ?_
      refine S.pure tOk zOk rfl rfl rfl ?_
      refine S.pure tOk zOk rfl rfl rfl ?_
      refine S.pure tOk zOk rfl rfl rfl ?_
      refine S.slice tOk rfl rfl ?_
      refine S.append tOk rfl rfl rfl rfl rfl rfl rfl rfl rfl rfl rfl rfl (by show _ + 1 ≤ _; simp; omega) rfl (take_snoc2 [] hi) rfl ?_
      refine S.pure tOk zOk rfl rfl rfl ?_
      refine S.store tOk rfl rfl rfl rfl rfl rfl rfl rfl ?_
      refine blockK_n ?_
      refine thenK_n ?_
      refine W.region ?_
      refine S.pure tOk zOk rfl rfl rfl ?_
      refine S.pure tOk zOk rfl rfl rfl ?_
      refine loop_n ((Lib.split s [44, 32]).length - (i + 1)) (by omega) ⟨i + 1, _, _, hi, all_take_succ (d := 0) (by simpa using hi) f2_1 (code_go hi c6), rfl, _, _, _, _, rfl, rfl, rfl, rfl, rfl, inc_i64 (by omega), trivial⟩
    ·skip
     have hi := row_ge c5
     refine W.exit ?_
     refine thenK_e ?_
     refine thenK_e ?_
     refine blockK_x ?_
     refine thenK_n ?_
     refine W.seq ?_
     refine W.seq ?_
     refine W.freezeB (ri := 1) (q := ⟨_, _, _, _, _⟩) 1 0 rfl rfl rfl rfl ?_
     have hcode := code_end hi f2_1
     have hts2 : (Lib.split s [44, 32]).take i = (Lib.split s [44, 32]) := List.take_of_length_le hi
     rw [hts2]
     have hsp : ∀ u ∈ (Lib.split s [44, 32]).map spRes, SpLen u := fun u hu => by
      obtain ⟨x, hx, rfl⟩ := List.mem_map.1 hu
      have h1 := span_e x
      have h2 : x.length ≤ s.length := split_mem hx
      unfold spRes SpLen; omega
     refine W.region ?_
     refine S.pure tOk zOk rfl rfl rfl ?_
     refine S.call rfl rfl rfl rfl rfl (pc_ver_CheckRange ((Lib.split s [44, 32]).map spRes) (by have := c1; simp at this ⊢; omega) hsp) ?_
     refine S.pure tOk zOk rfl rfl rfl ?_
     refine thenK_n ?_
     refine W.seq ?_
     refine W.region ?_
     refine S.pure tOk zOk rfl rfl rfl ?_
     refine S.pure tOk zOk rfl rfl rfl ?_
     refine thenK_n ?_
     refine W.cond rfl (fun c7 => ?_) (fun c7 => ?_)
     ·skip
      refine W.seq ?_
      refine W.region ?_
      refine S.pure tOk zOk rfl rfl rfl ?_
      refine S.pure tOk zOk rfl rfl rfl ?_
      refine S.store tOk rfl rfl rfl rfl rfl rfl rfl rfl ?_
      refine S.pure tOk zOk rfl rfl rfl ?_
      refine thenK_n ?_
      refine W.ret ?_
      refine thenK_r ?_
      exact ⟨_, rfl, rfl, le_rgNil (rB_range c1 c2 hall hcode c7)⟩
     ·skip
      refine W.skip ?_
      refine thenK_n ?_
      refine W.seq ?_
      refine W.region ?_
      refine S.pure tOk zOk rfl rfl rfl ?_
      refine S.store tOk rfl rfl rfl rfl rfl rfl rfl rfl ?_
      refine S.pure tOk zOk rfl rfl rfl ?_
      refine thenK_n ?_
      refine W.ret ?_
      exact ⟨_, rfl, rfl, le_rg (rB_ok c1 c2 hall hcode c7)⟩
end Go.Proofs.YtlkhdembbogcaaaGreatDoor

set_option linter.unusedVariables false
set_option linter.unusedSimpArgs false
set_option maxRecDepth 100000
set_option maxHeartbeats 4000000
namespace Go.Proofs.YtlkhdembbogcaaaGreatDoor
open Go
open Go.RowKit
attribute [local irreducible] parseB nextB Lib.split Lib.trimPrefix Lib.hasPrefix
theorem row_last {α : Type} {f : α → List D} {l : List α} (d : α) (h : 0 < l.length) (hl : l.length ≤ 4611686018427387904) : V.one (.eptr ((l.map f).getD (IntKind.i64.wrap (((l.map f).length : Int) - 1)).toNat [])) = V.one (.eptr (f (l.getD (l.length - 1) d))) := by
  rw [show ((l.map f).length : Int) = (l.length : Int) by simp, pred_nat hl]
  simp [List.getD_eq_getElem?_getD, show l.length - 1 < l.length by omega]
theorem last_ok {α : Type} {f : α → List D} {l : List α} (h : 0 < l.length) (hl : l.length ≤ 4611686018427387904) :
    (decide (0 ≤ IntKind.i64.wrap (((l.map f).length : Int) - 1)) && decide (IntKind.i64.wrap (((l.map f).length : Int) - 1) < ((l.map f).length : Int))) = true := by
  have e : IntKind.i64.wrap (((l.map f).length : Int) - 1) = (l.length : Int) - 1 := by rw [show ((l.map f).length : Int) = (l.length : Int) by simp]; exact wrap_i64 (by omega) (by omega)
  rw [e]; simp; omega
theorem pc_outref2_upTo (v w : Ver) :
  PureCall Tryz.prog J 220 [verV v, verV w] (.agg [.d (.bool true), .d (.bool true), .d (.int .i64 v.a), .d (.int .i64 v.b), .d (.int .i64 v.c), .d (.str v.e), .d (.int .i64 w.a), .d (.int .i64 w.b), .d (.int .i64 w.c), .d (.str w.e)]) := by
 refine PureCall.of_body tOk (fn := Tryz.f220) Tryz.func220 (by kernel_rfl) rfl (Nat.le_of_ble_eq_true rfl) (fun E => ?_)
 refine W.seq ?_
 refine W.region ?_
 refine S.box rfl rfl rfl rfl ?_
 refine S.box rfl rfl rfl rfl ?_
 refine S.alloc tOk rfl rfl rfl rfl ?_
 refine thenK_n ?_
 refine W.seq ?_
 refine W.region ?_
 refine S.pure tOk zOk rfl rfl rfl ?_
 refine S.pure tOk zOk rfl rfl rfl ?_
 refine S.pure tOk zOk rfl rfl rfl ?_
 refine S.store tOk rfl rfl rfl rfl rfl rfl rfl rfl ?_
 refine thenK_n ?_
 refine W.ret ?_
 exact ⟨_, rfl, rfl, LeV.refl _⟩
theorem pc_outref2_shortSpan (s : List UInt8) (hs : s.length < 4294967000) :
  PureCall Tryz.prog J 184 [.one (.d (.str s))] (.tup [spV (shortB s).1, .one (.d (.int .i64 (shortB s).2))]) := by
 have h1 := parse_e s
 have h2 := parse_e (s.drop 1)
 simp only [List.length_drop] at h2
 refine PureCall.of_body tOk (fn := Tryz.f184) Tryz.func184 (by kernel_rfl) rfl (Nat.le_of_ble_eq_true rfl) (fun E => ?_)
 refine W.seq ?_
 refine W.region ?_
 refine S.alloc tOk rfl rfl rfl rfl ?_
 refine S.pure tOk zOk rfl rfl rfl ?_
 refine thenK_n ?_
 refine W.seq ?_
 refine W.seq ?_
 refine W.region ?_
 refine S.pure tOk zOk rfl rfl rfl ?_
 refine S.pure tOk zOk rfl rfl rfl ?_
 refine thenK_n ?_
 refine W.cond rfl (fun c1 => ?_) (fun c1 => ?_)
 ·skip
  refine W.seq ?_
  refine W.region ?_
  refine S.pure tOk zOk rfl rfl rfl ?_
  refine S.store tOk rfl rfl rfl rfl rfl rfl rfl rfl ?_
  refine S.pure tOk zOk rfl rfl rfl ?_
  refine thenK_n ?_
  refine W.ret ?_
  refine thenK_r ?_
  exact ⟨_, rfl, rfl, LeV.of_force rfl (congrArg (fun x : Sp × Int => V.tup [spV x.1, .one (.d (.int .i64 x.2))]) ((if_pos c1) : shortB s = _)).symm⟩
 ·skip
  refine W.skip ?_
  refine thenK_n ?_
  refine W.seq ?_
  refine W.region ?_
  refine S.pure tOk zOk rfl rfl rfl ?_
  refine thenK_n ?_
  refine W.seq ?_
  refine W.seq ?_
  refine W.region ?_
  refine S.pure tOk zOk rfl rfl rfl ?_
  refine S.pure tOk zOk rfl rfl rfl ?_
  refine S.pure tOk zOk rfl rfl rfl ?_
  refine S.pureG tOk zOk rfl rfl tg (fun _ => rfl) rfl ?_
  refine S.pureG tOk zOk rfl rfl tg (fun h => idx_ok (Int.le_refl _) (by have := len_pos (b := true) (by simpa using h); omega)) rfl ?_
  refine S.callG rfl rfl rfl rfl tg rfl rfl (fun _ => pc_IndexByte _ _) ?_
  refine S.pureG tOk zOk rfl rfl tg (fun _ => rfl) rfl ?_
  refine S.pickAnd tOk zOk rfl rfl tg ?_
  refine thenK_n ?_
  refine W.cond rfl (fun c2 => ?_) (fun c2 => ?_)
  ·skip
   refine W.regionD mixed (by kernel_rfl) ?_
   refine D.pure tOk zOk rfl rfl rfl rfl ?_
   refine D.pure tOk zOk rfl rfl (idx_ok (Int.le_refl _) (by have := len_pos c2; omega)) rfl ?_
   refine D.pure tOk zOk rfl rfl rfl rfl ?_
   refine D.pureE tOk zOk rfl rfl (sl_ok (l := 1) (h := (s.length : Int)) (n := (s.length : Int)) (by decide) (len_pos c2) (Int.le_refl _)) (sl_tail s) rfl ?_
   refine D.pure tOk zOk rfl rfl rfl rfl ?_
   refine D.pure tOk zOk rfl rfl rfl rfl ?_
   refine thenK_n ?_
   refine W.seq ?_
   refine W.region ?_
   refine S.pure tOk zOk rfl rfl rfl ?_
   refine S.call rfl rfl rfl rfl rfl (pc_outref2_ReadVersion (s.drop 1) (by simp; omega)) ?_
   refine S.pure tOk zOk rfl rfl rfl ?_
   refine S.pure tOk zOk rfl rfl rfl ?_
   refine S.pure tOk zOk rfl rfl rfl ?_
   refine S.alloc tOk rfl rfl rfl rfl ?_
   refine S.store tOk rfl rfl rfl rfl rfl rfl rfl rfl ?_
   refine S.pure tOk zOk rfl rfl rfl ?_
   refine thenK_n ?_
   refine W.seq ?_
   refine W.seq ?_
   refine W.region ?_
   refine S.pure tOk zOk rfl rfl rfl ?_
   refine S.pure tOk zOk rfl rfl rfl ?_
   refine thenK_n ?_
   refine W.cond rfl (fun c3 => ?_) (fun c3 => ?_)
   ·skip
    refine W.seq ?_
    refine W.region ?_
    refine S.pure tOk zOk rfl rfl rfl ?_
    refine S.pure tOk zOk rfl rfl rfl ?_
    refine S.store tOk rfl rfl rfl rfl rfl rfl rfl rfl ?_
    refine S.pure tOk zOk rfl rfl rfl ?_
    refine thenK_n ?_
    refine W.ret ?_
    refine thenK_r ?_
    exact ⟨_, rfl, rfl, LeV.of_force rfl (congrArg (fun x : Sp × Int => V.tup [spV x.1, .one (.d (.int .i64 x.2))]) (((if_neg (Bool.eq_false_iff.1 c1)).trans ((if_pos c2).trans (if_pos c3))) : shortB s = _)).symm⟩
   ·skip
    refine W.skip ?_
    refine thenK_n ?_
    refine W.seq ?_
    refine W.region ?_
    refine S.pure tOk zOk rfl rfl rfl ?_
    refine S.alloc tOk rfl rfl rfl rfl ?_
    refine S.store tOk rfl rfl rfl rfl rfl rfl rfl rfl ?_
    refine thenK_n ?_
    refine W.seq ?_
    refine W.block ?_
    refine W.seq ?_
    refine W.region ?_
    refine S.pure tOk zOk rfl rfl rfl ?_
    refine S.pure tOk zOk rfl rfl rfl ?_
    refine S.pure tOk zOk rfl rfl rfl ?_
    refine S.pureG tOk zOk rfl rfl tg (fun _ => rfl) rfl ?_
    refine S.pureG tOk zOk rfl rfl tg (fun _ => rfl) rfl ?_
    refine S.pureG tOk zOk rfl rfl tg (fun _ => rfl) rfl ?_
    refine S.pickAnd tOk zOk rfl rfl tg ?_
    refine S.pure tOk zOk rfl rfl rfl ?_
    refine thenK_n ?_
    refine W.cond rfl (fun c4 => ?_) (fun c4 => ?_)
    ·skip
     refine W.seq ?_
     refine W.region ?_
     refine S.pure tOk zOk rfl rfl rfl ?_
     refine S.pure tOk zOk rfl rfl rfl ?_
     refine S.pure tOk zOk rfl (cat_ok (by simp [-List.getD_eq_getElem?_getD, -List.drop_one]; omega)) rfl ?_
     refine S.pure tOk zOk rfl rfl rfl ?_
     refine S.store tOk rfl rfl rfl rfl rfl rfl rfl rfl ?_
     refine thenK_n ?_
     refine W.seq ?_
     refine W.regionD mixed (by kernel_rfl) ?_
     refine D.pure tOk zOk rfl rfl rfl rfl ?_
     refine D.pure tOk zOk rfl rfl rfl rfl ?_
     refine D.call rfl rfl rfl rfl rfl (pc_outref2_upTo (parseB (s.drop 1)).1 ⟨(parseB (s.drop 1)).1.a, (parseB (s.drop 1)).1.b, (parseB (s.drop 1)).1.c, (parseB (s.drop 1)).1.e ++ [46, 48]⟩) ?_
     refine D.pure tOk zOk rfl rfl rfl rfl ?_
     refine D.slice tOk rfl rfl ?_
     refine D.call rfl rfl rfl rfl rfl (pc_verr1 ⟨(parseB (s.drop 1)).1.a, (parseB (s.drop 1)).1.b, (parseB (s.drop 1)).1.c, (parseB (s.drop 1)).1.e ++ [46, 48]⟩ (by simp [-List.drop_one]; omega)) ?_
     refine D.store tOk rfl rfl rfl rfl rfl rfl rfl rfl ?_
     refine D.pure tOk zOk rfl rfl rfl rfl ?_
     refine thenK_n ?_
     refine W.ret ?_
     refine blockK_r ?_
     refine thenK_r ?_
     exact ⟨_, rfl, rfl, LeV.of_force rfl (congrArg (fun x : Sp × Int => V.tup [spV x.1, .one (.d (.int .i64 x.2))]) (((if_neg (Bool.eq_false_iff.1 c1)).trans ((if_pos c2).trans ((if_neg (Bool.eq_false_iff.1 c3)).trans (if_pos c4)))) : shortB s = _)).symm⟩
    ·skip
     refine W.seq ?_
     refine W.region ?_
     refine S.pure tOk zOk rfl rfl rfl ?_
     refine S.pure tOk zOk rfl rfl rfl ?_
     refine S.pure tOk zOk rfl rfl rfl ?_
     refine thenK_n ?_
     refine W.cond rfl (fun c5 => ?_) (fun c5 => ?_)
     ·skip
      refine W.seq ?_
      refine W.region ?_
      refine S.pure tOk zOk rfl rfl rfl ?_
      refine S.call rfl rfl rfl rfl rfl (pc_outref2_NextOf (parseB (s.drop 1)).1 (by omega) 2) ?_
      refine S.pure tOk zOk rfl rfl rfl ?_
      refine S.pure tOk zOk rfl rfl rfl ?_
      refine S.pure tOk zOk rfl rfl rfl ?_
      refine S.store tOk rfl rfl rfl rfl rfl rfl rfl rfl ?_
      refine S.pure tOk zOk rfl rfl rfl ?_
      refine thenK_n ?_
      refine W.region ?_
      refine S.pure tOk zOk rfl rfl rfl ?_
      refine S.store tOk rfl rfl rfl rfl rfl rfl rfl rfl ?_
      refine blockK_n ?_
      refine thenK_n ?_
      refine W.seq ?_
      refine W.region ?_
      refine S.pure tOk zOk rfl rfl rfl ?_
      refine S.pure tOk zOk rfl rfl rfl ?_
      refine S.call rfl rfl rfl rfl rfl (pc_outref2_upTo (parseB (s.drop 1)).1 ⟨(nextB (parseB (s.drop 1)).1 2).1.a, (nextB (parseB (s.drop 1)).1 2).1.b, (nextB (parseB (s.drop 1)).1 2).1.c, [48]⟩) ?_
      refine S.pure tOk zOk rfl rfl rfl ?_
      refine S.store tOk rfl rfl rfl rfl rfl rfl rfl rfl ?_
      refine S.pure tOk zOk rfl rfl rfl ?_
      refine thenK_n ?_
      refine W.ret ?_
      exact ⟨_, rfl, rfl, LeV.of_force rfl (congrArg (fun x : Sp × Int => V.tup [spV x.1, .one (.d (.int .i64 x.2))]) (((if_neg (Bool.eq_false_iff.1 c1)).trans ((if_pos c2).trans ((if_neg (Bool.eq_false_iff.1 c3)).trans ((if_neg (Bool.eq_false_iff.1 c4)).trans (if_pos c5))))) : shortB s = _)).symm⟩
     ·skip
      refine W.seq ?_
      refine W.region ?_
      refine S.pure tOk zOk rfl rfl rfl ?_
      refine S.pure tOk zOk rfl rfl rfl ?_
      refine S.pure tOk zOk rfl rfl rfl ?_
      refine S.pureG tOk zOk rfl rfl tg (fun _ => rfl) rfl ?_
      refine S.pureG tOk zOk rfl rfl tg (fun _ => rfl) rfl ?_
      refine S.pureG tOk zOk rfl rfl tg (fun _ => rfl) rfl ?_
      refine S.pickAnd tOk zOk rfl rfl tg ?_
      refine S.pure tOk zOk rfl rfl rfl ?_
      refine thenK_n ?_
      refine W.cond rfl (fun c6 => ?_) (fun c6 => ?_)
      ·skip
       refine W.region ?_
       refine S.pure tOk zOk rfl rfl rfl ?_
       refine S.call rfl rfl rfl rfl rfl (pc_outref2_NextOf (parseB (s.drop 1)).1 (by omega) 0) ?_
       refine S.pure tOk zOk rfl rfl rfl ?_
       refine S.pure tOk zOk rfl rfl rfl ?_
       refine S.pure tOk zOk rfl rfl rfl ?_
       refine S.store tOk rfl rfl rfl rfl rfl rfl rfl rfl ?_
       refine S.pure tOk zOk rfl rfl rfl ?_
       refine blockK_n ?_
       refine thenK_n ?_
       refine W.seq ?_
       refine W.region ?_
       refine S.pure tOk zOk rfl rfl rfl ?_
       refine S.pure tOk zOk rfl rfl rfl ?_
       refine S.call rfl rfl rfl rfl rfl (pc_outref2_upTo (parseB (s.drop 1)).1 (nextB (parseB (s.drop 1)).1 0).1) ?_
       refine S.pure tOk zOk rfl rfl rfl ?_
       refine S.store tOk rfl rfl rfl rfl rfl rfl rfl rfl ?_
       refine S.pure tOk zOk rfl rfl rfl ?_
       refine thenK_n ?_
       refine W.ret ?_
       exact ⟨_, rfl, rfl, LeV.of_force rfl (congrArg (fun x : Sp × Int => V.tup [spV x.1, .one (.d (.int .i64 x.2))]) (((if_neg (Bool.eq_false_iff.1 c1)).trans ((if_pos c2).trans ((if_neg (Bool.eq_false_iff.1 c3)).trans ((if_neg (Bool.eq_false_iff.1 c4)).trans ((if_neg (Bool.eq_false_iff.1 c5)).trans (if_pos c6)))))) : shortB s = _)).symm⟩
      ·skip
       refine W.region ?_
       refine S.pure tOk zOk rfl rfl rfl ?_
       refine S.call rfl rfl rfl rfl rfl (pc_outref2_NextOf (parseB (s.drop 1)).1 (by omega) 1) ?_
       refine S.pure tOk zOk rfl rfl rfl ?_
       refine S.pure tOk zOk rfl rfl rfl ?_
       refine S.pure tOk zOk rfl rfl rfl ?_
       refine S.store tOk rfl rfl rfl rfl rfl rfl rfl rfl ?_
       refine S.pure tOk zOk rfl rfl rfl ?_
       refine blockK_n ?_
       refine thenK_n ?_
       refine W.seq ?_
       refine W.region ?_
       refine S.pure tOk zOk rfl rfl rfl ?_
       refine S.pure tOk zOk rfl rfl rfl ?_
       refine S.call rfl rfl rfl rfl rfl (pc_outref2_upTo (parseB (s.drop 1)).1 (nextB (parseB (s.drop 1)).1 1).1) ?_
       refine S.pure tOk zOk rfl rfl rfl ?_
       refine S.store tOk rfl rfl rfl rfl rfl rfl rfl rfl ?_
       refine S.pure tOk zOk rfl rfl rfl ?_
       refine thenK_n ?_
       refine W.ret ?_
       exact ⟨_, rfl, rfl, LeV.of_force rfl (congrArg (fun x : Sp × Int => V.tup [spV x.1, .one (.d (.int .i64 x.2))]) (((if_neg (Bool.eq_false_iff.1 c1)).trans ((if_pos c2).trans ((if_neg (Bool.eq_false_iff.1 c3)).trans ((if_neg (Bool.eq_false_iff.1 c4)).trans ((if_neg (Bool.eq_false_iff.1 c5)).trans (if_neg (Bool.eq_false_iff.1 c6))))))) : shortB s = _)).symm⟩
  ·skip
   refine W.skip ?_
   refine thenK_n ?_
   refine W.seq ?_
   refine W.region ?_
   refine S.pure tOk zOk rfl rfl rfl ?_
   refine S.call rfl rfl rfl rfl rfl (pc_outref2_ReadVersion s (by omega)) ?_
   refine S.pure tOk zOk rfl rfl rfl ?_
   refine S.pure tOk zOk rfl rfl rfl ?_
   refine S.pure tOk zOk rfl rfl rfl ?_
   refine S.alloc tOk rfl rfl rfl rfl ?_
   refine S.store tOk rfl rfl rfl rfl rfl rfl rfl rfl ?_
   refine S.pure tOk zOk rfl rfl rfl ?_
   refine thenK_n ?_
   refine W.seq ?_
   refine W.seq ?_
   refine W.region ?_
   refine S.pure tOk zOk rfl rfl rfl ?_
   refine S.pure tOk zOk rfl rfl rfl ?_
   refine thenK_n ?_
   refine W.cond rfl (fun c7 => ?_) (fun c7 => ?_)
   ·skip
    refine W.seq ?_
    refine W.region ?_
    refine S.pure tOk zOk rfl rfl rfl ?_
    refine S.pure tOk zOk rfl rfl rfl ?_
    refine S.store tOk rfl rfl rfl rfl rfl rfl rfl rfl ?_
    refine S.pure tOk zOk rfl rfl rfl ?_
    refine thenK_n ?_
    refine W.ret ?_
    refine thenK_r ?_
    exact ⟨_, rfl, rfl, LeV.of_force rfl (congrArg (fun x : Sp × Int => V.tup [spV x.1, .one (.d (.int .i64 x.2))]) (((if_neg (Bool.eq_false_iff.1 c1)).trans ((if_neg (Bool.eq_false_iff.1 c2)).trans (if_pos c7))) : shortB s = _)).symm⟩
   ·skip
    refine W.skip ?_
    refine thenK_n ?_
    refine W.seq ?_
    refine W.region ?_
    refine S.pure tOk zOk rfl rfl rfl ?_
    refine S.alloc tOk rfl rfl rfl rfl ?_
    refine S.store tOk rfl rfl rfl rfl rfl rfl rfl rfl ?_
    refine thenK_n ?_
    refine W.seq ?_
    refine W.block ?_
    refine W.seq ?_
    refine W.region ?_
    refine S.pure tOk zOk rfl rfl rfl ?_
    refine S.pure tOk zOk rfl rfl rfl ?_
    refine S.pure tOk zOk rfl rfl rfl ?_
    refine S.pureG tOk zOk rfl rfl tg (fun _ => rfl) rfl ?_
    refine S.pureG tOk zOk rfl rfl tg (fun _ => rfl) rfl ?_
    refine S.pureG tOk zOk rfl rfl tg (fun _ => rfl) rfl ?_
    refine S.pickAnd tOk zOk rfl rfl tg ?_
    refine S.pure tOk zOk rfl rfl rfl ?_
    refine thenK_n ?_
    refine W.cond rfl (fun c8 => ?_) (fun c8 => ?_)
    ·skip
     refine W.seq ?_
     refine W.region ?_
     refine S.pure tOk zOk rfl rfl rfl ?_
     refine S.pure tOk zOk rfl rfl rfl ?_
     refine S.pure tOk zOk rfl (cat_ok (by simp [-List.getD_eq_getElem?_getD, -List.drop_one]; omega)) rfl ?_
     refine S.pure tOk zOk rfl rfl rfl ?_
     refine S.store tOk rfl rfl rfl rfl rfl rfl rfl rfl ?_
     refine thenK_n ?_
     refine W.seq ?_
     refine W.regionD mixed (by kernel_rfl) ?_
     refine D.pure tOk zOk rfl rfl rfl rfl ?_
     refine D.pure tOk zOk rfl rfl rfl rfl ?_
     refine D.call rfl rfl rfl rfl rfl (pc_outref2_upTo (parseB s).1 ⟨(parseB s).1.a, (parseB s).1.b, (parseB s).1.c, (parseB s).1.e ++ [46, 48]⟩) ?_
     refine D.pure tOk zOk rfl rfl rfl rfl ?_
     refine D.slice tOk rfl rfl ?_
     refine D.call rfl rfl rfl rfl rfl (pc_verr1 ⟨(parseB s).1.a, (parseB s).1.b, (parseB s).1.c, (parseB s).1.e ++ [46, 48]⟩ (by simp [-List.drop_one]; omega)) ?_
     refine D.store tOk rfl rfl rfl rfl rfl rfl rfl rfl ?_
     refine D.pure tOk zOk rfl rfl rfl rfl ?_
     refine thenK_n ?_
     refine W.ret ?_
     refine blockK_r ?_
     refine thenK_r ?_
     exact ⟨_, rfl, rfl, LeV.of_force rfl (congrArg (fun x : Sp × Int => V.tup [spV x.1, .one (.d (.int .i64 x.2))]) (((if_neg (Bool.eq_false_iff.1 c1)).trans ((if_neg (Bool.eq_false_iff.1 c2)).trans ((if_neg (Bool.eq_false_iff.1 c7)).trans (if_pos c8)))) : shortB s = _)).symm⟩
    ·skip
     refine W.seq ?_
     refine W.region ?_
     refine S.pure tOk zOk rfl rfl rfl ?_
     refine S.pure tOk zOk rfl rfl rfl ?_
     refine S.pure tOk zOk rfl rfl rfl ?_
     refine thenK_n ?_
     refine W.cond rfl (fun c9 => ?_) (fun c9 => ?_)
     ·skip
      refine W.seq ?_
      refine W.region ?_
      refine S.pure tOk zOk rfl rfl rfl ?_
      refine S.call rfl rfl rfl rfl rfl (pc_outref2_NextOf (parseB s).1 (by omega) 2) ?_
      refine S.pure tOk zOk rfl rfl rfl ?_
      refine S.pure tOk zOk rfl rfl rfl ?_
      refine S.pure tOk zOk rfl rfl rfl ?_
      refine S.store tOk rfl rfl rfl rfl rfl rfl rfl rfl ?_
      refine S.pure tOk zOk rfl rfl rfl ?_
      refine thenK_n ?_
      refine W.region ?_
      refine S.pure tOk zOk rfl rfl rfl ?_
      refine S.store tOk rfl rfl rfl rfl rfl rfl rfl rfl ?_
      refine blockK_n ?_
      refine thenK_n ?_
      refine W.seq ?_
      refine W.region ?_
      refine S.pure tOk zOk rfl rfl rfl ?_
      refine S.pure tOk zOk rfl rfl rfl ?_
      refine S.call rfl rfl rfl rfl rfl (pc_outref2_upTo (parseB s).1 ⟨(nextB (parseB s).1 2).1.a, (nextB (parseB s).1 2).1.b, (nextB (parseB s).1 2).1.c, [48]⟩) ?_
      refine S.pure tOk zOk rfl rfl rfl ?_
      refine S.store tOk rfl rfl rfl rfl rfl rfl rfl rfl ?_
      refine S.pure tOk zOk rfl rfl rfl ?_
      refine thenK_n ?_
      refine W.ret ?_
      exact ⟨_, rfl, rfl, LeV.of_force rfl (congrArg (fun x : Sp × Int => V.tup [spV x.1, .one (.d (.int .i64 x.2))]) (((if_neg (Bool.eq_false_iff.1 c1)).trans ((if_neg (Bool.eq_false_iff.1 c2)).trans ((if_neg (Bool.eq_false_iff.1 c7)).trans ((if_neg (Bool.eq_false_iff.1 c8)).trans (if_pos c9))))) : shortB s = _)).symm⟩
     ·skip
      refine W.seq ?_
      refine W.region ?_
      refine S.pure tOk zOk rfl rfl rfl ?_
      refine S.pure tOk zOk rfl rfl rfl ?_
      refine S.pure tOk zOk rfl rfl rfl ?_
      refine S.pureG tOk zOk rfl rfl tg (fun _ => rfl) rfl ?_
      refine S.pureG tOk zOk rfl rfl tg (fun _ => rfl) rfl ?_
      refine S.pureG tOk zOk rfl rfl tg (fun _ => rfl) rfl ?_
      refine S.pickAnd tOk zOk rfl rfl tg ?_
      refine S.pure tOk zOk rfl rfl rfl ?_
      refine thenK_n ?_
      refine W.cond rfl (fun c10 => ?_) (fun c10 => ?_)
      ·skip
       refine W.region ?_
       refine S.pure tOk zOk rfl rfl rfl ?_
       refine S.call rfl rfl rfl rfl rfl (pc_outref2_NextOf (parseB s).1 (by omega) 0) ?_
       refine S.pure tOk zOk rfl rfl rfl ?_
       refine S.pure tOk zOk rfl rfl rfl ?_
       refine S.pure tOk zOk rfl rfl rfl ?_
       refine S.store tOk rfl rfl rfl rfl rfl rfl rfl rfl ?_
       refine S.pure tOk zOk rfl rfl rfl ?_
       refine blockK_n ?_
       refine thenK_n ?_
       refine W.seq ?_
       refine W.region ?_
       refine S.pure tOk zOk rfl rfl rfl ?_
       refine S.pure tOk zOk rfl rfl rfl ?_
       refine S.call rfl rfl rfl rfl rfl (pc_outref2_upTo (parseB s).1 (nextB (parseB s).1 0).1) ?_
       refine S.pure tOk zOk rfl rfl rfl ?_
       refine S.store tOk rfl rfl rfl rfl rfl rfl rfl rfl ?_
       refine S.pure tOk zOk rfl rfl rfl ?_
       refine thenK_n ?_
       refine W.ret ?_
       exact ⟨_, rfl, rfl, LeV.of_force rfl (congrArg (fun x : Sp × Int => V.tup [spV x.1, .one (.d (.int .i64 x.2))]) (((if_neg (Bool.eq_false_iff.1 c1)).trans ((if_neg (Bool.eq_false_iff.1 c2)).trans ((if_neg (Bool.eq_false_iff.1 c7)).trans ((if_neg (Bool.eq_false_iff.1 c8)).trans ((if_neg (Bool.eq_false_iff.1 c9)).trans (if_pos c10)))))) : shortB s = _)).symm⟩
      ·skip
       refine W.region ?_
       refine S.pure tOk zOk rfl rfl rfl ?_
       refine S.call rfl rfl rfl rfl rfl (pc_outref2_NextOf (parseB s).1 (by omega) 1) ?_
       refine S.pure tOk zOk rfl rfl rfl ?_
       refine S.pure tOk zOk rfl rfl rfl ?_
       refine S.pure tOk zOk rfl rfl rfl ?_
       refine S.store tOk rfl rfl rfl rfl rfl rfl rfl rfl ?_
       refine S.pure tOk zOk rfl rfl rfl ?_
       refine blockK_n ?_
       refine thenK_n ?_
       refine W.seq ?_
       refine W.region ?_
       refine S.pure tOk zOk rfl rfl rfl ?_
       refine S.pure tOk zOk rfl rfl rfl ?_
       refine S.call rfl rfl rfl rfl rfl (pc_outref2_upTo (parseB s).1 (nextB (parseB s).1 1).1) ?_
       refine S.pure tOk zOk rfl rfl rfl ?_
       refine S.store tOk rfl rfl rfl rfl rfl rfl rfl rfl ?_
       refine S.pure tOk zOk rfl rfl rfl ?_
       refine thenK_n ?_
       refine W.ret ?_
       exact ⟨_, rfl, rfl, LeV.of_force rfl (congrArg (fun x : Sp × Int => V.tup [spV x.1, .one (.d (.int .i64 x.2))]) (((if_neg (Bool.eq_false_iff.1 c1)).trans ((if_neg (Bool.eq_false_iff.1 c2)).trans ((if_neg (Bool.eq_false_iff.1 c7)).trans ((if_neg (Bool.eq_false_iff.1 c8)).trans ((if_neg (Bool.eq_false_iff.1 c9)).trans (if_neg (Bool.eq_false_iff.1 c10))))))) : shortB s = _)).symm⟩
theorem pc_outref2_ReadRange (s : List UInt8) (hs : s.length < 4294967000) :
  PureCall Tryz.prog J 129 [.one (.d (.str s))] (.tup [rgV (rangeR s).1, .one (.d (.int .i64 (rangeR s).2))]) := by
 have hmany := split_le s [44, 32]
 have hm := fun i => @split_at s [44, 32] i
 refine PureCall.of_body tOk (fn := Tryz.f129) Tryz.func129 (by kernel_rfl) rfl (Nat.le_of_ble_eq_true rfl) (fun E => ?_)
 refine W.seq ?_
 refine W.region ?_
 refine S.alloc tOk rfl rfl rfl rfl ?_
 refine S.pure tOk zOk rfl rfl rfl ?_
 refine thenK_n ?_
 refine W.seq ?_
 refine W.seq ?_
 refine W.region ?_
 refine S.pure tOk zOk rfl rfl rfl ?_
 refine S.pure tOk zOk rfl rfl rfl ?_
 refine S.pure tOk zOk rfl rfl rfl ?_
 refine thenK_n ?_
 refine W.cond rfl (fun c1 => ?_) (fun c1 => ?_)
 ·skip
  refine W.seq ?_
  refine W.region ?_
  refine S.pure tOk zOk rfl rfl rfl ?_
  refine S.store tOk rfl rfl rfl rfl rfl rfl rfl rfl ?_
  refine S.pure tOk zOk rfl rfl rfl ?_
  refine thenK_n ?_
  refine W.ret ?_
  refine thenK_r ?_
  exact ⟨_, rfl, rfl, le_rgNil (rR_large c1)⟩
 ·skip
  refine W.skip ?_
  refine thenK_n ?_
  refine W.seq ?_
  refine W.seq ?_
  refine W.region ?_
  refine S.pure tOk zOk rfl rfl rfl ?_
  refine S.pure tOk zOk rfl rfl rfl ?_
  refine thenK_n ?_
  refine W.cond rfl (fun c2 => ?_) (fun c2 => ?_)
  ·skip
   refine W.seq ?_
   refine W.region ?_
   refine S.pure tOk zOk rfl rfl rfl ?_
   refine S.store tOk rfl rfl rfl rfl rfl rfl rfl rfl ?_
   refine S.pure tOk zOk rfl rfl rfl ?_
   refine thenK_n ?_
   refine W.ret ?_
   refine thenK_r ?_
   exact ⟨_, rfl, rfl, le_rgNil (rR_none c1 c2)⟩
  ·skip
   refine W.skip ?_
   refine thenK_n ?_
   refine W.seq ?_
   refine W.region ?_
   refine S.alloc tOk rfl rfl rfl rfl ?_
   refine thenK_n ?_
   refine W.seq ?_
   refine W.region ?_
   refine S.pure tOk zOk rfl rfl rfl ?_
   refine thenK_n ?_
   refine W.seq ?_
   refine W.seq ?_
   refine W.newRowB 1 0 10 135 rfl rfl rfl ?_
   refine W.region ?_
   refine S.pure tOk zOk rfl rfl rfl ?_
   refine S.call rfl rfl rfl rfl rfl (pc_Split s [44, 32] (by omega) (by decide)) ?_
   refine S.pure tOk zOk rfl rfl rfl ?_
   refine S.pure tOk zOk rfl rfl rfl ?_
   refine thenK_n ?_
   refine W.block ?_
   refine W.loop (fun k st => ∃ i : Nat, ∃ v : Nat, ∃ al : Bool, i ≤ (Lib.split s [44, 32]).length ∧ ((Lib.split s [44, 32]).take i).any (fun t => tokE t == 8) = false ∧ k = (Lib.split s [44, 32]).length - i ∧ ∃ t b2 r2 m2, st = ⟨t, [[.d .nilsl], [.row 0 v 0 ((((Lib.split s [44, 32]).take i).map tokS).map spD).length]] ++ b2, [some ⟨al, v, 10, 135, ((((Lib.split s [44, 32]).take i).map tokS).map spD)⟩] ++ r2, [] ++ m2⟩ ∧ holdsL t [(2, .one (.ptr 0 0)), (4, .one (.ptr 1 0)), (5, .one (.d (.int .i64 (firstNe (((Lib.split s [44, 32]).take i).map tokE))))), (25, .one (.d (.vec 1 ((Lib.split s [44, 32]).map fun x => [.str x])))), (26, .one (.d (.int .i64 (((Lib.split s [44, 32]).map fun x => ([.str x] : List D)).length : Int)))), (27, .one (.d (.int .i64 (i : Int))))]) ((Lib.split s [44, 32]).length) ⟨0, 0, false, Nat.zero_le _, by simp, rfl, _, _, _, _, rfl, rfl, rfl, rfl, rfl, rfl, rfl, trivial⟩ ?_
   rintro k0 _ ⟨i, v, al, f0_0, f0_1, rfl, t0, bb0, rr0, mm0, rfl, hh0⟩
   refine W.keepR _ _ _ _ _ _ _ hh0 rfl ?_
   refine W.seq ?_
   refine W.region ?_
   refine S.pure tOk zOk rfl rfl rfl ?_
   refine thenK_n ?_
   refine W.seq ?_
   refine W.cond rfl (fun c3 => ?_) (fun c3 => ?_)
   ·skip
    have hi := row_lt c3
    have hti := hm i
    have hp := split_pos ((Lib.split s [44, 32]).getD i []) [32]
    have hml := split_le ((Lib.split s [44, 32]).getD i []) [32]
    have hfw : ((Lib.split ((Lib.split s [44, 32]).getD i []) [32]).getD 0 []).length ≤ ((Lib.split s [44, 32]).getD i []).length := split_at
    have hlw : ((Lib.split ((Lib.split s [44, 32]).getD i []) [32]).getD ((Lib.split ((Lib.split s [44, 32]).getD i []) [32]).length - 1) []).length ≤ ((Lib.split s [44, 32]).getD i []).length := split_at
    have ht1 := trim_le ((Lib.split ((Lib.split s [44, 32]).getD i []) [32]).getD 0 []) [62, 61]
    have ht2 := trim_le ((Lib.split ((Lib.split s [44, 32]).getD i []) [32]).getD ((Lib.split ((Lib.split s [44, 32]).getD i []) [32]).length - 1) []) [60]
    refine W.skip ?_
    refine thenK_n ?_
    refine W.seq ?_
    refine W.block ?_
    refine W.seq ?_
    refine W.region ?_
    refine S.pureE tOk zOk rfl (row_ok hi) (row_at [] hi) rfl ?_
    refine S.pure tOk zOk rfl rfl rfl ?_
    refine S.pure tOk zOk rfl rfl rfl ?_
    refine thenK_n ?_
    refine W.seq ?_
    refine W.region ?_
    refine S.pure tOk zOk rfl rfl rfl ?_
    refine S.call rfl rfl rfl rfl rfl (pc_Split ((Lib.split s [44, 32]).getD i []) [32] (by omega) (by decide)) ?_
    refine S.pure tOk zOk rfl rfl rfl ?_
    refine thenK_n ?_
    refine W.seq ?_
    refine W.region ?_
    refine S.pure tOk zOk rfl rfl rfl ?_
    refine S.pureE tOk zOk rfl (row_ok (i := 0) hp) (row_at (i := 0) [] hp) rfl ?_
    refine S.pure tOk zOk rfl rfl rfl ?_
    refine S.call rfl rfl rfl rfl rfl (pc_CutPrefix ((Lib.split ((Lib.split s [44, 32]).getD i []) [32]).getD 0 []) [62, 61]) ?_
    refine S.pure tOk zOk rfl rfl rfl ?_
    refine S.pure tOk zOk rfl rfl rfl ?_
    refine S.pure tOk zOk rfl rfl rfl ?_
    refine S.pure tOk zOk rfl rfl rfl ?_
    refine S.pure tOk zOk rfl rfl rfl ?_
    refine thenK_n ?_
    refine W.seq ?_
    refine W.region ?_
    refine S.pure tOk zOk rfl rfl rfl ?_
    refine S.pure tOk zOk rfl rfl rfl ?_
    refine S.pure tOk zOk rfl rfl rfl ?_
    refine S.pure tOk zOk rfl rfl rfl ?_
    refine S.pureE tOk zOk rfl (last_ok hp (by omega)) (row_last [] hp (by omega)) rfl ?_
    refine S.pure tOk zOk rfl rfl rfl ?_
    refine S.call rfl rfl rfl rfl rfl (pc_CutPrefix ((Lib.split ((Lib.split s [44, 32]).getD i []) [32]).getD ((Lib.split ((Lib.split s [44, 32]).getD i []) [32]).length - 1) []) [60]) ?_
    refine S.pure tOk zOk rfl rfl rfl ?_
    refine S.pure tOk zOk rfl rfl rfl ?_
    refine S.pure tOk zOk rfl rfl rfl ?_
    refine S.pure tOk zOk rfl rfl rfl ?_
    refine S.pure tOk zOk rfl rfl rfl ?_
    refine thenK_n ?_
    refine W.seq ?_
    refine W.region ?_
    refine S.alloc tOk rfl rfl rfl rfl ?_
    refine thenK_n ?_
    refine W.seq ?_
    refine W.region ?_
    refine S.pure tOk zOk rfl rfl rfl ?_
    refine thenK_n ?_
    refine W.seq ?_
    refine W.block ?_
    refine W.seq ?_
    refine W.region ?_
    refine S.pure tOk zOk rfl rfl rfl ?_
    refine S.pure tOk zOk rfl rfl rfl ?_
    refine S.pure tOk zOk rfl rfl rfl ?_
    refine S.pure tOk zOk rfl rfl rfl ?_
    refine S.pureG tOk zOk rfl rfl tg (fun _ => rfl) rfl ?_
    refine S.pickAnd tOk zOk rfl rfl tg ?_
    refine S.pure tOk zOk rfl rfl rfl ?_
    refine thenK_n ?_
    refine W.cond rfl (fun c4 => ?_) (fun c4 => ?_)
    ·skip
     have htok := tok_1 (t := ((Lib.split s [44, 32]).getD i [])) (by have h := c4; rw [List.length_map] at h; exact h)
     refine W.seq ?_
     refine W.region ?_
     refine S.pure tOk zOk rfl rfl rfl ?_
     refine S.store tOk rfl rfl rfl rfl rfl rfl rfl rfl ?_
     refine thenK_n ?_
     refine W.region ?_
     refine S.pure tOk zOk rfl rfl rfl ?_
     refine S.call rfl rfl rfl rfl rfl (pc_outref2_ReadVersion (Lib.trimPrefix ((Lib.split ((Lib.split s [44, 32]).getD i []) [32]).getD 0 []) [62, 61]) (by omega)) ?_
     refine S.pure tOk zOk rfl rfl rfl ?_
     refine S.pure tOk zOk rfl rfl rfl ?_
     refine S.pure tOk zOk rfl rfl rfl ?_
     refine S.pure tOk zOk rfl rfl rfl ?_
     refine S.store tOk rfl rfl rfl rfl rfl rfl rfl rfl ?_
     refine S.pure tOk zOk rfl rfl rfl ?_
     refine blockK_n ?_
     refine thenK_n ?_
     refine W.seq ?_
     refine W.seq ?_
     refine W.region ?_
     refine S.pure tOk zOk rfl rfl rfl ?_
     refine S.pure tOk zOk rfl rfl rfl ?_
     refine thenK_n ?_
     refine W.cond rfl (fun c5 => ?_) (fun c5 => ?_)
     ·skip
      refine W.seq ?_
      refine W.region ?_
      refine S.pure tOk zOk rfl rfl rfl ?_
      refine S.pure tOk zOk rfl rfl rfl ?_
      refine S.store tOk rfl rfl rfl rfl rfl rfl rfl rfl ?_
      refine S.pure tOk zOk rfl rfl rfl ?_
      refine thenK_n ?_
      refine W.ret ?_
      refine thenK_r ?_
      refine blockK_r ?_
      refine thenK_r ?_
      refine thenK_r ?_
      refine blockK_r ?_
      refine thenK_r ?_
      exact ⟨_, rfl, rfl, le_rgNil ((rR_bad c1 c2 hi (by rw [tokE, htok]; exact (eq_of_beq c5))).trans (congrArg (Prod.mk []) (eq_of_beq c5).symm))⟩
     ·skip
      have hx : (⟨true, false, (parseB (Lib.trimPrefix ((Lib.split ((Lib.split s [44, 32]).getD i []) [32]).getD 0 []) [62, 61])).1, Ver.z⟩ : Sp) = tokS ((Lib.split s [44, 32]).getD i []) := by rw [tokS, htok]
      refine W.skip ?_
      refine thenK_n ?_
      refine W.seq ?_
      refine W.region ?_
      refine S.pure tOk zOk rfl rfl rfl ?_
      refine S.pure tOk zOk rfl rfl rfl ?_
      refine S.slice tOk rfl rfl ?_
      refine S.call rfl rfl rfl rfl rfl (pc_first2 (firstNe (((Lib.split s [44, 32]).take i).map tokE)) (parseB (Lib.trimPrefix ((Lib.split ((Lib.split s [44, 32]).getD i []) [32]).getD 0 []) [62, 61])).2) ?_
      refine S.pure tOk zOk rfl rfl rfl ?_
      refine thenK_n ?_
      refine W.region ?_
      refine S.pure tOk zOk rfl rfl rfl ?_
      refine S.pure tOk zOk rfl rfl rfl ?_
      refine S.pure tOk zOk rfl rfl rfl ?_
      refine S.slice tOk rfl rfl ?_
      refine S.append tOk rfl rfl rfl rfl rfl rfl rfl rfl rfl rfl rfl rfl (by show _ + 1 ≤ _; simp; omega) rfl (take_snoc3 (d := []) hx hi) rfl ?_
      refine S.pure tOk zOk rfl rfl rfl ?_
      refine S.store tOk rfl rfl rfl rfl rfl rfl rfl rfl ?_
      refine blockK_n ?_
      refine thenK_n ?_
      refine W.region ?_
      refine S.pure tOk zOk rfl rfl rfl ?_
      refine S.pure tOk zOk rfl rfl rfl ?_
      refine loop_n ((Lib.split s [44, 32]).length - (i + 1)) (by omega) ⟨i + 1, _, _, hi, any_take (d := []) hi f0_1 (by rw [tokE, htok]; exact c5), rfl, _, _, _, _, rfl, rfl, rfl, congrArg (fun x => V.one (C.d (D.int .i64 x))) (show firstB (firstNe (((Lib.split s [44, 32]).take i).map tokE)) (parseB (Lib.trimPrefix ((Lib.split ((Lib.split s [44, 32]).getD i []) [32]).getD 0 []) [62, 61])).2 = firstNe (((Lib.split s [44, 32]).take (i + 1)).map tokE) from by rw [← tok_acc hi, tokE, htok]), rfl, rfl, inc_i64 (by omega), trivial⟩
    ·skip
     refine W.seq ?_
     refine W.region ?_
     refine S.pure tOk zOk rfl rfl rfl ?_
     refine S.pure tOk zOk rfl rfl rfl ?_
     refine S.pure tOk zOk rfl rfl rfl ?_
     refine S.pure tOk zOk rfl rfl rfl ?_
     refine S.pureG tOk zOk rfl rfl tg (fun _ => rfl) rfl ?_
     refine S.pickAnd tOk zOk rfl rfl tg ?_
     refine S.pure tOk zOk rfl rfl rfl ?_
     refine thenK_n ?_
     refine W.cond rfl (fun c6 => ?_) (fun c6 => ?_)
     ·skip
      have htok := tok_2 (t := ((Lib.split s [44, 32]).getD i [])) (by have h := c4; rw [List.length_map] at h; exact h) (by have h := c6; rw [List.length_map] at h; exact h)
      refine W.seq ?_
      refine W.region ?_
      refine S.pure tOk zOk rfl rfl rfl ?_
      refine S.store tOk rfl rfl rfl rfl rfl rfl rfl rfl ?_
      refine thenK_n ?_
      refine W.region ?_
      refine S.pure tOk zOk rfl rfl rfl ?_
      refine S.call rfl rfl rfl rfl rfl (pc_outref2_ReadVersion (Lib.trimPrefix ((Lib.split ((Lib.split s [44, 32]).getD i []) [32]).getD ((Lib.split ((Lib.split s [44, 32]).getD i []) [32]).length - 1) []) [60]) (by omega)) ?_
      refine S.pure tOk zOk rfl rfl rfl ?_
      refine S.pure tOk zOk rfl rfl rfl ?_
      refine S.pure tOk zOk rfl rfl rfl ?_
      refine S.pure tOk zOk rfl rfl rfl ?_
      refine S.store tOk rfl rfl rfl rfl rfl rfl rfl rfl ?_
      refine S.pure tOk zOk rfl rfl rfl ?_
      refine blockK_n ?_
      refine thenK_n ?_
      refine W.seq ?_
      refine W.seq ?_
      refine W.region ?_
      refine S.pure tOk zOk rfl rfl rfl ?_
      refine S.pure tOk zOk rfl rfl rfl ?_
      refine thenK_n ?_
      refine W.cond rfl (fun c7 => ?_) (fun c7 => ?_)
      ·skip
       refine W.seq ?_
       refine W.region ?_
       refine S.pure tOk zOk rfl rfl rfl ?_
       refine S.pure tOk zOk rfl rfl rfl ?_
       refine S.store tOk rfl rfl rfl rfl rfl rfl rfl rfl ?_
       refine S.pure tOk zOk rfl rfl rfl ?_
       refine thenK_n ?_
       refine W.ret ?_
       refine thenK_r ?_
       refine blockK_r ?_
       refine thenK_r ?_
       refine thenK_r ?_
       refine blockK_r ?_
       refine thenK_r ?_
       exact ⟨_, rfl, rfl, le_rgNil ((rR_bad c1 c2 hi (by rw [tokE, htok]; exact (eq_of_beq c7))).trans (congrArg (Prod.mk []) (eq_of_beq c7).symm))⟩
      ·skip
       have hx : (⟨false, true, Ver.z, (parseB (Lib.trimPrefix ((Lib.split ((Lib.split s [44, 32]).getD i []) [32]).getD ((Lib.split ((Lib.split s [44, 32]).getD i []) [32]).length - 1) []) [60])).1⟩ : Sp) = tokS ((Lib.split s [44, 32]).getD i []) := by rw [tokS, htok]
       refine W.skip ?_
       refine thenK_n ?_
       refine W.seq ?_
       refine W.region ?_
       refine S.pure tOk zOk rfl rfl rfl ?_
       refine S.pure tOk zOk rfl rfl rfl ?_
       refine S.slice tOk rfl rfl ?_
       refine S.call rfl rfl rfl rfl rfl (pc_first2 (firstNe (((Lib.split s [44, 32]).take i).map tokE)) (parseB (Lib.trimPrefix ((Lib.split ((Lib.split s [44, 32]).getD i []) [32]).getD ((Lib.split ((Lib.split s [44, 32]).getD i []) [32]).length - 1) []) [60])).2) ?_
       refine S.pure tOk zOk rfl rfl rfl ?_
       refine thenK_n ?_
       refine W.region ?_
       refine S.pure tOk zOk rfl rfl rfl ?_
       refine S.pure tOk zOk rfl rfl rfl ?_
       refine S.pure tOk zOk rfl rfl rfl ?_
       refine S.slice tOk rfl rfl ?_
       refine S.append tOk rfl rfl rfl rfl rfl rfl rfl rfl rfl rfl rfl rfl (by show _ + 1 ≤ _; simp; omega) rfl (take_snoc3 (d := []) hx hi) rfl ?_
       refine S.pure tOk zOk rfl rfl rfl ?_
       refine S.store tOk rfl rfl rfl rfl rfl rfl rfl rfl ?_
       refine blockK_n ?_
       refine thenK_n ?_
       refine W.region ?_
       refine S.pure tOk zOk rfl rfl rfl ?_
       refine S.pure tOk zOk rfl rfl rfl ?_
       refine loop_n ((Lib.split s [44, 32]).length - (i + 1)) (by omega) ⟨i + 1, _, _, hi, any_take (d := []) hi f0_1 (by rw [tokE, htok]; exact c7), rfl, _, _, _, _, rfl, rfl, rfl, congrArg (fun x => V.one (C.d (D.int .i64 x))) (show firstB (firstNe (((Lib.split s [44, 32]).take i).map tokE)) (parseB (Lib.trimPrefix ((Lib.split ((Lib.split s [44, 32]).getD i []) [32]).getD ((Lib.split ((Lib.split s [44, 32]).getD i []) [32]).length - 1) []) [60])).2 = firstNe (((Lib.split s [44, 32]).take (i + 1)).map tokE) from by rw [← tok_acc hi, tokE, htok]), rfl, rfl, inc_i64 (by omega), trivial⟩
     ·skip
      refine W.seq ?_
      refine W.region ?_
      refine S.pure tOk zOk rfl rfl rfl ?_
      refine S.pure tOk zOk rfl rfl rfl ?_
      refine S.pure tOk zOk rfl rfl rfl ?_
      refine S.pure tOk zOk rfl rfl rfl ?_
      refine thenK_n ?_
      refine W.cond rfl (fun c8 => ?_) (fun c8 => ?_)
      ·skip
       have htok := tok_3 (t := ((Lib.split s [44, 32]).getD i [])) (by have h := c4; rw [List.length_map] at h; exact h) (by have h := c6; rw [List.length_map] at h; exact h) (by have h := c8; rw [List.length_map] at h; exact h)
       refine W.region ?_
       refine S.pure tOk zOk rfl rfl rfl ?_
       refine S.pureE tOk zOk rfl (row_ok (i := 0) hp) (row_at (i := 0) [] hp) rfl ?_
       refine S.pure tOk zOk rfl rfl rfl ?_
       refine S.call rfl rfl rfl rfl rfl (pc_outref2_shortSpan ((Lib.split ((Lib.split s [44, 32]).getD i []) [32]).getD 0 []) (by omega)) ?_
       refine S.pure tOk zOk rfl rfl rfl ?_
       refine S.pure tOk zOk rfl rfl rfl ?_
       refine S.pure tOk zOk rfl rfl rfl ?_
       refine S.store tOk rfl rfl rfl rfl rfl rfl rfl rfl ?_
       refine S.pure tOk zOk rfl rfl rfl ?_
       refine blockK_n ?_
       refine thenK_n ?_
       refine W.seq ?_
       refine W.seq ?_
       refine W.region ?_
       refine S.pure tOk zOk rfl rfl rfl ?_
       refine S.pure tOk zOk rfl rfl rfl ?_
       refine thenK_n ?_
       refine W.cond rfl (fun c9 => ?_) (fun c9 => ?_)
       ·skip
        refine W.seq ?_
        refine W.region ?_
        refine S.pure tOk zOk rfl rfl rfl ?_
        refine S.pure tOk zOk rfl rfl rfl ?_
        refine S.store tOk rfl rfl rfl rfl rfl rfl rfl rfl ?_
        refine S.pure tOk zOk rfl rfl rfl ?_
        refine thenK_n ?_
        refine W.ret ?_
        refine thenK_r ?_
        refine blockK_r ?_
        refine thenK_r ?_
        refine thenK_r ?_
        refine blockK_r ?_
        refine thenK_r ?_
        exact ⟨_, rfl, rfl, le_rgNil ((rR_bad c1 c2 hi (by rw [tokE, htok]; exact (eq_of_beq c9))).trans (congrArg (Prod.mk []) (eq_of_beq c9).symm))⟩
       ·skip
        have hx : ((shortB ((Lib.split ((Lib.split s [44, 32]).getD i []) [32]).getD 0 [])).1 : Sp) = tokS ((Lib.split s [44, 32]).getD i []) := by rw [tokS, htok]
        refine W.skip ?_
        refine thenK_n ?_
        refine W.seq ?_
        refine W.region ?_
        refine S.pure tOk zOk rfl rfl rfl ?_
        refine S.pure tOk zOk rfl rfl rfl ?_
        refine S.slice tOk rfl rfl ?_
        refine S.call rfl rfl rfl rfl rfl (pc_first2 (firstNe (((Lib.split s [44, 32]).take i).map tokE)) (shortB ((Lib.split ((Lib.split s [44, 32]).getD i []) [32]).getD 0 [])).2) ?_
        refine S.pure tOk zOk rfl rfl rfl ?_
        refine thenK_n ?_
        refine W.region ?_
        refine S.pure tOk zOk rfl rfl rfl ?_
        refine S.pure tOk zOk rfl rfl rfl ?_
        refine S.pure tOk zOk rfl rfl rfl ?_
        refine S.slice tOk rfl rfl ?_
        refine S.append tOk rfl rfl rfl rfl rfl rfl rfl rfl rfl rfl rfl rfl (by show _ + 1 ≤ _; simp; omega) rfl (take_snoc3 (d := []) hx hi) rfl ?_
        refine S.pure tOk zOk rfl rfl rfl ?_
        refine S.store tOk rfl rfl rfl rfl rfl rfl rfl rfl ?_
        refine blockK_n ?_
        refine thenK_n ?_
        refine W.region ?_
        refine S.pure tOk zOk rfl rfl rfl ?_
        refine S.pure tOk zOk rfl rfl rfl ?_
        refine loop_n ((Lib.split s [44, 32]).length - (i + 1)) (by omega) ⟨i + 1, _, _, hi, any_take (d := []) hi f0_1 (by rw [tokE, htok]; exact c9), rfl, _, _, _, _, rfl, rfl, rfl, congrArg (fun x => V.one (C.d (D.int .i64 x))) (show firstB (firstNe (((Lib.split s [44, 32]).take i).map tokE)) (shortB ((Lib.split ((Lib.split s [44, 32]).getD i []) [32]).getD 0 [])).2 = firstNe (((Lib.split s [44, 32]).take (i + 1)).map tokE) from by rw [← tok_acc hi, tokE, htok]), rfl, rfl, inc_i64 (by omega), trivial⟩
      ·skip
       refine W.seq ?_
       refine W.region ?_
       refine S.pure tOk zOk rfl rfl rfl ?_
       refine S.pure tOk zOk rfl rfl rfl ?_
       refine S.pure tOk zOk rfl rfl rfl ?_
       refine S.pure tOk zOk rfl rfl rfl ?_
       refine S.pureG tOk zOk rfl rfl tg (fun _ => rfl) rfl ?_
       refine S.pickAnd tOk zOk rfl rfl tg ?_
       refine S.pure tOk zOk rfl rfl rfl ?_
       refine S.pureG tOk zOk rfl rfl tg (fun _ => rfl) rfl ?_
       refine S.pickAnd tOk zOk rfl rfl tg ?_
       refine S.pure tOk zOk rfl rfl rfl ?_
       refine thenK_n ?_
       refine W.cond rfl (fun c10 => ?_) (fun c10 => ?_)
       ·skip
        have htok := tok_4 (t := ((Lib.split s [44, 32]).getD i [])) (by have h := c4; rw [List.length_map] at h; exact h) (by have h := c6; rw [List.length_map] at h; exact h) (by have h := c8; rw [List.length_map] at h; exact h) (by have h := c10; rw [List.length_map] at h; exact h)
        refine W.seq ?_
        refine W.region ?_
        refine S.pure tOk zOk rfl rfl rfl ?_
        refine S.store tOk rfl rfl rfl rfl rfl rfl rfl rfl ?_
        refine S.pure tOk zOk rfl rfl rfl ?_
        refine S.store tOk rfl rfl rfl rfl rfl rfl rfl rfl ?_
        refine thenK_n ?_
        refine W.seq ?_
        refine W.region ?_
        refine S.pure tOk zOk rfl rfl rfl ?_
        refine thenK_n ?_
        refine W.seq ?_
        refine W.region ?_
        refine S.pure tOk zOk rfl rfl rfl ?_
        refine S.call rfl rfl rfl rfl rfl (pc_outref2_ReadVersion (Lib.trimPrefix ((Lib.split ((Lib.split s [44, 32]).getD i []) [32]).getD 0 []) [62, 61]) (by omega)) ?_
        refine S.pure tOk zOk rfl rfl rfl ?_
        refine S.pure tOk zOk rfl rfl rfl ?_
        refine S.pure tOk zOk rfl rfl rfl ?_
        refine S.pure tOk zOk rfl rfl rfl ?_
        refine S.store tOk rfl rfl rfl rfl rfl rfl rfl rfl ?_
        refine S.pure tOk zOk rfl rfl rfl ?_
        refine thenK_n ?_
        refine W.seq ?_
        refine W.region ?_
        refine S.pure tOk zOk rfl rfl rfl ?_
        refine S.call rfl rfl rfl rfl rfl (pc_outref2_ReadVersion (Lib.trimPrefix ((Lib.split ((Lib.split s [44, 32]).getD i []) [32]).getD ((Lib.split ((Lib.split s [44, 32]).getD i []) [32]).length - 1) []) [60]) (by omega)) ?_
        refine S.pure tOk zOk rfl rfl rfl ?_
        refine S.pure tOk zOk rfl rfl rfl ?_
        refine S.pure tOk zOk rfl rfl rfl ?_
        refine S.pure tOk zOk rfl rfl rfl ?_
        refine S.store tOk rfl rfl rfl rfl rfl rfl rfl rfl ?_
        refine S.pure tOk zOk rfl rfl rfl ?_
        refine thenK_n ?_
        refine W.seq ?_
        refine W.region ?_
        refine S.pure tOk zOk rfl rfl rfl ?_
        refine S.pure tOk zOk rfl rfl rfl ?_
        refine S.pure tOk zOk rfl rfl rfl ?_
        refine S.pureG tOk zOk rfl rfl tg (fun _ => rfl) rfl ?_
        refine S.pureG tOk zOk rfl rfl tg (fun _ => rfl) rfl ?_
        refine S.pickOr tOk zOk rfl rfl tg ?_
        refine thenK_n ?_
        refine W.cond rfl (fun c11 => ?_) (fun c11 => ?_)
        ·skip
         refine W.region ?_
         refine S.pure tOk zOk rfl rfl rfl ?_
         refine blockK_n ?_
         refine thenK_n ?_
         refine W.seq ?_
         refine W.seq ?_
         refine W.region ?_
         refine S.pure tOk zOk rfl rfl rfl ?_
         refine S.pure tOk zOk rfl rfl rfl ?_
         refine thenK_n ?_
         refine W.condT rfl rfl ?_
         refine W.seq ?_
         refine W.region ?_
         refine S.pure tOk zOk rfl rfl rfl ?_
         refine S.pure tOk zOk rfl rfl rfl ?_
         refine S.store tOk rfl rfl rfl rfl rfl rfl rfl rfl ?_
         refine S.pure tOk zOk rfl rfl rfl ?_
         refine thenK_n ?_
         refine W.ret ?_
         refine thenK_r ?_
         refine blockK_r ?_
         refine thenK_r ?_
         refine thenK_r ?_
         refine blockK_r ?_
         refine thenK_r ?_
         exact ⟨_, rfl, rfl, le_rgNil (rR_bad c1 c2 hi (by rw [tokE, htok]; exact if_pos c11))⟩
        ·skip
         refine W.region ?_
         refine S.pure tOk zOk rfl rfl rfl ?_
         refine S.pure tOk zOk rfl rfl rfl ?_
         refine S.slice tOk rfl rfl ?_
         refine S.call rfl rfl rfl rfl rfl (pc_first2 (parseB (Lib.trimPrefix ((Lib.split ((Lib.split s [44, 32]).getD i []) [32]).getD 0 []) [62, 61])).2 (parseB (Lib.trimPrefix ((Lib.split ((Lib.split s [44, 32]).getD i []) [32]).getD ((Lib.split ((Lib.split s [44, 32]).getD i []) [32]).length - 1) []) [60])).2) ?_
         refine S.pure tOk zOk rfl rfl rfl ?_
         refine blockK_n ?_
         refine thenK_n ?_
         refine W.seq ?_
         refine W.seq ?_
         refine W.region ?_
         refine S.pure tOk zOk rfl rfl rfl ?_
         refine S.pure tOk zOk rfl rfl rfl ?_
         refine thenK_n ?_
         refine W.cond rfl (fun c13 => ?_) (fun c13 => ?_)
         ·skip
          refine W.seq ?_
          refine W.region ?_
          refine S.pure tOk zOk rfl rfl rfl ?_
          refine S.pure tOk zOk rfl rfl rfl ?_
          refine S.store tOk rfl rfl rfl rfl rfl rfl rfl rfl ?_
          refine S.pure tOk zOk rfl rfl rfl ?_
          refine thenK_n ?_
          refine W.ret ?_
          refine thenK_r ?_
          refine blockK_r ?_
          refine thenK_r ?_
          refine thenK_r ?_
          refine blockK_r ?_
          refine thenK_r ?_
          exact ⟨_, rfl, rfl, le_rgNil ((rR_bad c1 c2 hi (by rw [tokE, htok]; exact (if_neg (Bool.eq_false_iff.1 c11)).trans (eq_of_beq c13))).trans (congrArg (Prod.mk []) (eq_of_beq c13).symm))⟩
         ·skip
          have hx : (⟨true, true, (parseB (Lib.trimPrefix ((Lib.split ((Lib.split s [44, 32]).getD i []) [32]).getD 0 []) [62, 61])).1, (parseB (Lib.trimPrefix ((Lib.split ((Lib.split s [44, 32]).getD i []) [32]).getD ((Lib.split ((Lib.split s [44, 32]).getD i []) [32]).length - 1) []) [60])).1⟩ : Sp) = tokS ((Lib.split s [44, 32]).getD i []) := by rw [tokS, htok]
          refine W.skip ?_
          refine thenK_n ?_
          refine W.seq ?_
          refine W.region ?_
          refine S.pure tOk zOk rfl rfl rfl ?_
          refine S.pure tOk zOk rfl rfl rfl ?_
          refine S.slice tOk rfl rfl ?_
          refine S.call rfl rfl rfl rfl rfl (pc_first2 (firstNe (((Lib.split s [44, 32]).take i).map tokE)) (firstB (parseB (Lib.trimPrefix ((Lib.split ((Lib.split s [44, 32]).getD i []) [32]).getD 0 []) [62, 61])).2 (parseB (Lib.trimPrefix ((Lib.split ((Lib.split s [44, 32]).getD i []) [32]).getD ((Lib.split ((Lib.split s [44, 32]).getD i []) [32]).length - 1) []) [60])).2)) ?_
          refine S.pure tOk zOk rfl rfl rfl ?_
          refine thenK_n ?_
          refine W.region ?_
          refine S.pure tOk zOk rfl rfl rfl ?_
          refine S.pure tOk zOk rfl rfl rfl ?_
          refine S.pure tOk zOk rfl rfl rfl ?_
          refine S.slice tOk rfl rfl ?_
          refine S.append tOk rfl rfl rfl rfl rfl rfl rfl rfl rfl rfl rfl rfl (by show _ + 1 ≤ _; simp; omega) rfl (take_snoc3 (d := []) hx hi) rfl ?_
          refine S.pure tOk zOk rfl rfl rfl ?_
          refine S.store tOk rfl rfl rfl rfl rfl rfl rfl rfl ?_
          refine blockK_n ?_
          refine thenK_n ?_
          refine W.region ?_
          refine S.pure tOk zOk rfl rfl rfl ?_
          refine S.pure tOk zOk rfl rfl rfl ?_
          refine loop_n ((Lib.split s [44, 32]).length - (i + 1)) (by omega) ⟨i + 1, _, _, hi, any_take (d := []) hi f0_1 (by rw [tokE, htok]; simp only; rw [if_neg (Bool.eq_false_iff.1 c11)]; exact c13), rfl, _, _, _, _, rfl, rfl, rfl, congrArg (fun x => V.one (C.d (D.int .i64 x))) (show firstB (firstNe (((Lib.split s [44, 32]).take i).map tokE)) (firstB (parseB (Lib.trimPrefix ((Lib.split ((Lib.split s [44, 32]).getD i []) [32]).getD 0 []) [62, 61])).2 (parseB (Lib.trimPrefix ((Lib.split ((Lib.split s [44, 32]).getD i []) [32]).getD ((Lib.split ((Lib.split s [44, 32]).getD i []) [32]).length - 1) []) [60])).2) = firstNe (((Lib.split s [44, 32]).take (i + 1)).map tokE) from by rw [← tok_acc hi, tokE, htok]; simp only; rw [if_neg (Bool.eq_false_iff.1 c11)]), rfl, rfl, inc_i64 (by omega), trivial⟩
       ·skip
        have htok := tok_5 (t := ((Lib.split s [44, 32]).getD i [])) (by have h := c4; rw [List.length_map] at h; exact h) (by have h := c6; rw [List.length_map] at h; exact h) (by have h := c8; rw [List.length_map] at h; exact h) (by have h := c10; rw [List.length_map] at h; exact h)
        refine W.region ?_
        refine S.pure tOk zOk rfl rfl rfl ?_
        refine blockK_n ?_
        refine thenK_n ?_
        refine W.seq ?_
        refine W.seq ?_
        refine W.region ?_
        refine S.pure tOk zOk rfl rfl rfl ?_
        refine S.pure tOk zOk rfl rfl rfl ?_
        refine thenK_n ?_
        refine W.condT rfl rfl ?_
        refine W.seq ?_
        refine W.region ?_
        refine S.pure tOk zOk rfl rfl rfl ?_
        refine S.pure tOk zOk rfl rfl rfl ?_
        refine S.store tOk rfl rfl rfl rfl rfl rfl rfl rfl ?_
        refine S.pure tOk zOk rfl rfl rfl ?_
        refine thenK_n ?_
        refine W.ret ?_
        refine thenK_r ?_
        refine blockK_r ?_
        refine thenK_r ?_
        refine thenK_r ?_
        refine blockK_r ?_
        refine thenK_r ?_
        exact ⟨_, rfl, rfl, le_rgNil (rR_bad c1 c2 hi (by rw [tokE, htok]))⟩
   ·skip
    have hi := row_ge c3
    refine W.exit ?_
    refine thenK_e ?_
    refine thenK_e ?_
    refine blockK_x ?_
    refine thenK_n ?_
    refine W.seq ?_
    refine W.seq ?_
    refine W.freezeB (ri := 0) (q := ⟨_, _, _, _, _⟩) 1 0 rfl rfl rfl rfl ?_
    have hall := any_end hi f0_1
    have hts2 : (Lib.split s [44, 32]).take i = (Lib.split s [44, 32]) := List.take_of_length_le hi
    rw [hts2]
    have hsp : ∀ u ∈ (Lib.split s [44, 32]).map tokS, SpLen u := fun u hu => by
     obtain ⟨x, hx, rfl⟩ := List.mem_map.1 hu
     have h1 := tok_e x
     have h2 : x.length ≤ s.length := split_mem hx
     unfold SpLen; omega
    refine W.region ?_
    refine S.pure tOk zOk rfl rfl rfl ?_
    refine S.pure tOk zOk rfl rfl rfl ?_
    refine S.call rfl rfl rfl rfl rfl (pc_outref2_RangeError ((Lib.split s [44, 32]).map tokS) (by have := c1; simp at this ⊢; omega) hsp) ?_
    refine S.slice tOk rfl rfl ?_
    refine S.call rfl rfl rfl rfl rfl (pc_first2 (firstNe ((Lib.split s [44, 32]).map tokE)) (rangeE ((Lib.split s [44, 32]).map tokS))) ?_
    refine S.pure tOk zOk rfl rfl rfl ?_
    refine thenK_n ?_
    refine W.seq ?_
    refine W.region ?_
    refine S.pure tOk zOk rfl rfl rfl ?_
    refine S.pure tOk zOk rfl rfl rfl ?_
    refine thenK_n ?_
    refine W.cond rfl (fun c15 => ?_) (fun c15 => ?_)
    ·skip
     refine W.seq ?_
     refine W.region ?_
     refine S.pure tOk zOk rfl rfl rfl ?_
     refine S.pure tOk zOk rfl rfl rfl ?_
     refine S.store tOk rfl rfl rfl rfl rfl rfl rfl rfl ?_
     refine S.pure tOk zOk rfl rfl rfl ?_
     refine thenK_n ?_
     refine W.ret ?_
     refine thenK_r ?_
     exact ⟨_, rfl, rfl, le_rgNil (rR_err c1 c2 hall c15)⟩
    ·skip
     refine W.skip ?_
     refine thenK_n ?_
     refine W.seq ?_
     refine W.region ?_
     refine S.pure tOk zOk rfl rfl rfl ?_
     refine S.store tOk rfl rfl rfl rfl rfl rfl rfl rfl ?_
     refine S.pure tOk zOk rfl rfl rfl ?_
     refine thenK_n ?_
     refine W.ret ?_
     exact ⟨_, rfl, rfl, le_rg (rR_ok c1 c2 hall c15)⟩
end Go.Proofs.YtlkhdembbogcaaaGreatDoor

/- bits.TrailingZeros' laying at this seat. -/
namespace Go.Proofs
open Go.Shelf
def Tryz.lays27t_ren : Go.Shelf.Ren := ⟨fun | 27 => 234 | 28 => 245 | 29 => 246 | n => n, fun | 25 => 90 | 3 => 3 | 27 => 229 | 22 => 106 | 4 => 4 | 53 => 269 | 0 => 0 | 5 => 5 | 54 => 270 | n => n, fun | 0 => 6 | 1 => 7 | n => n⟩
theorem Tryz.lays27t : Go.Proofs.Lays7.n27 Tryz.prog Tryz.lays27t_ren := {
  mixed := by kernel_rfl
  f27 := Tryz.func234.trans (congrArg some (by kernel_rfl))
  f28 := Tryz.func245.trans (congrArg some (by kernel_rfl))
  f29 := Tryz.func246.trans (congrArg some (by kernel_rfl))
  t0 := Tryz.underlying0
  a0 := Tryz.isAgg0
  z0 := Tryz.sizeOf0
  v0 := Tryz.zeroValue0
  i0 := by kernel_rfl
  t3 := Tryz.underlying3
  a3 := Tryz.isAgg3
  z3 := Tryz.sizeOf3
  v3 := Tryz.zeroValue3
  i3 := by kernel_rfl
  t4 := Tryz.underlying4
  a4 := Tryz.isAgg4
  z4 := Tryz.sizeOf4
  v4 := Tryz.zeroValue4
  i4 := by kernel_rfl
  t5 := Tryz.underlying5
  a5 := Tryz.isAgg5
  z5 := Tryz.sizeOf5
  v5 := Tryz.zeroValue5
  i5 := by kernel_rfl
  t22 := Tryz.underlying106
  a22 := Tryz.isAgg106
  z22 := Tryz.sizeOf106
  v22 := Tryz.zeroValue106
  i22 := by kernel_rfl
  t25 := Tryz.underlying90
  a25 := Tryz.isAgg90
  z25 := Tryz.sizeOf90
  v25 := Tryz.zeroValue90
  i25 := by kernel_rfl
  t27 := Tryz.underlying229
  a27 := Tryz.isAgg229
  z27 := Tryz.sizeOf229
  v27 := Tryz.zeroValue229
  i27 := by kernel_rfl
  t53 := Tryz.underlying269
  a53 := Tryz.isAgg269
  z53 := Tryz.sizeOf269
  v53 := Tryz.zeroValue269
  i53 := by kernel_rfl
  t54 := Tryz.underlying270
  a54 := Tryz.isAgg270
  z54 := Tryz.sizeOf270
  g0 := by kernel_rfl
  g1 := by kernel_rfl }
end Go.Proofs

/- More of the library as pure calls: strings.Repeat, bits.TrailingZeros. -/
set_option linter.unusedVariables false
namespace Go.Proofs.YtlkhdembbogcaaaGreatDoor
open Go Go.RowKit Go.Sort
theorem pc_Repeat (s : List UInt8) (c : Nat) (hc : c ≤ 9223372036854775807) (hlen : s.length * c ≤ 140737488355328) : PureCall Tryz.prog J 110 [.one (.d (.str s)), .one (.d (.int .i64 (c : Int)))] (.one (.d (.str (Lib.repeatL s c)))) :=
  PureCall.lib Tryz.func110 (by kernel_rfl) (by kernel_rfl) (xs := [.string ⟨s.toArray⟩, .int .i64 (c : Int)]) rfl fun w _ =>
    Calls.mono (Tryz.strings_Repeat ⟨s.toArray⟩ c w hc (by simpa [ByteArray.size] using hlen)) fun e w' ⟨he, hw⟩ => ⟨_, he, hw, RV.of_lit (by simp [D.lit])⟩
theorem pc_TZ16 : PureCall Tryz.prog J 234 [.one (.d (.int .u64 16))] (.one (.d (.int .i64 4))) :=
  PureCall.lib Tryz.func234 (by kernel_rfl) (by kernel_rfl) (xs := [.int .u64 16]) rfl fun w hw =>
    Calls.mono (Any7.bits_TrailingZeros Tryz.lays27t 16 (by decide) w (fun _ j hj => by
      have h := hw.db
      simp only [Lib.TabIs, World.var?, show Tryz.prog.globalNamed "math/bits.deBruijn64tab" = some 7 by kernel_rfl, Option.bind_some] at h
      show w.cell? ⟨7, j, none⟩ = _
      split at h
      · rename_i cs _ _ hb
        have hcs := Option.some.inj h
        subst hcs
        simp only [World.cell?, hb]
        simp [List.getD_eq_getElem?_getD, hj]
      · cases h)) fun e w' ⟨he, hw⟩ => ⟨_, he, hw ▸ Below.refl _ _, RV.of_lit (by simp [D.lit]; decide)⟩
end Go.Proofs.YtlkhdembbogcaaaGreatDoor

/- Plain words: what the program reads as a range, the reference reads. -/
set_option linter.unusedVariables false
set_option linter.unusedSimpArgs false
namespace Go.Proofs.YtlkhdembbogcaaaGreatDoor
open Go
theorem first_of {c : UInt8} {s : List UInt8} (h : c ∈ s) : ∃ x y, s = x ++ c :: y ∧ c ∉ x := by
  induction s with
  | nil => cases h
  | cons a s ih =>
    by_cases ha : a = c
    · subst ha; exact ⟨[], s, rfl, by simp⟩
    · have h' : c ∈ s := by rcases List.mem_cons.1 h with h | h; exact absurd h.symm ha; exact h
      obtain ⟨x, y, rfl, hx⟩ := ih h'
      exact ⟨a :: x, y, rfl, by simp [hx, Ne.symm ha]⟩
theorem contains_iff {c : UInt8} {s : List UInt8} : Lib.contains s [c] = decide (c ∈ s) := by
  unfold Lib.contains
  by_cases h : c ∈ s
  · obtain ⟨x, y, rfl, hx⟩ := first_of h
    rw [index_at hx]; simp
  · rw [index_none h]; simp [h]
theorem rowB_iff {s : List UInt8} : rowB s = decide ((32 : UInt8) ∉ s) := by rw [rowB, contains_iff]; simp
theorem parse_check {s : List UInt8} {v : Ver} (h : parseB s = (v, 0)) : v.check = 0 := by
  unfold parseB parseW at h
  split at h
  · simp at h
  · split at h
    · unfold threeB at h
      split at h
      · simp at h
      · split at h
        · simp at h
        · split at h
          · simp at h
          · split at h
            · rename_i hc
              simp only [Prod.mk.injEq] at h
              rw [h.2] at hc
              simp at hc
            · rename_i hc
              simp only [Prod.mk.injEq, and_true] at h
              rw [← h]
              simpa [Ver.check] using hc
    · simp at h
theorem check_codes (a b c : Int) (e : List UInt8) : checkB a b c e = 0 ∨ checkB a b c e = 2 ∨ checkB a b c e = 3 := by
  unfold checkB
  split
  · simp
  · split <;> simp
theorem nextOk_codes (x y z : Int) : (nextOk x y z).2 ≠ 8 := by
  unfold nextOk
  split <;> simp
theorem next_codes (v : Ver) (p : Int) : (nextB v p).2 ≠ 8 := by
  unfold nextB
  split
  · have := check_codes v.a v.b v.c v.e
    simp only [Ver.check]; omega
  · split
    · exact nextOk_codes _ _ _
    · split
      · exact nextOk_codes _ _ _
      · split
        · exact nextOk_codes _ _ _
        · split
          · simp
          · exact nextOk_codes _ _ _
theorem behind_codes (v : Ver) (g : Int) : (behindB v g).2 ≠ 8 := by
  unfold behindB
  split
  · have := check_codes v.a v.b v.c (v.e ++ [46, 48])
    simp only; omega
  · split
    · exact next_codes _ _
    · split <;> exact next_codes _ _
theorem check_a {v : Ver} (h : v.check = 0) : 0 ≤ v.a := by
  unfold Ver.check checkB at h
  split at h
  · cases h
  · rename_i h1
    simp [outsideN, outsideB] at h1
    omega
theorem behind_eq {v : Ver} (h : v.check = 0) (g : Int) : behindR' v g = behindB v g := by
  have ha := check_a h
  have e : decide (v.a > 0) = !(v.a == 0) := by
    by_cases h0 : v.a = 0
    · simp [h0]
    · have : v.a > 0 := by omega
      simp [h0, this]
  simp only [behindR', behindB, e]
theorem shortV_eq (k : Int) (w : List UInt8) (h42 : k ≠ 42) (h62 : k ≠ 62) (h60 : k ≠ 60) (h98 : k ≠ 98) : (shortV k w).2 = (spanB ⟨k, w, []⟩).2 ∧ ((shortV k w).2 = 0 → (shortV k w).1 = (spanB ⟨k, w, []⟩).1) ∧ ((shortV k w).2 = 8 ↔ (parseB w).2 = 8) := by
  rw [shortV_def]
  unfold spanB
  simp only [beq_iff_eq, h42, h62, h60, h98, if_false]
  by_cases hp : (parseB w).2 = 0
  · have hc := parse_check (s := w) (v := (parseB w).1) (by rw [← hp])
    simp only [hp, bne_self_eq_false, Bool.false_eq_true, if_false, behind_eq hc]
    refine ⟨?_, ?_, ?_⟩ <;> simp [behind_codes]
  · simp [hp]
theorem idx3 {c : UInt8} (h : Lib.indexByte [61, 94, 126] c ≥ 0) : c = 61 ∨ c = 94 ∨ c = 126 := by
  simp only [Lib.indexByte] at h
  by_cases h1 : (61 : UInt8) = c
  · exact .inl h1.symm
  · by_cases h2 : (94 : UInt8) = c
    · exact .inr (.inl h2.symm)
    · by_cases h3 : (126 : UInt8) = c
      · exact .inr (.inr h3.symm)
      · simp [h1, h2, h3] at h
theorem idx4 {c : UInt8} (h : c ≠ 60) : decide (Lib.indexByte [60, 61, 94, 126] c ≥ 0) = decide (Lib.indexByte [61, 94, 126] c ≥ 0) := by
  simp only [Lib.indexByte]
  by_cases h1 : (61 : UInt8) = c
  · subst h1; decide
  · by_cases h2 : (94 : UInt8) = c
    · subst h2; decide
    · by_cases h3 : (126 : UInt8) = c
      · subst h3; decide
      · simp [h1, h2, h3, Ne.symm h]
theorem byte_back (c : UInt8) : (bI c).toNat.toUInt8 = c := by simp [bI]
theorem pre2 {x : List UInt8} (h : Lib.hasPrefix x [62, 61] = true) : ∃ r, x = 62 :: 61 :: r := by
  unfold Lib.hasPrefix at h
  match x, h with
  | [], h => simp at h
  | [a], h => simp [List.isPrefixOf] at h
  | a :: b :: r, h =>
    simp [List.isPrefixOf] at h
    exact ⟨r, by rw [h.1, h.2]⟩
theorem pre1 {x : List UInt8} (h : Lib.hasPrefix x [60] = true) : ∃ r, x = 60 :: r := by
  unfold Lib.hasPrefix at h
  match x, h with
  | [], h => simp at h
  | a :: r, h =>
    simp [List.isPrefixOf] at h
    exact ⟨r, by rw [h]⟩
theorem trim2 (r : List UInt8) : Lib.trimPrefix (62 :: 61 :: r) [62, 61] = r := by simp [Lib.trimPrefix, Lib.hasPrefix, List.isPrefixOf]
theorem trim1 (r : List UInt8) : Lib.trimPrefix (60 :: r) [60] = r := by simp [Lib.trimPrefix, Lib.hasPrefix, List.isPrefixOf]
theorem has2 (r : List UInt8) : Lib.hasPrefix (62 :: 61 :: r) [62, 61] = true := by simp [Lib.hasPrefix, List.isPrefixOf]
theorem has1 (r : List UInt8) : Lib.hasPrefix (60 :: r) [60] = true := by simp [Lib.hasPrefix, List.isPrefixOf]
/-- What is told of a token by the program and by the reference. -/
def Same (t : List UInt8) : Prop := badB t = (tokE t == 8) ∧ (badB t = false → (spanB (itemB t).1).2 = tokE t ∧ (tokE t = 0 → (spanB (itemB t).1).1 = tokS t))
theorem same_from {r : List UInt8} (h : (32 : UInt8) ∉ r) : Same (62 :: 61 :: r) := by
  have hw : wordsR (62 :: 61 :: r) = [62 :: 61 :: r] := split_none (by simp [h])
  have hi : itemB (62 :: 61 :: r) = (⟨62, r, []⟩, true) := by
    unfold itemB
    rw [if_neg (by simp), if_pos (has2 r), trim2, cut_none h, if_neg (by simp), rowB_iff]
    simp [h]
  have ht : tokR (62 :: 61 :: r) = (⟨true, false, (parseB r).1, Ver.z⟩, (parseB r).2) := by
    rw [tok_1 (by rw [hw]; simp [has2])]
    rw [hw]; simp [trim2]
  unfold Same badB tokE tokS
  rw [hi, ht]
  refine ⟨by simp [wrongB], fun _ => ?_⟩
  unfold spanB
  by_cases hp : (parseB r).2 = 0 <;> simp [hp]
theorem same_to {r : List UInt8} (h : (32 : UInt8) ∉ r) : Same (60 :: r) := by
  have hw : wordsR (60 :: r) = [60 :: r] := split_none (by simp [h])
  have hi : itemB (60 :: r) = (⟨60, r, []⟩, true) := by
    unfold itemB
    rw [if_neg (by simp), if_neg (by simp [Lib.hasPrefix, List.isPrefixOf]), if_pos (by simp [byte_back]; decide), rowB_iff]
    simp [h, bI]
  have ht : tokR (60 :: r) = (⟨false, true, Ver.z, (parseB r).1⟩, (parseB r).2) := by
    rw [tok_2 (by rw [hw]; simp [Lib.hasPrefix, List.isPrefixOf]) (by rw [hw]; simp [has1])]
    rw [hw]; simp [trim1]
  unfold Same badB tokE tokS
  rw [hi, ht]
  refine ⟨by simp [wrongB], fun _ => ?_⟩
  unfold spanB
  by_cases hp : (parseB r).2 = 0 <;> simp [hp]
theorem same_short {t : List UInt8} (h : (32 : UInt8) ∉ t) (h1 : Lib.hasPrefix t [62, 61] = false) (h2 : Lib.hasPrefix t [60] = false) : Same t := by
  have hw : wordsR t = [t] := split_none h
  have ht : tokR t = shortB t := by
    rw [tok_3 (by rw [hw]; simp [h1]) (by rw [hw]; simp [h2]) (by rw [hw]; simp)]
    rw [hw]; simp
  by_cases hs : t = [42]
  · subst hs
    have hi : itemB [42] = (⟨42, [], []⟩, true) := rfl
    have hq : shortB [42] = (Sp.z, 0) := rfl
    unfold Same badB tokE tokS
    rw [hi, ht, hq]
    exact ⟨by simp, fun _ => ⟨rfl, fun _ => rfl⟩⟩
  · have key : ∀ (k : Int) (w : List UInt8), itemB t = (⟨k, w, []⟩, true) → shortB t = shortV k w → k ≠ 42 → k ≠ 62 → k ≠ 60 → k ≠ 98 → Same t := fun k w hi hq k1 k2 k3 k4 => by
      obtain ⟨q1, q2, q3⟩ := shortV_eq k w k1 k2 k3 k4
      unfold Same badB tokE tokS
      rw [hi, ht, hq]
      refine ⟨?_, fun _ => ⟨q1.symm, fun h0 => (q2 h0).symm⟩⟩
      have e : ((shortV k w).2 == 8) = ((parseB w).2 == 8) := by
        rw [Bool.eq_iff_iff]; simpa using q3
      have b1 : (k == 42) = false := by simpa using k1
      have b4 : (k == 98) = false := by simpa using k4
      simp only [wrongB, e, b1, b4]; simp
    by_cases hc : (!(t == []) && decide (Lib.indexByte [61, 94, 126] (bI (t.getD 0 0)).toNat.toUInt8 ≥ 0)) = true
    · obtain ⟨a, r, rfl⟩ : ∃ a r, t = a :: r := by
        cases t with
        | nil => simp at hc
        | cons a r => exact ⟨a, r, rfl⟩
      have hc' := hc
      simp only [byte_back] at hc'
      simp at hc'
      have h60 : a ≠ 60 := fun e => by subst e; simp [has1] at h2
      refine key (bI a) r ?_ ?_ ?_ ?_ ?_ ?_
      · unfold itemB
        rw [if_neg (by simpa using hs), if_neg (by simp [h1]), if_pos, rowB_iff]
        · simp at h; simp [h]
        · simp only [byte_back]
          have := idx4 h60
          simp at this ⊢
          rw [this]; exact hc'
      · unfold shortB
        rw [if_neg (by simpa using hs), if_pos hc]; simp
      all_goals
        rcases idx3 hc' with rfl | rfl | rfl <;> decide
    · refine key 94 t ?_ ?_ (by decide) (by decide) (by decide) (by decide)
      · unfold itemB
        rw [if_neg (by simpa using hs), if_neg (by simp [h1]), if_neg, rowB_iff]
        · simp [h]
        · intro hx
          apply hc
          cases t with
          | nil => simp at hx
          | cons a r =>
            have h60 : a ≠ 60 := fun e => by subst e; simp [has1] at h2
            have := idx4 h60
            simp only [byte_back] at hx ⊢
            simp at hx this ⊢
            rw [← this]; exact hx
      · unfold shortB
        rw [if_neg (by simpa using hs), if_neg hc]
theorem same_two {x y : List UInt8} (hx : (32 : UInt8) ∉ x) : Same (x ++ 32 :: y) := by
  have hw : wordsR (x ++ 32 :: y) = x :: Lib.split y [32] := split_cons hx
  have hlen : ((wordsR (x ++ 32 :: y)).length : Int) ≠ 1 := by
    rw [hw]; have := split_pos y [32]; simp only [List.length_cons]; omega
  have e1 : ∀ b, ((((wordsR (x ++ 32 :: y)).length : Int) == 1) && b) = false := fun b => by
    rw [show (((wordsR (x ++ 32 :: y)).length : Int) == 1) = false by simpa using hlen]; rfl
  have e0 : (((wordsR (x ++ 32 :: y)).length : Int) == 1) = false := by simpa using hlen
  have f0 : (wordsR (x ++ 32 :: y)).getD 0 [] = x := by rw [hw]; rfl
  have bad8 : ∀ (it : It), itemB (x ++ 32 :: y) = (it, false) → tokR (x ++ 32 :: y) = (Sp.z, 8) → Same (x ++ 32 :: y) := fun it hi ht => by
    unfold Same badB tokE
    rw [hi, ht]; simp
  by_cases hp : Lib.hasPrefix x [62, 61] = true
  · obtain ⟨r, rfl⟩ := pre2 hp
    have hr : (32 : UInt8) ∉ r := by simp at hx; exact hx
    have hcut : Lib.cut (r ++ 32 :: y) [32] = (r, y, true) := cut_at hr
    have hi : itemB (62 :: 61 :: r ++ 32 :: y) = (⟨98, r, Lib.trimPrefix y [60]⟩, (Lib.hasPrefix y [60] && rowB r) && rowB (Lib.trimPrefix y [60])) := by
      show itemB (62 :: 61 :: (r ++ 32 :: y)) = _
      unfold itemB
      rw [if_neg (by simp), if_pos (has2 _), trim2, hcut]
      rfl
    by_cases hy : (32 : UInt8) ∈ y
    · obtain ⟨y1, y2, rfl, hy1⟩ := first_of hy
      have hl3 : ((wordsR (62 :: 61 :: r ++ 32 :: (y1 ++ 32 :: y2))).length : Int) ≠ 2 := by
        rw [hw, split_cons hy1]; have := split_pos y2 [32]; simp only [List.length_cons]; omega
      have ht : tokR (62 :: 61 :: r ++ 32 :: (y1 ++ 32 :: y2)) = (Sp.z, 8) := by
        refine tok_5 (e1 _) (e1 _) e0 ?_
        rw [show (((wordsR (62 :: 61 :: r ++ 32 :: (y1 ++ 32 :: y2))).length : Int) == 2) = false by simpa using hl3]; rfl
      refine bad8 ⟨98, r, Lib.trimPrefix (y1 ++ 32 :: y2) [60]⟩ ?_ ht
      rw [hi]
      congr 1
      by_cases hq : Lib.hasPrefix (y1 ++ 32 :: y2) [60] = true
      · obtain ⟨q, hq'⟩ := pre1 hq
        have : (32 : UInt8) ∈ q := by
          have h3 : (32 : UInt8) ∈ y1 ++ 32 :: y2 := hy
          rw [hq'] at h3; simpa using h3
        rw [hq', trim1, rowB_iff (s := q)]; simp [this]
      · simp [hq]
    · have hws : wordsR (62 :: 61 :: r ++ 32 :: y) = [62 :: 61 :: r, y] := by rw [hw, split_none hy]
      by_cases hq : Lib.hasPrefix y [60] = true
      · obtain ⟨q, rfl⟩ := pre1 hq
        have hq32 : (32 : UInt8) ∉ q := by simp at hy; exact hy
        have ht := tok_4 (t := 62 :: 61 :: r ++ 32 :: (60 :: q)) (e1 _) (e1 _) e0 (by rw [hws]; simp [has2, has1])
        rw [hws] at ht
        simp only [List.getD_cons_zero, List.length_cons, List.length_nil, Nat.zero_add, Nat.add_sub_cancel, List.getD_cons_succ, trim2, trim1] at ht
        rw [trim1, has1] at hi
        have hi' : itemB (62 :: 61 :: r ++ 32 :: (60 :: q)) = (⟨98, r, q⟩, true) := by rw [hi, rowB_iff, rowB_iff]; simp [hr, hq32]
        unfold Same badB tokE tokS
        rw [hi', ht]
        by_cases hF : (parseB r).2 = 8
        · simp [wrongB, hF]
        · by_cases hT : (parseB q).2 = 8
          · simp [wrongB, hF, hT]
          · refine ⟨?_, fun _ => ?_⟩
            · have : firstB (parseB r).2 (parseB q).2 ≠ 8 := by unfold firstB; split <;> assumption
              have f1 : ((parseB r).2 == 8) = false := by simpa using hF
              have f2 : ((parseB q).2 == 8) = false := by simpa using hT
              have f3 : (firstB (parseB r).2 (parseB q).2 == 8) = false := by simpa using this
              simp [wrongB, f1, f2, f3]
            · unfold spanB
              by_cases hF0 : (parseB r).2 = 0
              · simp [hF0, hT, firstB]
              · simp [hF0, hF, hT, firstB]
      · have ht : tokR (62 :: 61 :: r ++ 32 :: y) = (Sp.z, 8) := tok_5 (e1 _) (e1 _) e0 (by rw [hws]; simp [hq])
        exact bad8 ⟨98, r, Lib.trimPrefix y [60]⟩ (by rw [hi]; simp [hq]) ht
  · have hp : Lib.hasPrefix x [62, 61] = false := by simpa using hp
    have ht : tokR (x ++ 32 :: y) = (Sp.z, 8) := tok_5 (e1 _) (e1 _) e0 (by rw [f0, hp]; simp)
    have hpt : Lib.hasPrefix (x ++ 32 :: y) [62, 61] = false := by
      match x, hp with
      | [], _ => simp [Lib.hasPrefix, List.isPrefixOf]
      | [a], _ => simp [Lib.hasPrefix, List.isPrefixOf]
      | a :: b :: x, hp => simpa [Lib.hasPrefix, List.isPrefixOf] using hp
    have hne : (x ++ 32 :: y == [42]) = false := by
      have : x ++ 32 :: y ≠ [42] := fun e => by
        have h3 : (32 : UInt8) ∈ x ++ 32 :: y := by simp
        rw [e] at h3; simp at h3
      simpa using this
    by_cases hc : (!(x ++ 32 :: y == []) && decide (Lib.indexByte [60, 61, 94, 126] (bI ((x ++ 32 :: y).getD 0 0)).toNat.toUInt8 ≥ 0)) = true
    · refine bad8 ⟨bI ((x ++ 32 :: y).getD 0 0), (x ++ 32 :: y).drop 1, []⟩ ?_ ht
      unfold itemB
      rw [if_neg (by simp [hne]), if_neg (by simp [hpt]), if_pos hc]
      congr 1
      match x, hc with
      | [], hc => simp [byte_back, Lib.indexByte] at hc
      | a :: x, _ => rw [rowB_iff]; simp
    · refine bad8 ⟨94, x ++ 32 :: y, []⟩ ?_ ht
      unfold itemB
      rw [if_neg (by simp [hne]), if_neg (by simp [hpt]), if_neg hc, rowB_iff]
      simp
theorem same_all (t : List UInt8) : Same t := by
  by_cases h : (32 : UInt8) ∈ t
  · obtain ⟨x, y, rfl, hx⟩ := first_of h
    exact same_two hx
  · by_cases h1 : Lib.hasPrefix t [62, 61] = true
    · obtain ⟨r, rfl⟩ := pre2 h1
      exact same_from (by simp at h; exact h)
    · by_cases h2 : Lib.hasPrefix t [60] = true
      · obtain ⟨r, rfl⟩ := pre1 h2
        exact same_to (by simp at h; exact h)
      · exact same_short h (by simpa using h1) (by simpa using h2)
theorem firstNe_zero : ∀ {l : List Int}, firstNe l = 0 → ∀ x ∈ l, x = 0
  | [], _, x, hx => by cases hx
  | a :: l, h, x, hx => by
    by_cases ha : a = 0
    · subst ha
      have h' : firstNe l = 0 := by simpa [firstNe] using h
      rcases List.mem_cons.1 hx with rfl | hx
      · rfl
      · exact firstNe_zero h' x hx
    · unfold firstNe at h
      rw [List.find?_cons, show (a != 0) = true by simpa using ha] at h
      exact absurd h ha
/-- **What the program reads as a range, the reference reads.** -/
theorem range_eq (s : List UInt8) : rangeB s = rangeR s := by
  unfold rangeB rangeR
  split
  · rfl
  · split
    · rfl
    · have hbad : (partsR s).any badB = (partsR s).any (fun t => tokE t == 8) := by
        congr 1; funext t; exact (same_all t).1
      rw [hbad]
      split
      · rfl
      · rename_i h8
        have hall : ∀ t ∈ partsR s, badB t = false := fun t ht => by
          rw [(same_all t).1]
          have := List.any_eq_false.1 (Bool.eq_false_iff.2 h8) t ht
          simpa using this
        have hcodes : ((partsR s).map fun t => (spanB (itemB t).1).2) = (partsR s).map tokE := List.map_congr_left fun t ht => ((same_all t).2 (hall t ht)).1
        rw [hcodes]
        by_cases h0 : firstNe ((partsR s).map tokE) = 0
        · have hsp : ((partsR s).map fun t => (spanB (itemB t).1).1) = (partsR s).map tokS := List.map_congr_left fun t ht =>
            ((same_all t).2 (hall t ht)).2 (firstNe_zero h0 _ (List.mem_map_of_mem ht))
          rw [hsp, h0]
          simp [firstB]
        · simp [h0, firstB]
end Go.Proofs.YtlkhdembbogcaaaGreatDoor

/- Plain words: a range that is printed is read again. -/
set_option linter.unusedVariables false
set_option linter.unusedSimpArgs false
namespace Go.Proofs.YtlkhdembbogcaaaGreatDoor
open Go
end Go.Proofs.YtlkhdembbogcaaaGreatDoor

/- Plain words: the law on texts of ranges. -/
set_option linter.unusedVariables false
set_option linter.unusedSimpArgs false
namespace Go.Proofs.YtlkhdembbogcaaaGreatDoor
open Go
end Go.Proofs.YtlkhdembbogcaaaGreatDoor

/- Plain words: what ranges have, alone and together (the program). -/
set_option linter.unusedVariables false
set_option linter.unusedSimpArgs false
namespace Go.Proofs.YtlkhdembbogcaaaGreatDoor
open Go
def idxOf {α : Type} (φ : α → Bool) : List α → Int
  | [] => -1
  | x :: l => if φ x then 0 else if idxOf φ l == -1 then -1 else idxOf φ l + 1
theorem idxOf_none {α : Type} {φ : α → Bool} : ∀ {l : List α}, l.any φ = false → idxOf φ l = -1
  | [], _ => rfl
  | x :: l, h => by
    simp only [List.any_cons, Bool.or_eq_false_iff] at h
    unfold idxOf
    rw [if_neg (by simp [h.1]), idxOf_none h.2]; rfl
theorem idxOf_at {α : Type} {φ : α → Bool} {d : α} : ∀ {l : List α} {i : Nat}, i < l.length → (l.take i).any φ = false → φ (l.getD i d) = true → idxOf φ l = i
  | [], i, h, _, _ => by simp at h
  | x :: l, 0, _, _, hp => by simp at hp; simp [idxOf, hp]
  | x :: l, i + 1, h, ht, hp => by
    simp only [List.take_succ_cons, List.any_cons, Bool.or_eq_false_iff] at ht
    have ih := idxOf_at (d := d) (l := l) (i := i) (by simpa using h) ht.2 (by simpa using hp)
    unfold idxOf
    rw [if_neg (by simp [ht.1]), ih, if_neg (by rw [beq_iff_eq]; omega)]; omega
theorem idxOf_ge {α : Type} {φ : α → Bool} : ∀ {l : List α}, decide (idxOf φ l ≥ 0) = l.any φ
  | [] => rfl
  | x :: l => by
    have ih := idxOf_ge (φ := φ) (l := l)
    simp only [List.any_cons]
    unfold idxOf
    cases hx : φ x with
    | true => simp
    | false =>
      rw [← ih]
      simp only [Bool.false_eq_true, if_false, Bool.false_or]
      by_cases h : idxOf φ l = -1
      · simp [h]
      · have hb : ∀ (l : List α), -1 ≤ idxOf φ l := fun l => by
          induction l with
          | nil => simp [idxOf]
          | cons y l ih => unfold idxOf; split; omega; split <;> omega
        have := hb l
        simp [h]; omega
end Go.Proofs.YtlkhdembbogcaaaGreatDoor

/- Plain words: the order of versions is a total order. -/
set_option linter.unusedVariables false
set_option linter.unusedSimpArgs false
namespace Go.Proofs.YtlkhdembbogcaaaGreatDoor
open Go
theorem rows_first (xs ys : List (List UInt8)) : rowsB xs ys = firstB (firstNe (List.zipWith cwB xs ys)) (Lib.compareInt xs.length ys.length) := rfl
end Go.Proofs.YtlkhdembbogcaaaGreatDoor

/- Plain words: right ranges aa rows of stretches. -/
set_option linter.unusedVariables false
set_option linter.unusedSimpArgs false
namespace Go.Proofs.YtlkhdembbogcaaaGreatDoor
open Go
variable {pts : List Ver}
end Go.Proofs.YtlkhdembbogcaaaGreatDoor

/- Plain words: what two ranges have in common, step by step. -/
set_option linter.unusedVariables false
set_option linter.unusedSimpArgs false
namespace Go.Proofs.YtlkhdembbogcaaaGreatDoor
open Go
theorem take_getD {α : Type} {l : List α} {i : Nat} {d : α} (h : i < l.length) : l.take (i + 1) = l.take i ++ [l.getD i d] := by
  rw [List.take_succ_eq_append_getElem h, List.getD_eq_getElem?_getD, List.getElem?_eq_getElem h]; rfl
end Go.Proofs.YtlkhdembbogcaaaGreatDoor

/- Calls that are lent boxes, rows and maps: contracts, steps, a function's contract out of its body. -/
set_option linter.unusedVariables false
set_option linter.unusedSimpArgs false
namespace Go.Proofs.YtlkhdembbogcaaaGreatDoor
open Go Go.RowKit
/-- What is lent, as a state. -/
def hst (b : List (List C)) (r : List (Option RowO)) (m : List (List (DV × DV))) : St := ⟨fun _ => .junk, b, r, m⟩
abbrev HPost := V → List (List C) → List (Option RowO) → List (List (DV × DV)) → Prop
theorem Heap.t {g : Gh} {b : List (List C)} {r : List (Option RowO)} {m : List (List (DV × DV))} {w : World} {t : Nat → V} (t' : Nat → V) (h : Heap g ⟨t, b, r, m⟩ w) : Heap g ⟨t', b, r, m⟩ w :=
  ⟨fun x hx => h.lt x (by cases x <;> exact hx), fun x hx => h.new x (by cases x <;> exact hx), fun x y hx hy => h.inj x y (by cases x <;> exact hx) (by cases y <;> exact hy), h.box, h.row, h.map⟩
theorem live_t {b : List (List C)} {r : List (Option RowO)} {m : List (List (DV × DV))} {t t' : Nat → V} {x : Loc} (h : (⟨t, b, r, m⟩ : St).live x) : (⟨t', b, r, m⟩ : St).live x := by cases x <;> exact h
/-- 'Called with these arguments, where these boxes, rows and maps are the caller's, it returns; what is behind it is told by Q.' -/
structure HCall (P : Program) (J : Inv) (f : FuncId) (args : List V) (b : List (List C)) (r : List (Option RowO)) (m : List (List (DV × DV))) (Q : HPost) : Prop where
  enter : ∃ fn, P.funcs[f]? = some fn ∧ (fn.name == "runtime.NumGoroutine") = false ∧ fn.body.isNone = false
  calls : ∀ (g : Gh) (w : World) (vs : List Value), J.I w → (∀ k, g.im k → k < w.heap.size) → Heap g (hst b r m) w → (∀ x, (hst b r m).live x → J.N ≤ g.at_ x) → vs.length = args.length →
    (∀ (i : Nat) (u : V) (v : Value), args[i]? = some u → vs[i]? = some v → RV g (hst b r m).sh w u v) →
    Calls P f vs.toArray w fun e w' => ∃ v g' rv b' r' m', e = .returned v ∧ BelowX (fun k => ∃ x, (hst b r m).live x ∧ g.at_ x = k) w w' ∧ Ext g (hst b r m).sh w g' (hst b' r' m').sh w' ∧
      (∀ k, g'.im k → k < w'.heap.size) ∧ (∀ k, g'.im k → g.im k ∨ (∃ x, (hst b r m).live x ∧ g.at_ x = k) ∨ w.heap.size ≤ k) ∧
      (∀ x, (hst b' r' m').live x → (∃ y, (hst b r m).live y ∧ g.at_ y = g'.at_ x) ∨ w.heap.size ≤ g'.at_ x) ∧ Heap g' (hst b' r' m') w' ∧ RV g' (hst b' r' m').sh w' rv v ∧ Q rv b' r' m'
theorem HCall.mono {P : Program} {J : Inv} {f : FuncId} {args : List V} {b : List (List C)} {r : List (Option RowO)} {m : List (List (DV × DV))} {Q Q' : HPost} (h : HCall P J f args b r m Q) (hq : ∀ rv b' r' m', Q rv b' r' m' → Q' rv b' r' m') : HCall P J f args b r m Q' :=
  ⟨h.enter, fun g w vs h1 h2 h3 h4 h5 h6 => (h.calls g w vs h1 h2 h3 h4 h5 h6).mono fun e w' ⟨v, g', rv, b', r', m', p1, p2, p3, p4, p5, p6, p7, p8, p9⟩ => ⟨v, g', rv, b', r', m', p1, p2, p3, p4, p5, p6, p7, p8, hq _ _ _ _ p9⟩⟩
/-- Told with other words, whatever the ghost. -/
def LeG (r' r : V) : Prop := ∀ (g : Gh) (h : Sh) (w : World) (v : Value), RV g h w r' v → RV g h w r v
theorem LeG.refl (r : V) : LeG r r := fun _ _ _ _ h => h
theorem HCall.le {P : Program} {J : Inv} {f : FuncId} {args : List V} {b : List (List C)} {r : List (Option RowO)} {m : List (List (DV × DV))} {Q : HPost}
    (h : HCall P J f args b r m (fun rv b' r' m' => ∃ rv', LeG rv rv' ∧ Q rv' b' r' m')) : HCall P J f args b r m Q :=
  ⟨h.enter, fun g w vs h1 h2 h3 h4 h5 h6 => (h.calls g w vs h1 h2 h3 h4 h5 h6).mono fun e w' ⟨v, g', rv, b', r', m', p1, p2, p3, p4, p5, p6, p7, p8, rv', p9, p10⟩ => ⟨v, g', rv', b', r', m', p1, p2, p3, p4, p5, p6, p7, p9 _ _ _ _ p8, p10⟩⟩
section
variable {J : Inv} {k0 : Lens} {E : Env J k0} {P : Program} {T : TypeId → Option TI} {n : Nat} {t : Nat → V} {b : List (List C)} {r : List (Option RowO)} {m : List (List (DV × DV))} {ops : Array Oper} {l : List Oper}
  {K : St → Prop} {i : Nat} {ty : TypeId} {pos : String} {after : Array Edge}
/-- What a call leaves behind, seen from the caller. -/
theorem Rel.behind {g g' : Gh} {a : Act} {w w' : World} {b' : List (List C)} {r' : List (Option RowO)} {m' : List (List (DV × DV))} (rel : Rel E n g ⟨t, b, r, m⟩ a w)
    (hb : BelowX (fun k => ∃ x, (hst b r m).live x ∧ g.at_ x = k) w w') (he : Ext g (hst b r m).sh w g' (hst b' r' m').sh w') (h1 : ∀ k, g'.im k → k < w'.heap.size)
    (h2 : ∀ k, g'.im k → g.im k ∨ (∃ x, (hst b r m).live x ∧ g.at_ x = k) ∨ w.heap.size ≤ k) (h3 : ∀ x, (hst b' r' m').live x → (∃ y, (hst b r m).live y ∧ g.at_ y = g'.at_ x) ∨ w.heap.size ≤ g'.at_ x)
    (hh : Heap g' (hst b' r' m') w') : Rel E n g' ⟨t, b', r', m'⟩ a w' := by
  have hs : w.heap.size ≥ E.w0.heap.size := rel.below.size
  refine ⟨rel.below.trans hb (fun k ⟨x, hx, hk⟩ hlt => ?_), rel.ext.trans he, h1, fun k hk => ?_, fun x hx => ?_, hh.t t, rel.size, rel.defers, fun j hj => (rel.tmps j hj).mono he⟩
  · rcases rel.own x (live_t hx) with h | h
    · rw [← hk]; exact h
    · omega
  · rcases h2 k hk with h | ⟨x, hx, hk⟩ | h
    · exact rel.imold k h
    · rw [← hk]; exact .inr (rel.own x (live_t hx))
    · exact .inr (.inr (by omega))
  · rcases h3 x (live_t hx) with ⟨y, hy, hk⟩ | h
    · rw [← hk]; exact rel.own y (live_t hy)
    · exact .inr (by omega)
theorem hcall_wp {g : Gh} {a : Act} {w : World} (rel : Rel E n g ⟨t, b, r, m⟩ a w) {o : Oper} {fo : Operand} {args : Array Operand} {ats : Array TypeId} (ho : o.op = .call { callee := .value fo, args, argTypes := ats }) {u : V} {f : FuncId} {caps : List C} {us : List V} {Q : HPost}
    (hu : opd n ⟨t, b, r, m⟩ fo = (true, u)) (hc : calleeV u = some (f, caps)) (ha : allOpdL n ⟨t, b, r, m⟩ args.toList = (true, us)) (pc : HCall P J f (us ++ caps.map V.one) b r m Q)
    {next : Act → World → Prop} {Qx : Exit → Act → World → Prop} (k : ∀ v g' w' rv b' r' m', Rel E n g' ⟨t, b', r', m'⟩ a w' → RV g' (hst b' r' m').sh w' rv v → Q rv b' r' m' → next (a.put o.dst v) w') : o.wp P a w next Qx := by
  obtain ⟨fn, hf, h1, h2⟩ := pc.enter
  obtain ⟨vs, hl, hx, hrun⟩ := call_run rel ho hu hc hf h1 h2
  obtain ⟨hal, hav⟩ := allOpdL_ok rel _ _ _ ha rfl
  have hall := capsV_ok (s := ⟨t, b, r, m⟩) (g := g) (w := w) (us := us) (caps := caps) (ws := args.toList.map a.eval) (vs := vs) (by simp [hal]) hav hl hx
  have hN : ∀ x, (hst b r m).live x → J.N ≤ g.at_ x := fun x hx => by
    rcases rel.own x (live_t hx) with h | h
    · exact E.hN _ h
    · exact Nat.le_trans (J.lt _ E.hI) h
  have hcall := pc.calls g w (args.toList.map a.eval ++ vs) rel.inv rel.imlt (rel.heap.t _) hN (by simp [hal, hl]) hall
  unfold Oper.wp
  rw [hrun]
  show Calls P f _ w _
  refine hcall.mono ?_
  rintro e w' ⟨v, g', rv, b', r', m', rfl, p2, p3, p4, p5, p6, p7, p8, p9⟩
  exact k v g' w' rv b' r' m' (rel.behind p2 p3 p4 p5 p6 p7) p8 p9
theorem Step.hcall {o : Oper} {fo : Operand} {args : Array Operand} {ats : Array TypeId} {u : V} {f : FuncId} {caps : List C} {us : List V} {Q : HPost}
    (pc : HCall P J f (us ++ caps.map V.one) b r m Q) (ho : o.op = .call { callee := .value fo, args, argTypes := ats }) (hg : o.guard = none) (hu : opd n ⟨t, b, r, m⟩ fo = (true, u)) (hc : calleeV u = some (f, caps))
    (ha : allOpdL n ⟨t, b, r, m⟩ args.toList = (true, us)) (k : ∀ rv b' r' m', Q rv b' r' m' → K ((⟨t, b', r', m'⟩ : St).set o.dst rv)) : Step E P n ops o K ⟨t, b, r, m⟩ := by
  intro g a w rel next Qx hn
  have hw : Region.wanted o (yielded ops a.tmps) = true := by simp [Region.wanted, hg]
  rw [if_pos hw]
  exact hcall_wp rel ho hu hc ha pc (fun v g' w' rv b' r' m' rel' hv hq => hn _ g' _ _ (k rv b' r' m' hq) (rel'.put_same _ hv))
/-- A call that may turn what is the caller's. -/
theorem S.hcall {dst : Option Nat} {fo : Operand} {args : Array Operand} {ats : Array TypeId} {u : V} {f : FuncId} {caps : List C} {us ws : List V} {Q : HPost} (hu : opd n ⟨t, b, r, m⟩ fo = (true, u)) (hc : calleeV u = some (f, caps))
    (ha : allOpdL n ⟨t, b, r, m⟩ args.toList = (true, us)) (hw : forceVs (appL us (caps.map V.one)) = some ws) (pc : HCall P J f ws b r m Q)
    (k : ∀ rv b' r' m', Q rv b' r' m' → WL E P n ops l K ⟨updO t dst rv, b', r', m'⟩) : WL E P n ops (⟨dst, .call ⟨.value fo, args, ats⟩, ty, pos, after, none⟩ :: l) K ⟨t, b, r, m⟩ := by
  obtain rfl := forceVs_eq hw
  rw [appL_eq] at pc
  refine Step.hcall pc rfl rfl hu hc ha (fun rv b' r' m' hq => ?_)
  have := k rv b' r' m' hq
  cases dst <;> exact this
/-- The same, where all is known of what is behind it. -/
def isH (rv : V) (b : List (List C)) (r : List (Option RowO)) (m : List (List (DV × DV))) : HPost := fun rv' b' r' m' => rv' = rv ∧ b' = b ∧ r' = r ∧ m' = m
theorem S.hcallD {dst : Option Nat} {fo : Operand} {args : Array Operand} {ats : Array TypeId} {u : V} {f : FuncId} {caps : List C} {us ws : List V} {rv : V} {b' : List (List C)} {r' : List (Option RowO)} {m' : List (List (DV × DV))}
    (hu : opd n ⟨t, b, r, m⟩ fo = (true, u)) (hc : calleeV u = some (f, caps))
    (ha : allOpdL n ⟨t, b, r, m⟩ args.toList = (true, us)) (hw : forceVs (appL us (caps.map V.one)) = some ws) (pc : HCall P J f ws b r m (isH rv b' r' m'))
    (k : WL E P n ops l K ⟨updO t dst rv, b', r', m'⟩) : WL E P n ops (⟨dst, .call ⟨.value fo, args, ats⟩, ty, pos, after, none⟩ :: l) K ⟨t, b, r, m⟩ :=
  S.hcall hu hc ha hw pc (fun _ _ _ _ ⟨h1, h2, h3, h4⟩ => by rw [h1, h2, h3, h4]; exact k)
theorem Rel.drop {g : Gh} {a : Act} {w : World} {b1 b2 : List (List C)} {r1 r2 : List (Option RowO)} {m1 m2 : List (List (DV × DV))} (rel : Rel E n g ⟨t, b1 ++ b2, r1 ++ r2, m1 ++ m2⟩ a w)
    (hlow : (loB b1.length r1.length m1.length b1 && (Nat.ble k0.L b1.length && (Nat.ble k0.R r1.length && Nat.ble k0.M m1.length))) = true) : Rel E n g ⟨fun _ => .junk, b1, r1, m1⟩ a w :=
  Rel.keep [] b1 b2 r1 r2 m1 m2 trivial (by simpa [loL] using hlow) rel
/-- Where the body ends: what is behind the call; of the call's own things those up to k1 are kept. -/
def HEnds (k0 : Lens) (T : TypeId → Option TI) (fn : Func) (Q : HPost) : Ex → St → Prop
  | .exit _, _ => False
  | _, s => ∃ vs, resAll T fn.ntmps s fn.results.toList = some vs ∧ (Q (resV vs) s.b s.r s.m ∨ ∃ k1 : Lens, (loV k1.L k1.R k1.M (resV vs) && (Nat.ble k1.L s.b.length && (Nat.ble k1.R s.r.length && (Nat.ble k1.M s.m.length &&
      (loB k1.L k1.R k1.M (s.b.take k1.L) && (Nat.ble k0.L k1.L && (Nat.ble k0.R k1.R && Nat.ble k0.M k1.M))))))) = true ∧ Q (resV vs) (s.b.take k1.L) (s.r.take k1.R) (s.m.take k1.M))
theorem HCall.of_body (hT : TabOk P T) {f : FuncId} {fn : Func} {c : Code} {args : List V} {Q : HPost} (hf : P.funcs[f]? = some fn) (hname : (fn.name == "runtime.NumGoroutine") = false) (hb : fn.body = some c)
    (hn : args.length ≤ fn.ntmps) (h : ∀ E : Env J ⟨b.length, r.length, m.length⟩, W E P fn.ntmps c (HEnds ⟨b.length, r.length, m.length⟩ T fn Q) ⟨argsV args, b, r, m⟩) : HCall P J f args b r m Q := by
  refine ⟨⟨fn, hf, hname, by rw [hb]; rfl⟩, fun g w vs hJ hi hH hN hl hx => ?_⟩
  refine calls_of_wp hf hb ?_
  let E : Env J ⟨b.length, r.length, m.length⟩ := ⟨w, g, (hst b r m).sh, fun k => ∃ x, (hst b r m).live x ∧ g.at_ x = k, rfl, by simp [hst, St.sh], rfl, hJ, fun k ⟨x, hx, hk⟩ => by rw [← hk]; exact hN x hx⟩
  have rel : Rel E fn.ntmps g ⟨argsV args, b, r, m⟩ { tmps := vs.toArray ++ Array.replicate (fn.ntmps - vs.toArray.size) undef, defers := [] } w := by
    refine ⟨BelowX.refl _ _, .refl _ _ _, hi, fun b h => .inl h, fun x hx => .inl ⟨x, live_t hx, rfl⟩, hH.t _, ?_, rfl, fun i hi' => ?_⟩
    · simp [hl]; omega
    · show RV _ _ _ (argsV args i) _
      rw [argsV_get]
      rcases Nat.lt_or_ge i args.length with h1 | h1
      · have h2 : vs[i]? = some vs[i] := List.getElem?_eq_getElem (by omega)
        have h3 : args[i]? = some args[i] := List.getElem?_eq_getElem h1
        rw [List.getD_eq_getElem?_getD, h3, Option.getD_some]
        have h4 : (vs.toArray ++ Array.replicate (fn.ntmps - vs.toArray.size) undef).getD i undef = vs[i] := by
          rw [Array.getD_eq_getD_getElem?, Array.getElem?_append_left (by simp; omega)]
          simp [h2]
        rw [h4]
        exact hx i _ _ h3 h2
      · rw [List.getD_eq_getElem?_getD, List.getElem?_eq_none h1]
        exact .junk _
  refine wp_mono (h E g _ w rel) ?_
  rintro _ a' w' ⟨e, s', g', rfl, hk, r'⟩
  have fin : (∃ vs, resAll T fn.ntmps s' fn.results.toList = some vs ∧ (Q (resV vs) s'.b s'.r s'.m ∨ ∃ k1 : Lens, (loV k1.L k1.R k1.M (resV vs) && (Nat.ble k1.L s'.b.length && (Nat.ble k1.R s'.r.length && (Nat.ble k1.M s'.m.length &&
      (loB k1.L k1.R k1.M (s'.b.take k1.L) && (Nat.ble b.length k1.L && (Nat.ble r.length k1.R && Nat.ble m.length k1.M))))))) = true ∧ Q (resV vs) (s'.b.take k1.L) (s'.r.take k1.R) (s'.m.take k1.M))) → a'.defers = [] ∧ ∃ v, (results fn a'.tmps).run P w' = .ok v w' ∧
      ∃ v_1 g1 rv b' r' m', Ending.returned v = Ending.returned v_1 ∧ BelowX (fun k => ∃ x, (hst b r m).live x ∧ g.at_ x = k) w w' ∧ Ext g (hst b r m).sh w g1 (hst b' r' m').sh w' ∧
      (∀ k, g1.im k → k < w'.heap.size) ∧ (∀ k, g1.im k → g.im k ∨ (∃ x, (hst b r m).live x ∧ g.at_ x = k) ∨ w.heap.size ≤ k) ∧
      (∀ x, (hst b' r' m').live x → (∃ y, (hst b r m).live y ∧ g.at_ y = g1.at_ x) ∨ w.heap.size ≤ g1.at_ x) ∧ Heap g1 (hst b' r' m') w' ∧ RV g1 (hst b' r' m').sh w' rv v_1 ∧ Q rv b' r' m' := by
    rintro ⟨vs, h1, h2⟩
    obtain ⟨z, h4, h5⟩ := results_ok (P := P) hT r' h1
    refine ⟨r'.defers, z, h4, z, g', resV vs, ?_⟩
    rcases h2 with h2 | ⟨k1, hk1, h2⟩
    · exact ⟨s'.b, s'.r, s'.m, rfl, r'.below, r'.ext, r'.imlt, r'.imold, fun x hx => r'.own x (live_t hx), r'.heap.t _, h5, h2⟩
    · simp only [Bool.and_eq_true] at hk1
      obtain ⟨c1, c2, c3, c4, c5, c6, c7, c8⟩ := hk1
      have l2 := Nat.le_of_ble_eq_true c2
      have l3 := Nat.le_of_ble_eq_true c3
      have l4 := Nat.le_of_ble_eq_true c4
      have e1 : (s'.b.take k1.L).length = k1.L := by simp; omega
      have e2 : (s'.r.take k1.R).length = k1.R := by simp; omega
      have e3 : (s'.m.take k1.M).length = k1.M := by simp; omega
      have hst' : (⟨s'.t, s'.b.take k1.L ++ s'.b.drop k1.L, s'.r.take k1.R ++ s'.r.drop k1.R, s'.m.take k1.M ++ s'.m.drop k1.M⟩ : St) = s' := by
        simp only [List.take_append_drop]
      have rel2 := Rel.drop (b1 := s'.b.take k1.L) (b2 := s'.b.drop k1.L) (r1 := s'.r.take k1.R) (r2 := s'.r.drop k1.R) (m1 := s'.m.take k1.M) (m2 := s'.m.drop k1.M) (t := s'.t) (by rw [hst']; exact r')
        (by rw [e1, e2, e3]; simp only [Bool.and_eq_true]; exact ⟨c5, c6, c7, c8⟩)
      refine ⟨s'.b.take k1.L, s'.r.take k1.R, s'.m.take k1.M, rfl, rel2.below, rel2.ext, rel2.imlt, rel2.imold, fun x hx => rel2.own x hx, rel2.heap, ?_, h2⟩
      have h6 := h5.lo k1.L k1.R k1.M (by simpa [St.sh] using l3) c1
      have : (hst (s'.b.take k1.L) (s'.r.take k1.R) (s'.m.take k1.M)).sh = ⟨k1.L, s'.sh.rows.take k1.R, k1.M⟩ := by
        simp only [hst, St.sh, e1, e3, List.map_take]
      rw [this]; exact h6
  cases e with
  | normal => exact fin hk
  | exit id => exact hk.elim
  | ret => exact fin hk
end
end Go.Proofs.YtlkhdembbogcaaaGreatDoor

/- A call that is lent some of the caller's boxes, rows and maps, under other numbers. -/
set_option linter.unusedVariables false
set_option linter.unusedSimpArgs false
namespace Go.Proofs.YtlkhdembbogcaaaGreatDoor
open Go Go.RowKit
def putL {α : Type} : List α → List Nat → List α → List α
  | B, [], xs => B ++ xs
  | B, _ :: _, [] => B
  | B, q :: ρ, x :: xs => putL (B.set q x) ρ xs
/-- Where number i of a list lies in the other one. -/
def posL (ρ : List Nat) (nB i : Nat) : Nat := bif Nat.blt i ρ.length then ρ.getD i 0 else nB + (i - ρ.length)
theorem posL_zero (q : Nat) (ρ : List Nat) (nB : Nat) : posL (q :: ρ) nB 0 = q := by
  show (bif Nat.blt 0 (ρ.length + 1) then q else nB + (0 - (ρ.length + 1))) = q
  rw [show Nat.blt 0 (ρ.length + 1) = true from by simp [Nat.blt_eq]]; rfl
theorem posL_succ (q : Nat) (ρ : List Nat) (nB i : Nat) : posL (q :: ρ) nB (i + 1) = posL ρ nB i := by
  unfold posL
  have h : Nat.blt (i + 1) (q :: ρ).length = Nat.blt i ρ.length := by
    rw [Bool.eq_iff_iff]; simp [Nat.blt_eq]
  rw [h]
  cases Nat.blt i ρ.length with
  | true => simp
  | false => simp
theorem posL_nil (nB i : Nat) : posL [] nB i = nB + i := by
  show (bif Nat.blt i 0 then ([] : List Nat).getD i 0 else nB + (i - 0)) = nB + i
  rw [show Nat.blt i 0 = false from rfl]; rfl
theorem posL_lt {ρ : List Nat} {nB i : Nat} (h : i < ρ.length) : posL ρ nB i = ρ.getD i 0 := by
  have : Nat.blt i ρ.length = true := by simpa [Nat.blt_eq] using h
  simp [posL, this]
theorem posL_ge {ρ : List Nat} {nB i : Nat} (h : ρ.length ≤ i) : posL ρ nB i = nB + (i - ρ.length) := by
  have : Nat.blt i ρ.length = false := by rw [← Bool.not_eq_true]; simpa [Nat.blt_eq] using h
  simp [posL, this]
section
variable {α : Type}
theorem putL_else : ∀ (ρ : List Nat) (B xs : List α) (l : Nat), (∀ i, i < xs.length → posL ρ B.length i ≠ l) → ρ.length ≤ xs.length → (putL B ρ xs)[l]? = B[l]?
  | [], B, xs, l, h, _ => by
    unfold putL
    rcases Nat.lt_or_ge l B.length with h1 | h1
    · rw [List.getElem?_append_left h1]
    · rw [List.getElem?_append_right h1, List.getElem?_eq_none, List.getElem?_eq_none h1]
      rcases Nat.lt_or_ge (l - B.length) xs.length with h2 | h2
      · exact absurd (by rw [posL_nil]; omega) (h _ h2)
      · exact h2
  | q :: ρ, B, [], l, h, hl => by simp at hl
  | q :: ρ, B, x :: xs, l, h, hl => by
    unfold putL
    rw [putL_else ρ (B.set q x) xs l (fun i hi => by have := h (i + 1) (by simpa using hi); rw [posL_succ] at this; simpa using this) (by simpa using hl)]
    have h0 := h 0 (by simp)
    rw [posL_zero] at h0
    rw [List.getElem?_set, if_neg h0]
theorem posL_inj {ρ : List Nat} {nB : Nat} (hn : ρ.Nodup) (hlt : ∀ q ∈ ρ, q < nB) {i j : Nat} (h : posL ρ nB i = posL ρ nB j) : i = j := by
  rcases Nat.lt_or_ge i ρ.length with hi | hi <;> rcases Nat.lt_or_ge j ρ.length with hj | hj
  · rw [posL_lt hi, posL_lt hj] at h
    simp only [List.getD_eq_getElem?_getD, List.getElem?_eq_getElem hi, List.getElem?_eq_getElem hj, Option.getD_some] at h
    exact (List.getElem_inj hn).1 h
  · rw [posL_lt hi, posL_ge hj] at h
    have := hlt (ρ.getD i 0) (by simp [List.getD_eq_getElem?_getD, List.getElem?_eq_getElem hi])
    omega
  · rw [posL_ge hi, posL_lt hj] at h
    have := hlt (ρ.getD j 0) (by simp [List.getD_eq_getElem?_getD, List.getElem?_eq_getElem hj])
    omega
  · rw [posL_ge hi, posL_ge hj] at h; omega
theorem putL_at : ∀ (ρ : List Nat) (B xs : List α) (i : Nat), ρ.Nodup → (∀ q ∈ ρ, q < B.length) → ρ.length ≤ xs.length → i < xs.length → (putL B ρ xs)[posL ρ B.length i]? = xs[i]?
  | [], B, xs, i, _, _, _, _ => by unfold putL; rw [posL_nil, List.getElem?_append_right (by omega)]; congr 1; omega
  | q :: ρ, B, [], i, _, _, hl, _ => by simp at hl
  | q :: ρ, B, x :: xs, 0, hn, hlt, hl, _ => by
    unfold putL
    rw [posL_zero, putL_else ρ (B.set q x) xs q (fun i hi he => ?_) (by simpa using hl)]
    · have := hlt q (List.mem_cons_self ..)
      simp [List.getElem?_set, this]
    · have h1 : posL (q :: ρ) B.length (i + 1) = posL (q :: ρ) B.length 0 := by rw [posL_succ, posL_zero]; simpa using he
      have := posL_inj hn hlt h1
      omega
  | q :: ρ, B, x :: xs, i + 1, hn, hlt, hl, hi => by
    unfold putL
    rw [posL_succ]
    have := putL_at ρ (B.set q x) xs i (List.nodup_cons.1 hn).2 (fun p hp => by simpa using hlt p (List.mem_cons_of_mem _ hp)) (by simpa using hl) (by simpa using hi)
    simpa using this
theorem putL_length : ∀ (ρ : List Nat) (B xs : List α), B.length ≤ (putL B ρ xs).length
  | [], B, xs => by simp [putL]
  | q :: ρ, B, [] => by simp [putL]
  | q :: ρ, B, x :: xs => by unfold putL; have := putL_length ρ (B.set q x) xs; simpa using this
end
structure Ren where
  b : Nat → Nat
  r : Nat → Nat
  m : Nat → Nat
mutual
def renC (p : Ren) : C → C
  | .ptr l off => .ptr (p.b l) off
  | .row r v o n => .row (p.r r) v o n
  | .rptr r v i o => .rptr (p.r r) v i o
  | .map m => .map (p.m m)
  | .clo f cs => .clo f (renCs p cs)
  | .d x => .d x
  | .eptr cs => .eptr cs
  | .junk => .junk
def renCs (p : Ren) : List C → List C
  | [] => []
  | c :: l => renC p c :: renCs p l
end
mutual
def renV (p : Ren) : V → V
  | .one c => .one (renC p c)
  | .agg cs => .agg (renCs p cs)
  | .tup vs => .tup (renVs p vs)
  | .when b v => .when b (renV p v)
  | .junk => .junk
def renVs (p : Ren) : List V → List V
  | [] => []
  | c :: l => renV p c :: renVs p l
end
def renB (p : Ren) : List (List C) → List (List C)
  | [] => []
  | c :: l => renCs p c :: renB p l
theorem renCs_map (p : Ren) : ∀ l, renCs p l = l.map (renC p)
  | [] => rfl
  | c :: l => by simp [renCs, renCs_map p l]
theorem renVs_map (p : Ren) : ∀ l, renVs p l = l.map (renV p)
  | [] => rfl
  | c :: l => by simp [renVs, renVs_map p l]
theorem renB_map (p : Ren) : ∀ l, renB p l = l.map (renCs p)
  | [] => rfl
  | c :: l => by simp [renB, renB_map p l]
def Ren.loc (p : Ren) : Loc → Loc
  | .b l => .b (p.b l) | .r l => .r (p.r l) | .m l => .m (p.m l)
/-- What is known of the lesser lists' places in the greater ones. -/
structure Emb (p : Ren) (h H : Sh) (g G : Gh) : Prop where
  atB : ∀ l, l < h.L → p.b l < H.L ∧ G.at_ (.b (p.b l)) = g.at_ (.b l)
  atR : ∀ r, r < h.rows.length → p.r r < H.rows.length ∧ H.rows[p.r r]? = h.rows[r]? ∧ G.at_ (.r (p.r r)) = g.at_ (.r r) ∧ G.off (p.r r) = g.off r ∧ G.cap (p.r r) = g.cap r
  atM : ∀ l, l < h.M → p.m l < H.M ∧ G.at_ (.m (p.m l)) = g.at_ (.m l)
section
variable {p : Ren} {h H : Sh} {g G : Gh} {w : World}
mutual
theorem RC.up (e : Emb p h H g G) (hi : G.im = g.im) : ∀ {c : C} {v : Value}, RC g h w c v → RC G H w (renC p c) v
  | .d x, v, hx => by cases hx with | d _ _ hx => exact .d _ _ (by rw [hi]; exact hx)
  | .ptr l off, v, hx => by cases hx with | ptr _ _ hl => rw [← (e.atB l hl).2]; exact .ptr _ _ (e.atB l hl).1
  | .eptr cs, v, hx => by cases hx with | eptr _ b o u h1 h2 h3 => exact .eptr _ b o u (by rw [hi]; exact h1) h2 (by rw [hi]; exact h3)
  | .row r ver off n, v, hx => by
    cases hx with | row _ _ _ _ _ hv hr hx =>
    obtain ⟨h1, h2, h3, h4, h5⟩ := e.atR r hr
    exact .row _ _ _ _ _ hv h1 (fun al ver' sz len hh => by rw [h3, h4, h5]; exact hx al ver' sz len (by rw [← h2]; exact hh))
  | .rptr r ver i fo, v, hx => by
    cases hx with | rptr _ _ _ _ _ hv hr hx =>
    obtain ⟨h1, h2, h3, h4, h5⟩ := e.atR r hr
    exact .rptr _ _ _ _ _ hv h1 (fun al ver' sz len hh => by rw [h3, h4]; exact hx al ver' sz len (by rw [← h2]; exact hh))
  | .map l, v, hx => by cases hx with | map _ hl => rw [← (e.atM l hl).2]; exact .map _ (e.atM l hl).1
  | .clo f cs, v, hx => by
    cases hx with | clo _ _ vs hl hx =>
    exact .clo f _ vs (by rw [renCs_map]; simpa using hl) (RC.ups e hi cs vs hx)
  | .junk, v, hx => by cases hx with | junk _ hx => exact .junk _ hx
theorem RC.ups (e : Emb p h H g G) (hi : G.im = g.im) : ∀ (cs : List C) (vs : List Value), (∀ (i : Nat) (c : C) (v : Value), cs[i]? = some c → vs[i]? = some v → RC g h w c v) →
    ∀ (i : Nat) (c : C) (v : Value), (renCs p cs)[i]? = some c → vs[i]? = some v → RC G H w c v
  | [], vs, _, i, c, v, h1, _ => by simp [renCs] at h1
  | c0 :: cs, vs, hx, 0, c, v, h1, h2 => by
    simp [renCs] at h1
    subst h1
    exact RC.up e hi (hx 0 c0 v rfl h2)
  | c0 :: cs, vs, hx, i + 1, c, v, h1, h2 => by
    cases vs with
    | nil => simp at h2
    | cons v0 vs => exact RC.ups e hi cs vs (fun i c v h3 h4 => hx (i + 1) c v h3 h4) i c v (by simpa [renCs] using h1) (by simpa using h2)
end
mutual
theorem RV.up (e : Emb p h H g G) (hi : G.im = g.im) : ∀ {u : V} {v : Value}, RV g h w u v → RV G H w (renV p u) v
  | .one c, v, hx => by cases hx with | one _ _ hx => exact .one _ _ (hx.up e hi)
  | .agg cs, v, hx => by cases hx with | agg _ vs hl hx => exact .agg _ vs (by rw [renCs_map]; simpa using hl) (RC.ups e hi cs vs hx)
  | .tup us, v, hx => by cases hx with | tup _ vs hl hx => exact .tup _ vs (by rw [renVs_map]; simpa using hl) (RV.ups e hi us vs hx)
  | .when b u, v, hx => by
    cases hx with
    | whenT _ _ hx => exact .whenT _ _ (RV.up e hi hx)
    | whenF _ => exact .whenF _
  | .junk, v, hx => .junk _
theorem RV.ups (e : Emb p h H g G) (hi : G.im = g.im) : ∀ (cs : List V) (vs : List Value), (∀ (i : Nat) (c : V) (v : Value), cs[i]? = some c → vs[i]? = some v → RV g h w c v) →
    ∀ (i : Nat) (c : V) (v : Value), (renVs p cs)[i]? = some c → vs[i]? = some v → RV G H w c v
  | [], vs, _, i, c, v, h1, _ => by simp [renVs] at h1
  | c0 :: cs, vs, hx, 0, c, v, h1, h2 => by
    simp [renVs] at h1
    subst h1
    exact RV.up e hi (hx 0 c0 v rfl h2)
  | c0 :: cs, vs, hx, i + 1, c, v, h1, h2 => by
    cases vs with
    | nil => simp at h2
    | cons v0 vs => exact RV.ups e hi cs vs (fun i c v h3 h4 => hx (i + 1) c v h3 h4) i c v (by simpa [renVs] using h1) (by simpa using h2)
end
mutual
theorem RC.down (e : Emb p h H g G) (hi : G.im = g.im) : ∀ {c : C} {v : Value}, loC h.L h.rows.length h.M c = true → RC G H w (renC p c) v → RC g h w c v
  | .d x, v, _, hx => by cases hx with | d _ _ hx => exact .d _ _ (by rw [← hi]; exact hx)
  | .ptr l off, v, hl, hx => by
    have hl : l < h.L := by simpa [loC, Nat.blt_eq] using hl
    cases hx with | ptr _ _ _ => rw [(e.atB l hl).2]; exact .ptr _ _ hl
  | .eptr cs, v, _, hx => by cases hx with | eptr _ b o u h1 h2 h3 => exact .eptr _ b o u (by rw [← hi]; exact h1) h2 (by rw [← hi]; exact h3)
  | .row r ver off n, v, hl, hx => by
    have hr : r < h.rows.length := by simpa [loC, Nat.blt_eq] using hl
    cases hx with | row _ _ _ _ _ hv _ hx =>
    obtain ⟨h1, h2, h3, h4, h5⟩ := e.atR r hr
    exact .row _ _ _ _ _ hv hr (fun al ver' sz len hh => by rw [← h3, ← h4, ← h5]; exact hx al ver' sz len (by rw [h2]; exact hh))
  | .rptr r ver i fo, v, hl, hx => by
    have hr : r < h.rows.length := by simpa [loC, Nat.blt_eq] using hl
    cases hx with | rptr _ _ _ _ _ hv _ hx =>
    obtain ⟨h1, h2, h3, h4, h5⟩ := e.atR r hr
    exact .rptr _ _ _ _ _ hv hr (fun al ver' sz len hh => by rw [← h3, ← h4]; exact hx al ver' sz len (by rw [h2]; exact hh))
  | .map l, v, hl, hx => by
    have hl : l < h.M := by simpa [loC, Nat.blt_eq] using hl
    cases hx with | map _ _ => rw [(e.atM l hl).2]; exact .map _ hl
  | .clo f cs, v, hl, hx => by
    cases hx with | clo _ _ vs hl' hx =>
    exact .clo f _ vs (by rw [renCs_map] at hl'; simpa using hl') (RC.downs e hi cs vs (by simpa [loC] using hl) hx)
  | .junk, v, _, hx => by cases hx with | junk _ hx => exact .junk _ hx
theorem RC.downs (e : Emb p h H g G) (hi : G.im = g.im) : ∀ (cs : List C) (vs : List Value), loCs h.L h.rows.length h.M cs = true → (∀ (i : Nat) (c : C) (v : Value), (renCs p cs)[i]? = some c → vs[i]? = some v → RC G H w c v) →
    ∀ (i : Nat) (c : C) (v : Value), cs[i]? = some c → vs[i]? = some v → RC g h w c v
  | [], vs, _, _, i, c, v, h1, _ => by simp at h1
  | c0 :: cs, vs, hl, hx, 0, c, v, h1, h2 => by
    simp at h1
    subst h1
    simp only [loCs, Bool.and_eq_true] at hl
    exact RC.down e hi hl.1 (hx 0 _ v rfl h2)
  | c0 :: cs, vs, hl, hx, i + 1, c, v, h1, h2 => by
    simp only [loCs, Bool.and_eq_true] at hl
    cases vs with
    | nil => simp at h2
    | cons v0 vs => exact RC.downs e hi cs vs hl.2 (fun i c v h3 h4 => hx (i + 1) c v (by simpa [renCs] using h3) h4) i c v (by simpa using h1) (by simpa using h2)
end
mutual
theorem RV.down (e : Emb p h H g G) (hi : G.im = g.im) : ∀ {u : V} {v : Value}, loV h.L h.rows.length h.M u = true → RV G H w (renV p u) v → RV g h w u v
  | .one c, v, hl, hx => by cases hx with | one _ _ hx => exact .one _ _ (RC.down e hi (by simpa [loV] using hl) hx)
  | .agg cs, v, hl, hx => by cases hx with | agg _ vs hl' hx => exact .agg _ vs (by rw [renCs_map] at hl'; simpa using hl') (RC.downs e hi cs vs (by simpa [loV] using hl) hx)
  | .tup us, v, hl, hx => by cases hx with | tup _ vs hl' hx => exact .tup _ vs (by rw [renVs_map] at hl'; simpa using hl') (RV.downs e hi us vs (by simpa [loV] using hl) hx)
  | .when b u, v, hl, hx => by
    simp only [renV] at hx
    cases hx with
    | whenT _ _ hx => exact .whenT _ _ (RV.down e hi (by simpa [loV] using hl) hx)
    | whenF _ => exact .whenF _
  | .junk, v, _, hx => .junk _
theorem RV.downs (e : Emb p h H g G) (hi : G.im = g.im) : ∀ (cs : List V) (vs : List Value), loVs h.L h.rows.length h.M cs = true → (∀ (i : Nat) (c : V) (v : Value), (renVs p cs)[i]? = some c → vs[i]? = some v → RV G H w c v) →
    ∀ (i : Nat) (c : V) (v : Value), cs[i]? = some c → vs[i]? = some v → RV g h w c v
  | [], vs, _, _, i, c, v, h1, _ => by simp at h1
  | c0 :: cs, vs, hl, hx, 0, c, v, h1, h2 => by
    simp at h1
    subst h1
    simp only [loVs, Bool.and_eq_true] at hl
    exact RV.down e hi hl.1 (hx 0 _ v rfl h2)
  | c0 :: cs, vs, hl, hx, i + 1, c, v, h1, h2 => by
    simp only [loVs, Bool.and_eq_true] at hl
    cases vs with
    | nil => simp at h2
    | cons v0 vs => exact RV.downs e hi cs vs hl.2 (fun i c v h3 h4 => hx (i + 1) c v (by simpa [renVs] using h3) h4) i c v (by simpa using h1) (by simpa using h2)
end
end
end Go.Proofs.YtlkhdembbogcaaaGreatDoor
