import Derived.Test.YtepdjimbnbiicaaGreatDoorW3
import Derived.Test.YtepdjimbnbiicaaGreatDoorV4
set_option linter.unusedVariables false
set_option linter.unusedSimpArgs false
set_option maxRecDepth 100000
namespace Go.Proofs.YtepdjimbnbiicaaGreatDoor
open Go
open Go.RowKit

theorem pc_outref2_VersionError (vs : List Ver) (hl : vs.length ≤ 1000000) (hv : ∀ v ∈ vs, v.e.length < 4294967281) :
    PureCall Tryz.prog J 15 [.one (.d (.vec 4 (vs.map verD)))] (.one (.d (.int .i64 (firstNe (vs.map Ver.check))))) := by
  refine PureCall.of_body tOk (fn := Tryz.f15) Tryz.func15 (by kernel_rfl) rfl (Nat.le_of_ble_eq_true rfl) (fun E => ?_)
  refine W.seq ?_
  refine W.region ?_
  refine S.pure tOk zOk rfl rfl rfl ?_
  refine thenK_n ?_
  refine W.seq ?_
  refine W.seq ?_
  refine W.region ?_
  refine S.pure tOk zOk rfl rfl rfl ?_
  refine S.pure tOk zOk rfl rfl rfl ?_
  refine S.pure tOk zOk rfl rfl rfl ?_
  refine thenK_n ?_
  refine W.block ?_
  refine W.loop (fun k st => ∃ i : Nat, i ≤ vs.length ∧ ((vs.map Ver.check).take i).all (· == 0) = true ∧ k = vs.length - i ∧ ∃ t b2, st = ⟨t, [] ++ b2, [], []⟩ ∧ holdsL t [(9, .one (.d (.vec 4 (vs.map fun x => verD x)))), (10, .one (.d (.int .i64 ((vs.map fun x => (verD x : List D)).length : Int)))), (11, .one (.d (.int .i64 (i : Int))))]) (vs.length) ⟨0, Nat.zero_le _, by simp, rfl, _, _, rfl, rfl, rfl, rfl, trivial⟩ ?_
  rintro k0 _ ⟨i, f0_0, f0_1, rfl, t0, bb0, rfl, hh0⟩
  refine W.keepD _ _ _ hh0 rfl ?_
  refine W.seq ?_
  refine W.region ?_
  refine S.pure tOk zOk rfl rfl rfl ?_
  refine thenK_n ?_
  refine W.seq ?_
  refine W.cond rfl (fun c1 => ?_) (fun c1 => ?_)
  · skip
    have hi := row_lt c1
    have hei : (vs.getD i Ver.z).e.length < 4294967281 := ver_at hv hi
    have hsl := split_le (vs.getD i Ver.z).e [46]
    have hsm := fun j => @split_at (vs.getD i Ver.z).e [46] j
    refine W.skip ?_
    refine thenK_n ?_
    refine W.seq ?_
    refine W.block ?_
    refine W.seq ?_
    refine W.region ?_
    refine S.pureE tOk zOk rfl (row_ok hi) (row_at Ver.z hi) rfl ?_
    refine S.pure tOk zOk rfl rfl rfl ?_
    refine S.alloc tOk rfl rfl rfl rfl ?_
    refine S.store tOk rfl rfl rfl rfl rfl rfl rfl rfl ?_
    refine thenK_n ?_
    refine W.seq ?_
    refine W.seq ?_
    refine W.region ?_
    refine S.pure tOk zOk rfl rfl rfl ?_
    refine S.pure tOk zOk rfl rfl rfl ?_
    refine S.pure tOk zOk rfl rfl rfl ?_
    refine S.pure tOk zOk rfl rfl rfl ?_
    refine S.pure tOk zOk rfl rfl rfl ?_
    refine S.pure tOk zOk rfl rfl rfl ?_
    refine S.slice tOk rfl rfl ?_
    refine S.pure tOk zOk rfl rfl rfl ?_
    refine S.pure tOk zOk rfl rfl rfl ?_
    refine thenK_n ?_
    refine W.block ?_
    refine W.rounds 4 ?_
    refine WR.succ ?_
    refine W.seq ?_
    refine W.region ?_
    refine S.pure tOk zOk rfl rfl rfl ?_
    refine thenK_n ?_
    refine W.seq ?_
    refine W.condT rfl rfl ?_
    refine W.skip ?_
    refine thenK_n ?_
    refine W.seq ?_
    refine W.block ?_
    refine W.seq ?_
    refine W.region ?_
    refine S.pure tOk zOk rfl (by first | rfl | exact idx_ok (by omega) (by omega)) rfl ?_
    refine S.pure tOk zOk rfl rfl rfl ?_
    refine S.pure tOk zOk rfl rfl rfl ?_
    refine thenK_n ?_
    refine W.seq ?_
    refine W.region ?_
    refine S.pure tOk zOk rfl rfl rfl ?_
    refine S.call rfl rfl rfl rfl rfl (pc_outref2_In _ _ _) ?_
    refine S.pure tOk zOk rfl rfl rfl ?_
    refine thenK_n ?_
    refine W.cond rfl (fun c3 => ?_) (fun c3 => ?_)
    · skip
      refine W.seq ?_
      refine W.region ?_
      refine S.pure tOk zOk rfl rfl rfl ?_
      refine thenK_n ?_
      refine W.ret ?_
      refine blockK_r ?_
      refine thenK_r ?_
      refine thenK_r ?_
      refine blockK_r ?_
      refine thenK_r ?_
      refine blockK_r ?_
      refine thenK_r ?_
      refine thenK_r ?_
      refine blockK_r ?_
      refine thenK_r ?_
      exact ⟨_, rfl, rfl, LeV.of_eq (congrArg (fun x => V.one (C.d (D.int .i64 x))) (verr_hit hi f0_1 (chk_a c3) (by decide)).symm)⟩
    · skip
      refine W.skip ?_
      refine blockK_n ?_
      refine thenK_n ?_
      refine W.region ?_
      refine S.pure tOk zOk rfl rfl rfl ?_
      refine S.pure tOk zOk rfl rfl rfl ?_
      refine thenK_n ?_
      refine WR.succ ?_
      refine W.seq ?_
      refine W.region ?_
      refine S.pure tOk zOk rfl rfl rfl ?_
      refine thenK_n ?_
      refine W.seq ?_
      refine W.condT rfl rfl ?_
      refine W.skip ?_
      refine thenK_n ?_
      refine W.seq ?_
      refine W.block ?_
      refine W.seq ?_
      refine W.region ?_
      refine S.pure tOk zOk rfl (by first | rfl | exact idx_ok (by omega) (by omega)) rfl ?_
      refine S.pure tOk zOk rfl rfl rfl ?_
      refine S.pure tOk zOk rfl rfl rfl ?_
      refine thenK_n ?_
      refine W.seq ?_
      refine W.region ?_
      refine S.pure tOk zOk rfl rfl rfl ?_
      refine S.call rfl rfl rfl rfl rfl (pc_outref2_In _ _ _) ?_
      refine S.pure tOk zOk rfl rfl rfl ?_
      refine thenK_n ?_
      refine W.cond rfl (fun c5 => ?_) (fun c5 => ?_)
      · skip
        refine W.seq ?_
        refine W.region ?_
        refine S.pure tOk zOk rfl rfl rfl ?_
        refine thenK_n ?_
        refine W.ret ?_
        refine blockK_r ?_
        refine thenK_r ?_
        refine thenK_r ?_
        refine blockK_r ?_
        refine thenK_r ?_
        refine blockK_r ?_
        refine thenK_r ?_
        refine thenK_r ?_
        refine blockK_r ?_
        refine thenK_r ?_
        exact ⟨_, rfl, rfl, LeV.of_eq (congrArg (fun x => V.one (C.d (D.int .i64 x))) (verr_hit hi f0_1 (chk_b c3 c5) (by decide)).symm)⟩
      · skip
        refine W.skip ?_
        refine blockK_n ?_
        refine thenK_n ?_
        refine W.region ?_
        refine S.pure tOk zOk rfl rfl rfl ?_
        refine S.pure tOk zOk rfl rfl rfl ?_
        refine thenK_n ?_
        refine WR.succ ?_
        refine W.seq ?_
        refine W.region ?_
        refine S.pure tOk zOk rfl rfl rfl ?_
        refine thenK_n ?_
        refine W.seq ?_
        refine W.condT rfl rfl ?_
        refine W.skip ?_
        refine thenK_n ?_
        refine W.seq ?_
        refine W.block ?_
        refine W.seq ?_
        refine W.region ?_
        refine S.pure tOk zOk rfl (by first | rfl | exact idx_ok (by omega) (by omega)) rfl ?_
        refine S.pure tOk zOk rfl rfl rfl ?_
        refine S.pure tOk zOk rfl rfl rfl ?_
        refine thenK_n ?_
        refine W.seq ?_
        refine W.region ?_
        refine S.pure tOk zOk rfl rfl rfl ?_
        refine S.call rfl rfl rfl rfl rfl (pc_outref2_In _ _ _) ?_
        refine S.pure tOk zOk rfl rfl rfl ?_
        refine thenK_n ?_
        refine W.cond rfl (fun c7 => ?_) (fun c7 => ?_)
        · skip
          refine W.seq ?_
          refine W.region ?_
          refine S.pure tOk zOk rfl rfl rfl ?_
          refine thenK_n ?_
          refine W.ret ?_
          refine blockK_r ?_
          refine thenK_r ?_
          refine thenK_r ?_
          refine blockK_r ?_
          refine thenK_r ?_
          refine blockK_r ?_
          refine thenK_r ?_
          refine thenK_r ?_
          refine blockK_r ?_
          refine thenK_r ?_
          exact ⟨_, rfl, rfl, LeV.of_eq (congrArg (fun x => V.one (C.d (D.int .i64 x))) (verr_hit hi f0_1 (chk_c c3 c5 c7) (by decide)).symm)⟩
        · skip
          refine W.skip ?_
          refine blockK_n ?_
          refine thenK_n ?_
          refine W.region ?_
          refine S.pure tOk zOk rfl rfl rfl ?_
          refine S.pure tOk zOk rfl rfl rfl ?_
          refine thenK_n ?_
          refine WR.succ ?_
          refine W.seq ?_
          refine W.region ?_
          refine S.pure tOk zOk rfl rfl rfl ?_
          refine thenK_n ?_
          refine W.seq ?_
          refine W.condF rfl rfl ?_
          refine W.exit ?_
          refine thenK_e ?_
          refine thenK_e ?_
          refine blockK_x ?_
          refine thenK_n ?_
          refine W.seq ?_
          refine W.seq ?_
          refine W.region ?_
          refine S.pure tOk zOk rfl rfl rfl ?_
          refine S.pure tOk zOk rfl rfl rfl ?_
          refine S.pure tOk zOk rfl rfl rfl ?_
          refine thenK_n ?_
          refine W.cond rfl (fun c9 => ?_) (fun c9 => ?_)
          · skip
            refine W.exit ?_
            refine thenK_e ?_
            refine blockK_x ?_
            refine thenK_n ?_
            refine W.region ?_
            refine S.pure tOk zOk rfl rfl rfl ?_
            refine S.pure tOk zOk rfl rfl rfl ?_
            refine loop_n (vs.length - (i + 1)) (by omega) ⟨i + 1, hi, all_take_succ (d := 0) (by simpa using hi) f0_1 (verr_go hi (chk_0 c3 c5 c7 c9)), rfl, _, _, rfl, rfl, rfl, inc_i64 (by omega), trivial⟩
          · skip
            refine W.skip ?_
            refine thenK_n ?_
            refine W.seq ?_
            refine W.seq ?_
            refine W.region ?_
            refine S.pure tOk zOk rfl rfl rfl ?_
            refine S.pure tOk zOk rfl rfl rfl ?_
            refine S.pure tOk zOk rfl rfl rfl ?_
            refine S.pure tOk zOk rfl rfl rfl ?_
            refine thenK_n ?_
            refine W.cond rfl (fun c10 => ?_) (fun c10 => ?_)
            · skip
              refine W.seq ?_
              refine W.region ?_
              refine S.pure tOk zOk rfl rfl rfl ?_
              refine thenK_n ?_
              refine W.ret ?_
              refine thenK_r ?_
              refine blockK_r ?_
              refine thenK_r ?_
              refine thenK_r ?_
              refine blockK_r ?_
              refine thenK_r ?_
              exact ⟨_, rfl, rfl, LeV.of_eq (congrArg (fun x => V.one (C.d (D.int .i64 x))) (verr_hit hi f0_1 (chk_len c3 c5 c7 c9 c10) (by decide)).symm)⟩
            · skip
              refine W.skip ?_
              refine thenK_n ?_
              refine W.seq ?_
              refine W.region ?_
              refine S.pure tOk zOk rfl rfl rfl ?_
              refine S.pure tOk zOk rfl rfl rfl ?_
              refine S.call rfl rfl rfl rfl rfl (pc_Split _ _ hei (by decide)) ?_
              refine S.pure tOk zOk rfl rfl rfl ?_
              refine S.pure tOk zOk rfl rfl rfl ?_
              refine thenK_n ?_
              refine W.block ?_
              refine W.loop (fun k st => ∃ j : Nat, j ≤ (Lib.split (vs.getD i Ver.z).e [46]).length ∧ ((Lib.split (vs.getD i Ver.z).e [46]).take j).all wordB = true ∧ k = (Lib.split (vs.getD i Ver.z).e [46]).length - j ∧ ∃ t b2, st = ⟨t, [(verD (vs.getD i Ver.z)).map .d] ++ b2, [], []⟩ ∧ holdsL t [(9, .one (.d (.vec 4 (vs.map verD)))), (10, .one (.d (.int .i64 ((vs.map verD).length : Int)))), (11, .one (.d (.int .i64 (i : Int)))), (40, .one (.d (.vec 1 ((Lib.split (vs.getD i Ver.z).e [46]).map fun x => [.str x])))), (41, .one (.d (.int .i64 (((Lib.split (vs.getD i Ver.z).e [46]).map fun x => [D.str x]).length : Int)))), (42, .one (.d (.int .i64 (j : Int))))]) ((Lib.split (vs.getD i Ver.z).e [46]).length) ⟨0, Nat.zero_le _, by simp, rfl, _, _, rfl, rfl, rfl, rfl, rfl, rfl, rfl, trivial⟩ ?_
              rintro k4 _ ⟨j, f4_0, f4_1, rfl, t4, bb4, rfl, hh4⟩
              refine W.keepD _ _ _ hh4 rfl ?_
              refine W.seq ?_
              refine W.region ?_
              refine S.pure tOk zOk rfl rfl rfl ?_
              refine thenK_n ?_
              refine W.seq ?_
              refine W.cond rfl (fun c11 => ?_) (fun c11 => ?_)
              · skip
                have hj := row_lt c11
                refine W.skip ?_
                refine thenK_n ?_
                refine W.seq ?_
                refine W.block ?_
                refine W.seq ?_
                refine W.region ?_
                refine S.pureE tOk zOk rfl (row_ok hj) (row_at [] hj) rfl ?_
                refine S.pure tOk zOk rfl rfl rfl ?_
                refine S.pure tOk zOk rfl rfl rfl ?_
                refine thenK_n ?_
                refine W.seq ?_
                refine W.region ?_
                refine S.pure tOk zOk rfl rfl rfl ?_
                refine S.pure tOk zOk rfl rfl rfl ?_
                refine S.pure tOk zOk rfl rfl rfl ?_
                refine S.pureG tOk zOk rfl rfl (by repeat first | exact allT_nil | refine allT_cons (fun h => h) ?_ | refine allT_cons (fun h => andl h) ?_ | refine allT_cons (fun h => andl (andl h)) ?_ | refine allT_cons (fun _ => rfl) ?_) (fun _ => rfl) rfl ?_
                refine S.pureG tOk zOk rfl rfl (by repeat first | exact allT_nil | refine allT_cons (fun h => h) ?_ | refine allT_cons (fun h => andl h) ?_ | refine allT_cons (fun h => andl (andl h)) ?_ | refine allT_cons (fun _ => rfl) ?_) (fun _ => rfl) rfl ?_
                refine S.pureG tOk zOk rfl rfl (by repeat first | exact allT_nil | refine allT_cons (fun h => h) ?_ | refine allT_cons (fun h => andl h) ?_ | refine allT_cons (fun h => andl (andl h)) ?_ | refine allT_cons (fun _ => rfl) ?_) (fun _ => rfl) rfl ?_
                refine S.pickOr tOk zOk rfl rfl (by repeat first | exact allT_nil | refine allT_cons (fun h => h) ?_ | refine allT_cons (fun h => andl h) ?_ | refine allT_cons (fun h => andl (andl h)) ?_ | refine allT_cons (fun _ => rfl) ?_) ?_
                refine S.pure tOk zOk rfl rfl rfl ?_
                refine S.pureG tOk zOk rfl rfl (by repeat first | exact allT_nil | refine allT_cons (fun h => h) ?_ | refine allT_cons (fun h => andl h) ?_ | refine allT_cons (fun h => andl (andl h)) ?_ | refine allT_cons (fun _ => rfl) ?_) (fun _ => rfl) rfl ?_
                refine S.callG rfl rfl rfl rfl (by repeat first | exact allT_nil | refine allT_cons (fun h => h) ?_ | refine allT_cons (fun h => andl h) ?_ | refine allT_cons (fun h => andl (andl h)) ?_ | refine allT_cons (fun _ => rfl) ?_) rfl rfl (fun _ => pc_outref2_Of _ smallDigitS (by decide) (by decide) (by have := hsm j; omega)) ?_
                refine S.pureG tOk zOk rfl rfl (by repeat first | exact allT_nil | refine allT_cons (fun h => h) ?_ | refine allT_cons (fun h => andl h) ?_ | refine allT_cons (fun h => andl (andl h)) ?_ | refine allT_cons (fun _ => rfl) ?_) (fun _ => rfl) rfl ?_
                refine S.pickOr tOk zOk rfl rfl (by repeat first | exact allT_nil | refine allT_cons (fun h => h) ?_ | refine allT_cons (fun h => andl h) ?_ | refine allT_cons (fun h => andl (andl h)) ?_ | refine allT_cons (fun _ => rfl) ?_) ?_
                refine S.pure tOk zOk rfl rfl rfl ?_
                refine S.pureG tOk zOk rfl rfl (by repeat first | exact allT_nil | refine allT_cons (fun h => h) ?_ | refine allT_cons (fun h => andl h) ?_ | refine allT_cons (fun h => andl (andl h)) ?_ | refine allT_cons (fun _ => rfl) ?_) (fun _ => rfl) rfl ?_
                refine S.callG rfl rfl rfl rfl (by repeat first | exact allT_nil | refine allT_cons (fun h => h) ?_ | refine allT_cons (fun h => andl h) ?_ | refine allT_cons (fun h => andl (andl h)) ?_ | refine allT_cons (fun _ => rfl) ?_) rfl rfl (fun _ => pc_outref2_Of _ digitS (by decide) (by decide) (by have := hsm j; omega)) ?_
                refine S.pureG tOk zOk rfl rfl (by repeat first | exact allT_nil | refine allT_cons (fun h => h) ?_ | refine allT_cons (fun h => andl h) ?_ | refine allT_cons (fun h => andl (andl h)) ?_ | refine allT_cons (fun _ => rfl) ?_) (fun _ => rfl) rfl ?_
                refine S.pureG tOk zOk rfl rfl (by repeat first | exact allT_nil | refine allT_cons (fun h => h) ?_ | refine allT_cons (fun h => andl h) ?_ | refine allT_cons (fun h => andl (andl h)) ?_ | refine allT_cons (fun _ => rfl) ?_) (fun _ => rfl) rfl ?_
                refine S.pureG tOk zOk rfl rfl (by repeat first | exact allT_nil | refine allT_cons (fun h => h) ?_ | refine allT_cons (fun h => andl h) ?_ | refine allT_cons (fun h => andl (andl h)) ?_ | refine allT_cons (fun _ => rfl) ?_) (fun _ => rfl) rfl ?_
                refine S.pureG tOk zOk rfl rfl (by repeat first | exact allT_nil | refine allT_cons (fun h => h) ?_ | refine allT_cons (fun h => andl h) ?_ | refine allT_cons (fun h => andl (andl h)) ?_ | refine allT_cons (fun _ => rfl) ?_) (fun _ => rfl) rfl ?_
                refine S.pickAndG tOk zOk rfl rfl rfl (by repeat first | exact allT_nil | refine allT_cons (fun h => h) ?_ | refine allT_cons (fun h => andl h) ?_ | refine allT_cons (fun h => andl (andl h)) ?_ | refine allT_cons (fun _ => rfl) ?_) (by repeat first | exact allT_nil | refine allT_cons (fun h => h) ?_ | refine allT_cons (fun h => andl h) ?_ | refine allT_cons (fun h => andl (andl h)) ?_ | refine allT_cons (fun _ => rfl) ?_) ?_
                refine S.pureG tOk zOk rfl rfl (by repeat first | exact allT_nil | refine allT_cons (fun h => h) ?_ | refine allT_cons (fun h => andl h) ?_ | refine allT_cons (fun h => andl (andl h)) ?_ | refine allT_cons (fun _ => rfl) ?_) (fun _ => rfl) rfl ?_
                refine S.pureG tOk zOk rfl rfl (by repeat first | exact allT_nil | refine allT_cons (fun h => h) ?_ | refine allT_cons (fun h => andl h) ?_ | refine allT_cons (fun h => andl (andl h)) ?_ | refine allT_cons (fun _ => rfl) ?_) (fun _ => rfl) rfl ?_
                refine S.pureG tOk zOk rfl rfl (by repeat first | exact allT_nil | refine allT_cons (fun h => h) ?_ | refine allT_cons (fun h => andl h) ?_ | refine allT_cons (fun h => andl (andl h)) ?_ | refine allT_cons (fun _ => rfl) ?_) (fun h => idx_ok (Int.le_refl _) (gt1 (andr (andr h)))) rfl ?_
                refine S.pureG tOk zOk rfl rfl (by repeat first | exact allT_nil | refine allT_cons (fun h => h) ?_ | refine allT_cons (fun h => andl h) ?_ | refine allT_cons (fun h => andl (andl h)) ?_ | refine allT_cons (fun _ => rfl) ?_) (fun _ => rfl) rfl ?_
                refine S.pickAndG tOk zOk rfl rfl rfl (by repeat first | exact allT_nil | refine allT_cons (fun h => h) ?_ | refine allT_cons (fun h => andl h) ?_ | refine allT_cons (fun h => andl (andl h)) ?_ | refine allT_cons (fun _ => rfl) ?_) (by repeat first | exact allT_nil | refine allT_cons (fun h => h) ?_ | refine allT_cons (fun h => andl h) ?_ | refine allT_cons (fun h => andl (andl h)) ?_ | refine allT_cons (fun _ => rfl) ?_) ?_
                refine S.pickOr tOk zOk rfl rfl (by repeat first | exact allT_nil | refine allT_cons (fun h => h) ?_ | refine allT_cons (fun h => andl h) ?_ | refine allT_cons (fun h => andl (andl h)) ?_ | refine allT_cons (fun _ => rfl) ?_) ?_
                refine thenK_n ?_
                refine W.cond rfl (fun c12 => ?_) (fun c12 => ?_)
                · skip
                  refine W.seq ?_
                  refine W.region ?_
                  refine S.pure tOk zOk rfl rfl rfl ?_
                  refine thenK_n ?_
                  refine W.ret ?_
                  refine blockK_r ?_
                  refine thenK_r ?_
                  refine thenK_r ?_
                  refine blockK_r ?_
                  refine blockK_r ?_
                  refine thenK_r ?_
                  refine thenK_r ?_
                  refine blockK_r ?_
                  refine thenK_r ?_
                  exact ⟨_, rfl, rfl, LeV.of_eq (congrArg (fun x => V.one (C.d (D.int .i64 x))) (verr_hit hi f0_1 (chk_word c3 c5 c7 c9 hj (word_f' c12)) (by decide)).symm)⟩
                · skip
                  refine W.skip ?_
                  refine blockK_n ?_
                  refine thenK_n ?_
                  refine W.region ?_
                  refine S.pure tOk zOk rfl rfl rfl ?_
                  refine S.pure tOk zOk rfl rfl rfl ?_
                  refine loop_n ((Lib.split (vs.getD i Ver.z).e [46]).length - (j + 1)) (by omega) ⟨j + 1, hj, all_take_succ (d := []) hj f4_1 (word_t' c12), rfl, _, _, rfl, rfl, rfl, rfl, rfl, rfl, inc_i64 (by omega), trivial⟩
              · skip
                have hj := row_ge c11
                refine W.exit ?_
                refine thenK_e ?_
                refine thenK_e ?_
                refine blockK_x ?_
                refine blockK_n ?_
                refine thenK_n ?_
                refine W.region ?_
                refine S.pure tOk zOk rfl rfl rfl ?_
                refine S.pure tOk zOk rfl rfl rfl ?_
                refine loop_n (vs.length - (i + 1)) (by omega) ⟨i + 1, hi, all_take_succ (d := 0) (by simpa using hi) f0_1 (verr_go hi (chk_ok c3 c5 c7 c9 (le_of c10) hj f4_1)), rfl, _, _, rfl, rfl, rfl, inc_i64 (by omega), trivial⟩
  · skip
    have hi := row_ge c1
    refine W.exit ?_
    refine thenK_e ?_
    refine thenK_e ?_
    refine blockK_x ?_
    refine thenK_n ?_
    refine W.seq ?_
    refine W.region ?_
    refine S.pure tOk zOk rfl rfl rfl ?_
    refine thenK_n ?_
    refine W.ret ?_
    exact ⟨_, rfl, rfl, LeV.of_eq (congrArg (fun x => V.one (C.d (D.int .i64 x))) (firstNe_none (by simpa using hi) f0_1).symm)⟩

theorem pc_outref2_CompareOf (v w : Ver) (hv : v.e.length < 4294967281) (hw : w.e.length < 4294967281) :
    PureCall Tryz.prog J 30 [verV v, verV w] (.one (.d (.int .i64 (compareR v w)))) := by
  have hl := split_le v.e [46]
  have hl2 := split_le w.e [46]
  refine PureCall.of_body tOk (fn := Tryz.f30) Tryz.func30 (by kernel_rfl) rfl (Nat.le_of_ble_eq_true rfl) (fun E => ?_)
  refine W.seq ?_
  refine W.region ?_
  refine S.box rfl rfl rfl rfl ?_
  refine S.box rfl rfl rfl rfl ?_
  refine S.pure tOk zOk rfl rfl rfl ?_
  refine thenK_n ?_
  refine W.seq ?_
  refine W.seq ?_
  refine W.regionD mixed (by kernel_rfl) ?_
  refine D.pure tOk zOk rfl rfl rfl rfl ?_
  refine D.pure tOk zOk rfl rfl rfl rfl ?_
  refine D.pure tOk zOk rfl rfl rfl rfl ?_
  refine D.pure tOk zOk rfl rfl rfl rfl ?_
  refine D.call rfl rfl rfl rfl rfl (pc_cmpInt _ _) ?_
  refine D.pure tOk zOk rfl rfl rfl rfl ?_
  refine D.pure tOk zOk rfl rfl rfl rfl ?_
  refine D.pure tOk zOk rfl rfl rfl rfl ?_
  refine D.pure tOk zOk rfl rfl rfl rfl ?_
  refine D.call rfl rfl rfl rfl rfl (pc_cmpInt _ _) ?_
  refine D.pure tOk zOk rfl rfl rfl rfl ?_
  refine D.pure tOk zOk rfl rfl rfl rfl ?_
  refine D.pure tOk zOk rfl rfl rfl rfl ?_
  refine D.pure tOk zOk rfl rfl rfl rfl ?_
  refine D.call rfl rfl rfl rfl rfl (pc_cmpInt _ _) ?_
  refine D.slice tOk rfl rfl ?_
  refine D.call rfl rfl rfl rfl rfl (pc_cmp_Or_int_ [_, _, _] (by simp)) ?_
  refine D.pure tOk zOk rfl rfl rfl rfl ?_
  refine thenK_n ?_
  refine W.seq ?_
  refine W.region ?_
  refine S.pure tOk zOk rfl rfl rfl ?_
  refine S.pure tOk zOk rfl rfl rfl ?_
  refine thenK_n ?_
  refine W.cond rfl (fun c1 => ?_) (fun c1 => ?_)
  · skip
    refine W.seq ?_
    refine W.region ?_
    refine S.pure tOk zOk rfl rfl rfl ?_
    refine S.pure tOk zOk rfl rfl rfl ?_
    refine thenK_n ?_
    refine W.ret ?_
    refine thenK_r ?_
    exact ⟨_, rfl, rfl, LeV.of_eq (congrArg (fun x => V.one (C.d (D.int .i64 x))) (cmp_1 c1).symm)⟩
  · skip
    refine W.skip ?_
    refine thenK_n ?_
    refine W.seq ?_
    refine W.seq ?_
    refine W.region ?_
    refine S.pure tOk zOk rfl rfl rfl ?_
    refine S.pure tOk zOk rfl rfl rfl ?_
    refine S.pure tOk zOk rfl rfl rfl ?_
    refine S.pure tOk zOk rfl rfl rfl ?_
    refine S.pureG tOk zOk rfl rfl (by repeat first | exact allT_nil | refine allT_cons (fun h => h) ?_ | refine allT_cons (fun h => andl h) ?_ | refine allT_cons (fun h => andl (andl h)) ?_ | refine allT_cons (fun _ => rfl) ?_) (fun _ => rfl) rfl ?_
    refine S.pureG tOk zOk rfl rfl (by repeat first | exact allT_nil | refine allT_cons (fun h => h) ?_ | refine allT_cons (fun h => andl h) ?_ | refine allT_cons (fun h => andl (andl h)) ?_ | refine allT_cons (fun _ => rfl) ?_) (fun _ => rfl) rfl ?_
    refine S.pureG tOk zOk rfl rfl (by repeat first | exact allT_nil | refine allT_cons (fun h => h) ?_ | refine allT_cons (fun h => andl h) ?_ | refine allT_cons (fun h => andl (andl h)) ?_ | refine allT_cons (fun _ => rfl) ?_) (fun _ => rfl) rfl ?_
    refine S.pickOr tOk zOk rfl rfl (by repeat first | exact allT_nil | refine allT_cons (fun h => h) ?_ | refine allT_cons (fun h => andl h) ?_ | refine allT_cons (fun h => andl (andl h)) ?_ | refine allT_cons (fun _ => rfl) ?_) ?_
    refine thenK_n ?_
    refine W.cond rfl (fun c2 => ?_) (fun c2 => ?_)
    · skip
      refine W.seq ?_
      refine W.region ?_
      refine S.pure tOk zOk rfl rfl rfl ?_
      refine S.pure tOk zOk rfl rfl rfl ?_
      refine S.pure tOk zOk rfl rfl rfl ?_
      refine S.pure tOk zOk rfl rfl rfl ?_
      refine S.pure tOk zOk rfl rfl rfl ?_
      refine S.pure tOk zOk rfl rfl rfl ?_
      refine S.pure tOk zOk rfl rfl rfl ?_
      refine S.pure tOk zOk rfl rfl rfl ?_
      refine S.call rfl rfl rfl rfl rfl (pc_cmpInt _ _) ?_
      refine S.pure tOk zOk rfl rfl rfl ?_
      refine thenK_n ?_
      refine W.ret ?_
      refine thenK_r ?_
      exact ⟨_, rfl, rfl, LeV.of_eq (congrArg (fun x => V.one (C.d (D.int .i64 x))) (cmp_2 c1 c2).symm)⟩
    · skip
      refine W.skip ?_
      refine thenK_n ?_
      refine W.seq ?_
      refine W.regionD mixed (by kernel_rfl) ?_
      refine D.pure tOk zOk rfl rfl rfl rfl ?_
      refine D.pure tOk zOk rfl rfl rfl rfl ?_
      refine D.call rfl rfl rfl rfl rfl (pc_Split _ _ hv (by decide)) ?_
      refine D.pure tOk zOk rfl rfl rfl rfl ?_
      refine D.pure tOk zOk rfl rfl rfl rfl ?_
      refine D.call rfl rfl rfl rfl rfl (pc_Split _ _ hw (by decide)) ?_
      refine D.pure tOk zOk rfl rfl rfl rfl ?_
      refine D.pure tOk zOk rfl rfl rfl rfl ?_
      refine thenK_n ?_
      refine W.seq ?_
      refine W.seq ?_
      refine W.region ?_
      refine S.pure tOk zOk rfl rfl rfl ?_
      refine S.pure tOk zOk rfl rfl rfl ?_
      refine S.pure tOk zOk rfl rfl rfl ?_
      refine S.pure tOk zOk rfl rfl rfl ?_
      refine S.pure tOk zOk rfl rfl rfl ?_
      refine S.pure tOk zOk rfl rfl rfl ?_
      refine thenK_n ?_
      refine W.block ?_
      refine W.loop (fun k st => ∃ i : Nat, i ≤ (Lib.split v.e [46]).length ∧ ((List.zipWith cwR (Lib.split v.e [46]) (Lib.split w.e [46])).take i).all (· == 0) = true ∧ k = (Lib.split v.e [46]).length - i ∧ ∃ t b2, st = ⟨t, [] ++ b2, [], []⟩ ∧ holdsL t [(6, .one (.d (.vec 1 ((Lib.split v.e [46]).map fun x => [.str x])))), (7, .one (.d (.vec 1 ((Lib.split w.e [46]).map fun x => [.str x])))), (63, .one (.d (.int .i64 (if (((Lib.split w.e [46]).map fun x => [D.str x]).length : Int) < (((Lib.split v.e [46]).map fun x => [D.str x]).length : Int) then (((Lib.split w.e [46]).map fun x => [D.str x]).length : Int) else (((Lib.split v.e [46]).map fun x => [D.str x]).length : Int))))), (64, .one (.d (.int .i64 (i : Int))))]) ((Lib.split v.e [46]).length) ⟨0, Nat.zero_le _, by simp, rfl, _, _, rfl, rfl, rfl, rfl, rfl, trivial⟩ ?_
      rintro k0 _ ⟨i, f0_0, f0_1, rfl, t0, bb0, rfl, hh0⟩
      refine W.keepD _ _ _ hh0 rfl ?_
      refine W.seq ?_
      refine W.region ?_
      refine S.pure tOk zOk rfl rfl rfl ?_
      refine thenK_n ?_
      refine W.seq ?_
      refine W.cond rfl (fun c3 => ?_) (fun c3 => ?_)
      · skip
        have hi := min_lt (xs := (Lib.split v.e [46])) (ys := (Lib.split w.e [46])) (by simp) (by simp) c3
        refine W.skip ?_
        refine thenK_n ?_
        refine W.seq ?_
        refine W.block ?_
        refine W.seq ?_
        refine W.region ?_
        refine S.pure tOk zOk rfl rfl rfl ?_
        refine S.pure tOk zOk rfl rfl rfl ?_
        refine thenK_n ?_
        refine W.seq ?_
        refine W.regionD mixed (by kernel_rfl) ?_
        refine D.pure tOk zOk rfl rfl rfl rfl ?_
        refine D.pure tOk zOk rfl rfl rfl rfl ?_
        refine D.pureE tOk zOk rfl rfl (row_ok hi.1) (row_at [] hi.1) rfl ?_
        refine D.pure tOk zOk rfl rfl rfl rfl ?_
        refine D.call rfl rfl rfl rfl rfl (pc_outref2_Of _ digitS (by decide) (by decide) (by have := @split_at v.e [46] i; omega)) ?_
        refine D.pure tOk zOk rfl rfl rfl rfl ?_
        refine D.pure tOk zOk rfl rfl rfl rfl ?_
        refine D.pureE tOk zOk rfl rfl (row_ok hi.2) (row_at [] hi.2) rfl ?_
        refine D.pure tOk zOk rfl rfl rfl rfl ?_
        refine D.call rfl rfl rfl rfl rfl (pc_outref2_Of _ digitS (by decide) (by decide) (by have := @split_at w.e [46] i; omega)) ?_
        refine D.pure tOk zOk rfl rfl rfl rfl ?_
        refine D.pure tOk zOk rfl rfl rfl rfl ?_
        refine thenK_n ?_
        refine W.seq ?_
        refine W.region ?_
        refine S.pure tOk zOk rfl rfl rfl ?_
        refine S.pure tOk zOk rfl rfl rfl ?_
        refine S.pureE tOk zOk rfl (row_ok hi.1) (row_at [] hi.1) rfl ?_
        refine S.pure tOk zOk rfl rfl rfl ?_
        refine S.call rfl rfl rfl rfl rfl (pc_Atoi _ (by have := @split_at v.e [46] i; omega)) ?_
        refine S.pure tOk zOk rfl rfl rfl ?_
        refine S.pure tOk zOk rfl rfl rfl ?_
        refine S.pure tOk zOk rfl rfl rfl ?_
        refine S.pure tOk zOk rfl rfl rfl ?_
        refine S.pure tOk zOk rfl rfl rfl ?_
        refine thenK_n ?_
        refine W.seq ?_
        refine W.region ?_
        refine S.pure tOk zOk rfl rfl rfl ?_
        refine S.pure tOk zOk rfl rfl rfl ?_
        refine S.pureE tOk zOk rfl (row_ok hi.2) (row_at [] hi.2) rfl ?_
        refine S.pure tOk zOk rfl rfl rfl ?_
        refine S.call rfl rfl rfl rfl rfl (pc_Atoi _ (by have := @split_at w.e [46] i; omega)) ?_
        refine S.pure tOk zOk rfl rfl rfl ?_
        refine S.pure tOk zOk rfl rfl rfl ?_
        refine S.pure tOk zOk rfl rfl rfl ?_
        refine S.pure tOk zOk rfl rfl rfl ?_
        refine S.pure tOk zOk rfl rfl rfl ?_
        refine thenK_n ?_
        refine W.seq ?_
        refine W.regionD mixed (by kernel_rfl) ?_
        refine D.pure tOk zOk rfl rfl rfl rfl ?_
        refine D.pure tOk zOk rfl rfl rfl rfl ?_
        refine D.pureE tOk zOk rfl rfl (row_ok hi.1) (row_at [] hi.1) rfl ?_
        refine D.pure tOk zOk rfl rfl rfl rfl ?_
        refine D.pure tOk zOk rfl rfl rfl rfl ?_
        refine D.pure tOk zOk rfl rfl rfl rfl ?_
        refine D.pureE tOk zOk rfl rfl (row_ok hi.2) (row_at [] hi.2) rfl ?_
        refine D.pure tOk zOk rfl rfl rfl rfl ?_
        refine D.call rfl rfl rfl rfl rfl (pc_Compare _ _) ?_
        refine D.pure tOk zOk rfl rfl rfl rfl ?_
        refine thenK_n ?_
        refine W.seq ?_
        refine W.block ?_
        refine W.seq ?_
        refine W.region ?_
        refine S.pure tOk zOk rfl rfl rfl ?_
        refine S.pure tOk zOk rfl rfl rfl ?_
        refine S.pureG tOk zOk rfl rfl (by repeat first | exact allT_nil | refine allT_cons (fun h => h) ?_ | refine allT_cons (fun h => andl h) ?_ | refine allT_cons (fun h => andl (andl h)) ?_ | refine allT_cons (fun _ => rfl) ?_) (fun _ => rfl) rfl ?_
        refine S.pickAnd tOk zOk rfl rfl (by repeat first | exact allT_nil | refine allT_cons (fun h => h) ?_ | refine allT_cons (fun h => andl h) ?_ | refine allT_cons (fun h => andl (andl h)) ?_ | refine allT_cons (fun _ => rfl) ?_) ?_
        refine S.pure tOk zOk rfl rfl rfl ?_
        refine thenK_n ?_
        refine W.cond rfl (fun c4 => ?_) (fun c4 => ?_)
        · skip
          refine W.region ?_
          refine S.pure tOk zOk rfl rfl rfl ?_
          refine S.pure tOk zOk rfl rfl rfl ?_
          refine S.call rfl rfl rfl rfl rfl (pc_cmpInt _ _) ?_
          refine S.pure tOk zOk rfl rfl rfl ?_
          refine blockK_n ?_
          refine thenK_n ?_
          refine W.seq ?_
          refine W.region ?_
          refine S.pure tOk zOk rfl rfl rfl ?_
          refine S.pure tOk zOk rfl rfl rfl ?_
          refine thenK_n ?_
          refine W.cond rfl (fun c5 => ?_) (fun c5 => ?_)
          · skip
            refine W.seq ?_
            refine W.region ?_
            refine S.pure tOk zOk rfl rfl rfl ?_
            refine S.pure tOk zOk rfl rfl rfl ?_
            refine thenK_n ?_
            refine W.ret ?_
            refine blockK_r ?_
            refine thenK_r ?_
            refine thenK_r ?_
            refine blockK_r ?_
            refine thenK_r ?_
            exact ⟨_, rfl, rfl, LeV.of_eq (congrArg (fun x => V.one (C.d (D.int .i64 x))) ((cmp_3 c1 c2).trans (cw_hit hi f0_1 (cw_pq c4) c5)).symm)⟩
          · skip
            refine W.skip ?_
            refine blockK_n ?_
            refine thenK_n ?_
            refine W.region ?_
            refine S.pure tOk zOk rfl rfl rfl ?_
            refine S.pure tOk zOk rfl rfl rfl ?_
            refine loop_n ((Lib.split v.e [46]).length - (i + 1)) (by omega) ⟨i + 1, by omega, all_take_succ (d := 0) (cw_lt hi) f0_1 (cw_go hi (cw_pq c4) c5), rfl, _, _, rfl, rfl, rfl, rfl, inc_i64 (by omega), trivial⟩
        · skip
          refine W.seq ?_
          refine W.region ?_
          refine S.pure tOk zOk rfl rfl rfl ?_
          refine S.pure tOk zOk rfl rfl rfl ?_
          refine thenK_n ?_
          refine W.cond rfl (fun c6 => ?_) (fun c6 => ?_)
          · skip
            refine W.region ?_
            refine S.pure tOk zOk rfl rfl rfl ?_
            refine blockK_n ?_
            refine thenK_n ?_
            refine W.seq ?_
            refine W.region ?_
            refine S.pure tOk zOk rfl rfl rfl ?_
            refine S.pure tOk zOk rfl rfl rfl ?_
            refine thenK_n ?_
            refine W.cond rfl (fun c7 => ?_) (fun c7 => ?_)
            · skip
              refine W.seq ?_
              refine W.region ?_
              refine S.pure tOk zOk rfl rfl rfl ?_
              refine S.pure tOk zOk rfl rfl rfl ?_
              refine thenK_n ?_
              refine W.ret ?_
              refine blockK_r ?_
              refine thenK_r ?_
              refine thenK_r ?_
              refine blockK_r ?_
              refine thenK_r ?_
              exact ⟨_, rfl, rfl, LeV.of_eq (congrArg (fun x => V.one (C.d (D.int .i64 x))) ((cmp_3 c1 c2).trans (cw_hit hi f0_1 (cw_p c4 c6) c7)).symm)⟩
            · skip
              refine W.skip ?_
              refine blockK_n ?_
              refine thenK_n ?_
              refine W.region ?_
              refine S.pure tOk zOk rfl rfl rfl ?_
              refine S.pure tOk zOk rfl rfl rfl ?_
              refine loop_n ((Lib.split v.e [46]).length - (i + 1)) (by omega) ⟨i + 1, by omega, all_take_succ (d := 0) (cw_lt hi) f0_1 (cw_go hi (cw_p c4 c6) c7), rfl, _, _, rfl, rfl, rfl, rfl, inc_i64 (by omega), trivial⟩
          · skip
            refine W.seq ?_
            refine W.region ?_
            refine S.pure tOk zOk rfl rfl rfl ?_
            refine S.pure tOk zOk rfl rfl rfl ?_
            refine thenK_n ?_
            refine W.cond rfl (fun c8 => ?_) (fun c8 => ?_)
            · skip
              refine W.region ?_
              refine S.pure tOk zOk rfl rfl rfl ?_
              refine blockK_n ?_
              refine thenK_n ?_
              refine W.seq ?_
              refine W.region ?_
              refine S.pure tOk zOk rfl rfl rfl ?_
              refine S.pure tOk zOk rfl rfl rfl ?_
              refine thenK_n ?_
              refine W.cond rfl (fun c9 => ?_) (fun c9 => ?_)
              · skip
                refine W.seq ?_
                refine W.region ?_
                refine S.pure tOk zOk rfl rfl rfl ?_
                refine S.pure tOk zOk rfl rfl rfl ?_
                refine thenK_n ?_
                refine W.ret ?_
                refine blockK_r ?_
                refine thenK_r ?_
                refine thenK_r ?_
                refine blockK_r ?_
                refine thenK_r ?_
                exact ⟨_, rfl, rfl, LeV.of_eq (congrArg (fun x => V.one (C.d (D.int .i64 x))) ((cmp_3 c1 c2).trans (cw_hit hi f0_1 (cw_q c4 c6 c8) c9)).symm)⟩
              · skip
                refine W.skip ?_
                refine blockK_n ?_
                refine thenK_n ?_
                refine W.region ?_
                refine S.pure tOk zOk rfl rfl rfl ?_
                refine S.pure tOk zOk rfl rfl rfl ?_
                refine loop_n ((Lib.split v.e [46]).length - (i + 1)) (by omega) ⟨i + 1, by omega, all_take_succ (d := 0) (cw_lt hi) f0_1 (cw_go hi (cw_q c4 c6 c8) c9), rfl, _, _, rfl, rfl, rfl, rfl, inc_i64 (by omega), trivial⟩
            · skip
              refine W.skip ?_
              refine blockK_n ?_
              refine thenK_n ?_
              refine W.seq ?_
              refine W.region ?_
              refine S.pure tOk zOk rfl rfl rfl ?_
              refine S.pure tOk zOk rfl rfl rfl ?_
              refine thenK_n ?_
              refine W.cond rfl (fun c10 => ?_) (fun c10 => ?_)
              · skip
                refine W.seq ?_
                refine W.region ?_
                refine S.pure tOk zOk rfl rfl rfl ?_
                refine S.pure tOk zOk rfl rfl rfl ?_
                refine thenK_n ?_
                refine W.ret ?_
                refine blockK_r ?_
                refine thenK_r ?_
                refine thenK_r ?_
                refine blockK_r ?_
                refine thenK_r ?_
                exact ⟨_, rfl, rfl, LeV.of_eq (congrArg (fun x => V.one (C.d (D.int .i64 x))) ((cmp_3 c1 c2).trans (cw_hit hi f0_1 (cw_n c4 c6 c8) c10)).symm)⟩
              · skip
                refine W.skip ?_
                refine blockK_n ?_
                refine thenK_n ?_
                refine W.region ?_
                refine S.pure tOk zOk rfl rfl rfl ?_
                refine S.pure tOk zOk rfl rfl rfl ?_
                refine loop_n ((Lib.split v.e [46]).length - (i + 1)) (by omega) ⟨i + 1, by omega, all_take_succ (d := 0) (cw_lt hi) f0_1 (cw_go hi (cw_n c4 c6 c8) c10), rfl, _, _, rfl, rfl, rfl, rfl, inc_i64 (by omega), trivial⟩
      · skip
        have hi := min_ge (xs := (Lib.split v.e [46])) (ys := (Lib.split w.e [46])) (by simp) (by simp) c3
        refine W.exit ?_
        refine thenK_e ?_
        refine thenK_e ?_
        refine blockK_x ?_
        refine thenK_n ?_
        refine W.seq ?_
        refine W.region ?_
        refine S.pure tOk zOk rfl rfl rfl ?_
        refine S.pure tOk zOk rfl rfl rfl ?_
        refine S.pure tOk zOk rfl rfl rfl ?_
        refine S.pure tOk zOk rfl rfl rfl ?_
        refine S.call rfl rfl rfl rfl rfl (pc_cmpInt _ _) ?_
        refine S.pure tOk zOk rfl rfl rfl ?_
        refine thenK_n ?_
        refine W.ret ?_
        exact ⟨_, rfl, rfl, LeV.of_force rfl (by rw [(cmp_3 c1 c2).trans (cw_end hi f0_1)]; simp)⟩

end Go.Proofs.YtepdjimbnbiicaaGreatDoor
