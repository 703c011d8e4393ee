/- RangesPrint: where what it reads is of bulk at most 1048576, it returns true, and what it was given reads as it did. -/
import Derived.Test.YtnphejkeflngcaaGreatDoorRows
import Derived.Lib.LaidTab
import Derived.Carry
import Derived.ChangeSame
import Derived.OpenVars
import Derived.OpenShut
import Derived.WalkKit
import Derived.ProofKit
import Derived.Deep.DeepHandedRow
import Derived.Test.YtnphejkeflngcaaGreatDoorCards
import Derived.Test.YtnphejkeflngcaaGreatDoorTie
import Derived.Lib.LaidU8
import Derived.Shelf.Vars
import Derived.Deep.DeepLaidRun
import Derived.Test.YtnphejkeflngcaaGreatDoorMCRangesPrint2
set_option linter.unusedVariables false
set_option linter.unusedSimpArgs false
set_option maxRecDepth 100000
set_option maxHeartbeats 4000000
namespace Go.Proofs.YtnphejkeflngcaaGreatDoor
open Go
open Go.RowKit

theorem pc_verr2 (v w : Ver) (hv : v.e.length < 4294967281) (hw : w.e.length < 4294967281) : PureCall Tryz.prog J 20 [.one (.d (.vec 4 [verD v, verD w]))] (.one (.d (.int .i64 (firstB v.check w.check)))) := by
  have h := pc_outref2_VersionError [v, w] (by simp) (by intro u hu; simp at hu; rcases hu with rfl | rfl <;> assumption)
  rw [show firstNe ([v, w].map Ver.check) = firstB v.check w.check from first2 _ _] at h
  exact h

theorem pc_outref2_RangeError (ss : List Sp) (hl : ss.length ≤ 1000000000) (hv : ∀ s ∈ ss, SpLen s) :
    PureCall Tryz.prog J 9 [rgV ss] (.one (.d (.int .i64 (rangeE ss)))) := by
  refine PureCall.of_body tOk (fn := Tryz.f9) Tryz.func9 (by kernel_rfl) rfl (Nat.le_of_ble_eq_true rfl) (fun E => ?_)
  refine W.seq ?_
  refine W.region ?_
  refine S.box rfl rfl rfl rfl ?_
  refine S.pure tOk zOk rfl rfl rfl ?_
  refine thenK_n ?_
  refine W.seq ?_
  refine W.seq ?_
  refine W.region ?_
  refine S.pure tOk zOk rfl rfl rfl ?_
  refine S.pure tOk zOk rfl rfl rfl ?_
  refine S.pure tOk zOk rfl rfl rfl ?_
  refine S.pure tOk zOk rfl rfl rfl ?_
  refine thenK_n ?_
  refine W.cond rfl (fun c1 => ?_) (fun c1 => ?_)
  · skip
    refine W.seq ?_
    refine W.region ?_
    refine S.pure tOk zOk rfl rfl rfl ?_
    refine thenK_n ?_
    refine W.ret ?_
    refine thenK_r ?_
    exact ⟨_, rfl, rfl, LeV.of_eq (congrArg (fun x => V.one (C.d (D.int .i64 x))) (rangeE_large (by simpa using c1)).symm)⟩
  · skip
    have hlen := rangeE_list (ss := ss) (by simpa using c1)
    refine W.skip ?_
    refine thenK_n ?_
    refine W.seq ?_
    refine W.seq ?_
    refine W.region ?_
    refine S.pure tOk zOk rfl rfl rfl ?_
    refine S.pure tOk zOk rfl rfl rfl ?_
    refine S.pure tOk zOk rfl rfl rfl ?_
    refine S.pure tOk zOk rfl rfl rfl ?_
    refine thenK_n ?_
    refine W.block ?_
    refine W.loop (fun k st => ∃ i : Nat, i ≤ ss.length ∧ (((List.range ss.length).map (spAt ss)).take i).all (· == 0) = true ∧ k = ss.length - i ∧ ∃ t b2 r2 m2, st = ⟨t, [[.d (.vec 10 (ss.map spD))]] ++ b2, [] ++ r2, [] ++ m2⟩ ∧ holdsL t [(1, .one (.ptr 0 0)), (11, .one (.d (.vec 10 (ss.map spD)))), (12, .one (.d (.int .i64 ((ss.map spD).length : Int)))), (13, .one (.d (.int .i64 (i : Int))))]) (ss.length) ⟨0, Nat.zero_le _, by simp, rfl, _, _, _, _, rfl, rfl, rfl, rfl, rfl, trivial⟩ ?_
    rintro k0 _ ⟨i, f0_0, f0_1, rfl, t0, bb0, rr0, mm0, rfl, hh0⟩
    refine W.keepR _ _ _ _ _ _ _ hh0 rfl ?_
    refine W.seq ?_
    refine W.region ?_
    refine S.pure tOk zOk rfl rfl rfl ?_
    refine thenK_n ?_
    refine W.seq ?_
    refine W.cond rfl (fun c2 => ?_) (fun c2 => ?_)
    · skip
      have hi := row_lt c2
      have hs := sp_at hv hi
      have hi1 : i - 1 < ss.length := by omega
      have hs1 := sp_at hv hi1
      refine W.skip ?_
      refine thenK_n ?_
      refine W.seq ?_
      refine W.block ?_
      refine W.seq ?_
      refine W.region ?_
      refine S.pure tOk zOk rfl rfl rfl ?_
      refine S.pureE tOk zOk rfl (row_ok hi) (row_at Sp.z hi) rfl ?_
      refine S.pure tOk zOk rfl rfl rfl ?_
      refine S.alloc tOk rfl rfl rfl rfl ?_
      refine S.pure tOk zOk rfl rfl rfl ?_
      refine S.store tOk rfl rfl rfl rfl rfl rfl rfl rfl ?_
      refine thenK_n ?_
      refine W.seq ?_
      refine W.seq ?_
      refine W.region ?_
      refine S.pure tOk zOk rfl rfl rfl ?_
      refine S.pure tOk zOk rfl rfl rfl ?_
      refine S.pure tOk zOk rfl rfl rfl ?_
      refine S.pure tOk zOk rfl rfl rfl ?_
      refine S.pureG tOk zOk rfl rfl (by repeat first | exact allT_nil | refine allT_cons (fun h => h) ?_ | refine allT_cons (fun h => andl h) ?_ | refine allT_cons (fun h => andl (andl h)) ?_ | refine allT_cons (fun _ => rfl) ?_) (fun _ => rfl) rfl ?_
      refine S.pureG tOk zOk rfl rfl (by repeat first | exact allT_nil | refine allT_cons (fun h => h) ?_ | refine allT_cons (fun h => andl h) ?_ | refine allT_cons (fun h => andl (andl h)) ?_ | refine allT_cons (fun _ => rfl) ?_) (fun _ => rfl) rfl ?_
      refine S.pureG tOk zOk rfl rfl (by repeat first | exact allT_nil | refine allT_cons (fun h => h) ?_ | refine allT_cons (fun h => andl h) ?_ | refine allT_cons (fun h => andl (andl h)) ?_ | refine allT_cons (fun _ => rfl) ?_) (fun _ => rfl) rfl ?_
      refine S.pureG tOk zOk rfl rfl (by repeat first | exact allT_nil | refine allT_cons (fun h => h) ?_ | refine allT_cons (fun h => andl h) ?_ | refine allT_cons (fun h => andl (andl h)) ?_ | refine allT_cons (fun _ => rfl) ?_) (fun _ => rfl) rfl ?_
      refine S.pickAnd tOk zOk rfl rfl (by repeat first | exact allT_nil | refine allT_cons (fun h => h) ?_ | refine allT_cons (fun h => andl h) ?_ | refine allT_cons (fun h => andl (andl h)) ?_ | refine allT_cons (fun _ => rfl) ?_) ?_
      refine S.pure tOk zOk rfl rfl rfl ?_
      refine S.pureG tOk zOk rfl rfl (by repeat first | exact allT_nil | refine allT_cons (fun h => h) ?_ | refine allT_cons (fun h => andl h) ?_ | refine allT_cons (fun h => andl (andl h)) ?_ | refine allT_cons (fun _ => rfl) ?_) (fun _ => rfl) rfl ?_
      refine S.pureG tOk zOk rfl rfl (by repeat first | exact allT_nil | refine allT_cons (fun h => h) ?_ | refine allT_cons (fun h => andl h) ?_ | refine allT_cons (fun h => andl (andl h)) ?_ | refine allT_cons (fun _ => rfl) ?_) (fun _ => rfl) rfl ?_
      refine S.pureG tOk zOk rfl rfl (by repeat first | exact allT_nil | refine allT_cons (fun h => h) ?_ | refine allT_cons (fun h => andl h) ?_ | refine allT_cons (fun h => andl (andl h)) ?_ | refine allT_cons (fun _ => rfl) ?_) (fun _ => rfl) rfl ?_
      refine S.pureG tOk zOk rfl rfl (by repeat first | exact allT_nil | refine allT_cons (fun h => h) ?_ | refine allT_cons (fun h => andl h) ?_ | refine allT_cons (fun h => andl (andl h)) ?_ | refine allT_cons (fun _ => rfl) ?_) (fun _ => rfl) rfl ?_
      refine S.pureG tOk zOk rfl rfl (by repeat first | exact allT_nil | refine allT_cons (fun h => h) ?_ | refine allT_cons (fun h => andl h) ?_ | refine allT_cons (fun h => andl (andl h)) ?_ | refine allT_cons (fun _ => rfl) ?_) (fun _ => rfl) rfl ?_
      refine S.pureG tOk zOk rfl rfl (by repeat first | exact allT_nil | refine allT_cons (fun h => h) ?_ | refine allT_cons (fun h => andl h) ?_ | refine allT_cons (fun h => andl (andl h)) ?_ | refine allT_cons (fun _ => rfl) ?_) (fun _ => rfl) rfl ?_
      refine S.pureG tOk zOk rfl rfl (by repeat first | exact allT_nil | refine allT_cons (fun h => h) ?_ | refine allT_cons (fun h => andl h) ?_ | refine allT_cons (fun h => andl (andl h)) ?_ | refine allT_cons (fun _ => rfl) ?_) (fun _ => rfl) rfl ?_
      refine S.pureG tOk zOk rfl rfl (by repeat first | exact allT_nil | refine allT_cons (fun h => h) ?_ | refine allT_cons (fun h => andl h) ?_ | refine allT_cons (fun h => andl (andl h)) ?_ | refine allT_cons (fun _ => rfl) ?_) (fun _ => rfl) rfl ?_
      refine S.pickAndG tOk zOk rfl rfl rfl (by repeat first | exact allT_nil | refine allT_cons (fun h => h) ?_ | refine allT_cons (fun h => andl h) ?_ | refine allT_cons (fun h => andl (andl h)) ?_ | refine allT_cons (fun _ => rfl) ?_) (by repeat first | exact allT_nil | refine allT_cons (fun h => h) ?_ | refine allT_cons (fun h => andl h) ?_ | refine allT_cons (fun h => andl (andl h)) ?_ | refine allT_cons (fun _ => rfl) ?_) ?_
      refine S.pickOr tOk zOk rfl rfl (by repeat first | exact allT_nil | refine allT_cons (fun h => h) ?_ | refine allT_cons (fun h => andl h) ?_ | refine allT_cons (fun h => andl (andl h)) ?_ | refine allT_cons (fun _ => rfl) ?_) ?_
      refine thenK_n ?_
      refine W.cond rfl (fun c3 => ?_) (fun c3 => ?_)
      · skip
        refine W.seq ?_
        refine W.region ?_
        refine S.pure tOk zOk rfl rfl rfl ?_
        refine thenK_n ?_
        refine W.ret ?_
        refine thenK_r ?_
        refine blockK_r ?_
        refine thenK_r ?_
        refine thenK_r ?_
        refine blockK_r ?_
        refine thenK_r ?_
        exact ⟨_, rfl, rfl, LeV.of_eq (congrArg (fun x => V.one (C.d (D.int .i64 x))) (hlen.trans (spAt_hit hi f0_1 (spAt_form c3) (by decide))).symm)⟩
      · skip
        refine W.skip ?_
        refine thenK_n ?_
        refine W.seq ?_
        refine W.seq ?_
        refine W.region ?_
        refine S.pure tOk zOk rfl rfl rfl ?_
        refine S.pure tOk zOk rfl rfl rfl ?_
        refine S.pure tOk zOk rfl rfl rfl ?_
        refine S.pure tOk zOk rfl rfl rfl ?_
        refine S.slice tOk rfl rfl ?_
        refine S.call rfl rfl rfl rfl rfl (pc_verr2 (ss.getD i Sp.z).f (ss.getD i Sp.z).t hs.1 hs.2) ?_
        refine S.pure tOk zOk rfl rfl rfl ?_
        refine thenK_n ?_
        refine W.seq ?_
        refine W.region ?_
        refine S.pure tOk zOk rfl rfl rfl ?_
        refine S.pure tOk zOk rfl rfl rfl ?_
        refine thenK_n ?_
        refine W.cond rfl (fun c4 => ?_) (fun c4 => ?_)
        · skip
          refine W.seq ?_
          refine W.region ?_
          refine S.pure tOk zOk rfl rfl rfl ?_
          refine S.pure tOk zOk rfl rfl rfl ?_
          refine thenK_n ?_
          refine W.ret ?_
          refine thenK_r ?_
          refine blockK_r ?_
          refine thenK_r ?_
          refine thenK_r ?_
          refine blockK_r ?_
          refine thenK_r ?_
          exact ⟨_, rfl, rfl, LeV.of_eq (congrArg (fun x => V.one (C.d (D.int .i64 x))) (hlen.trans (spAt_hit hi f0_1 (spAt_ver c3 c4) (by simpa using c4))).symm)⟩
        · skip
          refine W.skip ?_
          refine thenK_n ?_
          refine W.seq ?_
          refine W.seq ?_
          refine W.region ?_
          refine S.pure tOk zOk rfl rfl rfl ?_
          refine S.pure tOk zOk rfl rfl rfl ?_
          refine S.pure tOk zOk rfl rfl rfl ?_
          refine S.pureG tOk zOk rfl rfl (by repeat first | exact allT_nil | refine allT_cons (fun h => h) ?_ | refine allT_cons (fun h => andl h) ?_ | refine allT_cons (fun h => andl (andl h)) ?_ | refine allT_cons (fun _ => rfl) ?_) (fun _ => rfl) rfl ?_
          refine S.pureG tOk zOk rfl rfl (by repeat first | exact allT_nil | refine allT_cons (fun h => h) ?_ | refine allT_cons (fun h => andl h) ?_ | refine allT_cons (fun h => andl (andl h)) ?_ | refine allT_cons (fun _ => rfl) ?_) (fun _ => rfl) rfl ?_
          refine S.pickAnd tOk zOk rfl rfl (by repeat first | exact allT_nil | refine allT_cons (fun h => h) ?_ | refine allT_cons (fun h => andl h) ?_ | refine allT_cons (fun h => andl (andl h)) ?_ | refine allT_cons (fun _ => rfl) ?_) ?_
          refine S.pure tOk zOk rfl rfl rfl ?_
          refine S.pureG tOk zOk rfl rfl (by repeat first | exact allT_nil | refine allT_cons (fun h => h) ?_ | refine allT_cons (fun h => andl h) ?_ | refine allT_cons (fun h => andl (andl h)) ?_ | refine allT_cons (fun _ => rfl) ?_) (fun _ => rfl) rfl ?_
          refine S.pureG tOk zOk rfl rfl (by repeat first | exact allT_nil | refine allT_cons (fun h => h) ?_ | refine allT_cons (fun h => andl h) ?_ | refine allT_cons (fun h => andl (andl h)) ?_ | refine allT_cons (fun _ => rfl) ?_) (fun _ => rfl) rfl ?_
          refine S.pureG tOk zOk rfl rfl (by repeat first | exact allT_nil | refine allT_cons (fun h => h) ?_ | refine allT_cons (fun h => andl h) ?_ | refine allT_cons (fun h => andl (andl h)) ?_ | refine allT_cons (fun _ => rfl) ?_) (fun _ => rfl) rfl ?_
          refine S.pureG tOk zOk rfl rfl (by repeat first | exact allT_nil | refine allT_cons (fun h => h) ?_ | refine allT_cons (fun h => andl h) ?_ | refine allT_cons (fun h => andl (andl h)) ?_ | refine allT_cons (fun _ => rfl) ?_) (fun _ => rfl) rfl ?_
          refine S.callG rfl rfl rfl rfl (by repeat first | exact allT_nil | refine allT_cons (fun h => h) ?_ | refine allT_cons (fun h => andl h) ?_ | refine allT_cons (fun h => andl (andl h)) ?_ | refine allT_cons (fun _ => rfl) ?_) rfl rfl (fun _ => pc_outref2_CompareOf (ss.getD i Sp.z).f (ss.getD i Sp.z).t hs.1 hs.2) ?_
          refine S.pureG tOk zOk rfl rfl (by repeat first | exact allT_nil | refine allT_cons (fun h => h) ?_ | refine allT_cons (fun h => andl h) ?_ | refine allT_cons (fun h => andl (andl h)) ?_ | refine allT_cons (fun _ => rfl) ?_) (fun _ => rfl) rfl ?_
          refine S.pickAnd tOk zOk rfl rfl (by repeat first | exact allT_nil | refine allT_cons (fun h => h) ?_ | refine allT_cons (fun h => andl h) ?_ | refine allT_cons (fun h => andl (andl h)) ?_ | refine allT_cons (fun _ => rfl) ?_) ?_
          refine thenK_n ?_
          refine W.cond rfl (fun c5 => ?_) (fun c5 => ?_)
          · skip
            refine W.seq ?_
            refine W.region ?_
            refine S.pure tOk zOk rfl rfl rfl ?_
            refine thenK_n ?_
            refine W.ret ?_
            refine thenK_r ?_
            refine blockK_r ?_
            refine thenK_r ?_
            refine thenK_r ?_
            refine blockK_r ?_
            refine thenK_r ?_
            exact ⟨_, rfl, rfl, LeV.of_eq (congrArg (fun x => V.one (C.d (D.int .i64 x))) (hlen.trans (spAt_hit hi f0_1 (spAt_ord c3 c4 c5) (by decide))).symm)⟩
          · skip
            refine W.skip ?_
            refine thenK_n ?_
            refine W.seq ?_
            refine W.regionD mixed (by kernel_rfl) ?_
            refine D.pure tOk zOk rfl rfl rfl rfl ?_
            refine D.pure tOk zOk rfl rfl rfl rfl ?_
            refine D.pure tOk zOk rfl rfl rfl rfl ?_
            refine D.pureG tOk zOk rfl rfl rfl (by repeat first | exact allT_nil | refine allT_cons (fun h => h) ?_ | refine allT_cons (fun h => andl h) ?_ | refine allT_cons (fun h => andl (andl h)) ?_ | refine allT_cons (fun _ => rfl) ?_) (fun _ => rfl) rfl ?_
            refine D.pureG tOk zOk rfl rfl rfl (by repeat first | exact allT_nil | refine allT_cons (fun h => h) ?_ | refine allT_cons (fun h => andl h) ?_ | refine allT_cons (fun h => andl (andl h)) ?_ | refine allT_cons (fun _ => rfl) ?_) (fun _ => rfl) rfl ?_
            refine D.pureG tOk zOk rfl rfl rfl (by repeat first | exact allT_nil | refine allT_cons (fun h => h) ?_ | refine allT_cons (fun h => andl h) ?_ | refine allT_cons (fun h => andl (andl h)) ?_ | refine allT_cons (fun _ => rfl) ?_) (fun _ => rfl) rfl ?_
            refine D.pureG tOk zOk rfl rfl rfl (by repeat first | exact allT_nil | refine allT_cons (fun h => h) ?_ | refine allT_cons (fun h => andl h) ?_ | refine allT_cons (fun h => andl (andl h)) ?_ | refine allT_cons (fun _ => rfl) ?_) (fun _ => rfl) rfl ?_
            refine D.pureEG tOk zOk rfl rfl rfl (by repeat first | exact allT_nil | refine allT_cons (fun h => h) ?_ | refine allT_cons (fun h => andl h) ?_ | refine allT_cons (fun h => andl (andl h)) ?_ | refine allT_cons (fun _ => rfl) ?_) (fun h => pred_ok h hi (by omega)) (row_pred Sp.z hi (by omega)) rfl ?_
            refine D.pureG tOk zOk rfl rfl rfl (by repeat first | exact allT_nil | refine allT_cons (fun h => h) ?_ | refine allT_cons (fun h => andl h) ?_ | refine allT_cons (fun h => andl (andl h)) ?_ | refine allT_cons (fun _ => rfl) ?_) (fun _ => rfl) rfl ?_
            refine D.pureG tOk zOk rfl rfl rfl (by repeat first | exact allT_nil | refine allT_cons (fun h => h) ?_ | refine allT_cons (fun h => andl h) ?_ | refine allT_cons (fun h => andl (andl h)) ?_ | refine allT_cons (fun _ => rfl) ?_) (fun _ => rfl) rfl ?_
            refine D.pureG tOk zOk rfl rfl rfl (by repeat first | exact allT_nil | refine allT_cons (fun h => h) ?_ | refine allT_cons (fun h => andl h) ?_ | refine allT_cons (fun h => andl (andl h)) ?_ | refine allT_cons (fun _ => rfl) ?_) (fun _ => rfl) rfl ?_
            refine D.pureG tOk zOk rfl rfl rfl (by repeat first | exact allT_nil | refine allT_cons (fun h => h) ?_ | refine allT_cons (fun h => andl h) ?_ | refine allT_cons (fun h => andl (andl h)) ?_ | refine allT_cons (fun _ => rfl) ?_) (fun _ => rfl) rfl ?_
            refine D.pureG tOk zOk rfl rfl rfl (by repeat first | exact allT_nil | refine allT_cons (fun h => h) ?_ | refine allT_cons (fun h => andl h) ?_ | refine allT_cons (fun h => andl (andl h)) ?_ | refine allT_cons (fun _ => rfl) ?_) (fun _ => rfl) rfl ?_
            refine D.pureG tOk zOk rfl rfl rfl (by repeat first | exact allT_nil | refine allT_cons (fun h => h) ?_ | refine allT_cons (fun h => andl h) ?_ | refine allT_cons (fun h => andl (andl h)) ?_ | refine allT_cons (fun _ => rfl) ?_) (fun _ => rfl) rfl ?_
            refine D.pureG tOk zOk rfl rfl rfl (by repeat first | exact allT_nil | refine allT_cons (fun h => h) ?_ | refine allT_cons (fun h => andl h) ?_ | refine allT_cons (fun h => andl (andl h)) ?_ | refine allT_cons (fun _ => rfl) ?_) (fun _ => rfl) rfl ?_
            refine D.pickOrG tOk zOk rfl rfl rfl (by repeat first | exact allT_nil | refine allT_cons (fun h => h) ?_ | refine allT_cons (fun h => andl h) ?_ | refine allT_cons (fun h => andl (andl h)) ?_ | refine allT_cons (fun _ => rfl) ?_) (by repeat first | exact allT_nil | refine allT_cons (fun h => h) ?_ | refine allT_cons (fun h => andl h) ?_ | refine allT_cons (fun h => andl (andl h)) ?_ | refine allT_cons (fun _ => rfl) ?_) ?_
            refine D.pureG tOk zOk rfl rfl rfl (by repeat first | exact allT_nil | refine allT_cons (fun h => h) ?_ | refine allT_cons (fun h => andl h) ?_ | refine allT_cons (fun h => andl (andl h)) ?_ | refine allT_cons (fun _ => rfl) ?_) (fun _ => rfl) rfl ?_
            refine D.pureG tOk zOk rfl rfl rfl (by repeat first | exact allT_nil | refine allT_cons (fun h => h) ?_ | refine allT_cons (fun h => andl h) ?_ | refine allT_cons (fun h => andl (andl h)) ?_ | refine allT_cons (fun _ => rfl) ?_) (fun _ => rfl) rfl ?_
            refine D.pureG tOk zOk rfl rfl rfl (by repeat first | exact allT_nil | refine allT_cons (fun h => h) ?_ | refine allT_cons (fun h => andl h) ?_ | refine allT_cons (fun h => andl (andl h)) ?_ | refine allT_cons (fun _ => rfl) ?_) (fun _ => rfl) rfl ?_
            refine D.pureG tOk zOk rfl rfl rfl (by repeat first | exact allT_nil | refine allT_cons (fun h => h) ?_ | refine allT_cons (fun h => andl h) ?_ | refine allT_cons (fun h => andl (andl h)) ?_ | refine allT_cons (fun _ => rfl) ?_) (fun _ => rfl) rfl ?_
            refine D.pureG tOk zOk rfl rfl rfl (by repeat first | exact allT_nil | refine allT_cons (fun h => h) ?_ | refine allT_cons (fun h => andl h) ?_ | refine allT_cons (fun h => andl (andl h)) ?_ | refine allT_cons (fun _ => rfl) ?_) (fun _ => rfl) rfl ?_
            refine D.pureEG tOk zOk rfl rfl rfl (by repeat first | exact allT_nil | refine allT_cons (fun h => h) ?_ | refine allT_cons (fun h => andl h) ?_ | refine allT_cons (fun h => andl (andl h)) ?_ | refine allT_cons (fun _ => rfl) ?_) (fun h => pred_ok (andl h) hi (by omega)) (row_pred Sp.z hi (by omega)) rfl ?_
            refine D.pureG tOk zOk rfl rfl rfl (by repeat first | exact allT_nil | refine allT_cons (fun h => h) ?_ | refine allT_cons (fun h => andl h) ?_ | refine allT_cons (fun h => andl (andl h)) ?_ | refine allT_cons (fun _ => rfl) ?_) (fun _ => rfl) rfl ?_
            refine D.pureG tOk zOk rfl rfl rfl (by repeat first | exact allT_nil | refine allT_cons (fun h => h) ?_ | refine allT_cons (fun h => andl h) ?_ | refine allT_cons (fun h => andl (andl h)) ?_ | refine allT_cons (fun _ => rfl) ?_) (fun _ => rfl) rfl ?_
            refine D.pureG tOk zOk rfl rfl rfl (by repeat first | exact allT_nil | refine allT_cons (fun h => h) ?_ | refine allT_cons (fun h => andl h) ?_ | refine allT_cons (fun h => andl (andl h)) ?_ | refine allT_cons (fun _ => rfl) ?_) (fun _ => rfl) rfl ?_
            refine D.pureG tOk zOk rfl rfl rfl (by repeat first | exact allT_nil | refine allT_cons (fun h => h) ?_ | refine allT_cons (fun h => andl h) ?_ | refine allT_cons (fun h => andl (andl h)) ?_ | refine allT_cons (fun _ => rfl) ?_) (fun _ => rfl) rfl ?_
            refine D.callG rfl rfl rfl rfl (by repeat first | exact allT_nil | refine allT_cons (fun h => h) ?_ | refine allT_cons (fun h => andl h) ?_ | refine allT_cons (fun h => andl (andl h)) ?_ | refine allT_cons (fun _ => rfl) ?_) rfl rfl (fun _ => pc_outref2_CompareOf (ss.getD (i - 1) Sp.z).t (ss.getD i Sp.z).f hs1.2 hs.1) ?_
            refine D.pureG tOk zOk rfl rfl rfl (by repeat first | exact allT_nil | refine allT_cons (fun h => h) ?_ | refine allT_cons (fun h => andl h) ?_ | refine allT_cons (fun h => andl (andl h)) ?_ | refine allT_cons (fun _ => rfl) ?_) (fun _ => rfl) rfl ?_
            refine D.pickOrG tOk zOk rfl rfl rfl (by repeat first | exact allT_nil | refine allT_cons (fun h => h) ?_ | refine allT_cons (fun h => andl h) ?_ | refine allT_cons (fun h => andl (andl h)) ?_ | refine allT_cons (fun _ => rfl) ?_) (by repeat first | exact allT_nil | refine allT_cons (fun h => h) ?_ | refine allT_cons (fun h => andl h) ?_ | refine allT_cons (fun h => andl (andl h)) ?_ | refine allT_cons (fun _ => rfl) ?_) ?_
            refine D.pickAnd tOk zOk rfl rfl (by repeat first | exact allT_nil | refine allT_cons (fun h => h) ?_ | refine allT_cons (fun h => andl h) ?_ | refine allT_cons (fun h => andl (andl h)) ?_ | refine allT_cons (fun _ => rfl) ?_) ?_
            refine thenK_n ?_
            refine W.cond rfl (fun c6 => ?_) (fun c6 => ?_)
            · skip
              refine W.seq ?_
              refine W.region ?_
              refine S.pure tOk zOk rfl rfl rfl ?_
              refine thenK_n ?_
              refine W.ret ?_
              refine blockK_r ?_
              refine thenK_r ?_
              refine thenK_r ?_
              refine blockK_r ?_
              refine thenK_r ?_
              exact ⟨_, rfl, rfl, LeV.of_eq (congrArg (fun x => V.one (C.d (D.int .i64 x))) (hlen.trans (spAt_hit hi f0_1 (spAt_r7 hi f0_1 c3 c4 c5 c6) (by decide))).symm)⟩
            · skip
              refine W.skip ?_
              refine blockK_n ?_
              refine thenK_n ?_
              refine W.region ?_
              refine S.pure tOk zOk rfl rfl rfl ?_
              refine S.pure tOk zOk rfl rfl rfl ?_
              refine loop_n (ss.length - (i + 1)) (by omega) ⟨i + 1, hi, all_take_succ (d := 0) (by simpa using hi) f0_1 (spAt_go hi (spAt_r0 hi f0_1 c3 c4 c5 c6)), rfl, _, _, _, _, rfl, rfl, rfl, rfl, inc_i64 (by omega), trivial⟩
    · skip
      have hi := row_ge c2
      refine W.exit ?_
      refine thenK_e ?_
      refine thenK_e ?_
      refine blockK_x ?_
      refine thenK_n ?_
      refine W.seq ?_
      refine W.region ?_
      refine S.pure tOk zOk rfl rfl rfl ?_
      refine thenK_n ?_
      refine W.ret ?_
      exact ⟨_, rfl, rfl, LeV.of_eq (congrArg (fun x => V.one (C.d (D.int .i64 x))) (hlen.trans (firstNe_none (by simpa using hi) f0_1)).symm)⟩

end Go.Proofs.YtnphejkeflngcaaGreatDoor

/- Plain words: two rows are the same. -/
set_option linter.unusedVariables false
set_option linter.unusedSimpArgs false
namespace Go.Proofs.YtnphejkeflngcaaGreatDoor
open Go
theorem same_go {α : Type} {xs ys : List α} {d : α} {i : Nat} (h1 : i < xs.length) (h2 : i < ys.length) (h : xs.take i = ys.take i) (he : xs.getD i d = ys.getD i d) : xs.take (i + 1) = ys.take (i + 1) := by
  rw [List.take_add_one, List.take_add_one, h]
  simp only [List.getD, List.getElem?_eq_getElem h1, List.getElem?_eq_getElem h2, Option.getD_some] at he
  rw [List.getElem?_eq_getElem h1, List.getElem?_eq_getElem h2, he]
theorem same_end {α : Type} {xs ys : List α} {i : Nat} (hl : xs.length = ys.length) (h : xs.length ≤ i) (ht : xs.take i = ys.take i) : xs = ys := by
  rwa [List.take_of_length_le h, List.take_of_length_le (by omega)] at ht
theorem same_not {α : Type} {xs ys : List α} {d : α} {i : Nat} (h : xs.getD i d ≠ ys.getD i d) : xs ≠ ys := fun e => h (by rw [e])
theorem sp_ne {s u : Sp} (h : (!(s.eqb u)) = true) : s ≠ u := fun e => by
  have := Sp.eqb_iff.2 e
  rw [this] at h; cases h
theorem sp_eq {s u : Sp} (h : (!(s.eqb u)) = false) : s = u := Sp.eqb_iff.1 (by simpa using h)
end Go.Proofs.YtnphejkeflngcaaGreatDoor

set_option linter.unusedVariables false
set_option linter.unusedSimpArgs false
set_option maxRecDepth 100000
set_option maxHeartbeats 4000000
namespace Go.Proofs.YtnphejkeflngcaaGreatDoor
open Go
open Go.RowKit

theorem pc_Equal_Span (xs ys : List Sp) (hl : xs.length ≤ 1000000000) :
    PureCall Tryz.prog J 52 [.one (.d (.vec 10 (xs.map spD))), .one (.d (.vec 10 (ys.map spD)))] (.one (.d (.bool (decide (xs = ys))))) := by
  refine PureCall.of_body tOk (fn := Tryz.f52) Tryz.func52 (by kernel_rfl) rfl (Nat.le_of_ble_eq_true rfl) (fun E => ?_)
  refine W.seq ?_
  refine W.region ?_
  refine S.pure tOk zOk rfl rfl rfl ?_
  refine thenK_n ?_
  refine W.seq ?_
  refine W.seq ?_
  refine W.region ?_
  refine S.pure tOk zOk rfl rfl rfl ?_
  refine S.pure tOk zOk rfl rfl rfl ?_
  refine S.pure tOk zOk rfl rfl rfl ?_
  refine S.pure tOk zOk rfl rfl rfl ?_
  refine S.pure tOk zOk rfl rfl rfl ?_
  refine thenK_n ?_
  refine W.cond rfl (fun c1 => ?_) (fun c1 => ?_)
  · skip
    refine W.seq ?_
    refine W.region ?_
    refine S.pure tOk zOk rfl rfl rfl ?_
    refine thenK_n ?_
    refine W.ret ?_
    refine thenK_r ?_
    exact ⟨_, rfl, rfl, LeV.of_force rfl (by rw [decide_eq_false (fun e => by rw [e] at c1; simp at c1)]; rfl)⟩
  · skip
    have hll : xs.length = ys.length := by simp at c1; omega
    refine W.skip ?_
    refine thenK_n ?_
    refine W.seq ?_
    refine W.seq ?_
    refine W.region ?_
    refine S.pure tOk zOk rfl rfl rfl ?_
    refine S.pure tOk zOk rfl rfl rfl ?_
    refine S.pure tOk zOk rfl rfl rfl ?_
    refine thenK_n ?_
    refine W.block ?_
    refine W.loop (fun k st => ∃ i : Nat, i ≤ xs.length ∧ xs.take i = ys.take i ∧ k = xs.length - i ∧ ∃ t b2 r2 m2, st = ⟨t, [] ++ b2, [] ++ r2, [] ++ m2⟩ ∧ holdsL t [(0, .one (.d (.vec 10 (xs.map spD)))), (1, .one (.d (.vec 10 (ys.map spD)))), (12, .one (.d (.int .i64 ((xs.map spD).length : Int)))), (13, .one (.d (.int .i64 (i : Int))))]) (xs.length) ⟨0, Nat.zero_le _, rfl, rfl, _, _, _, _, rfl, rfl, rfl, rfl, rfl, trivial⟩ ?_
    rintro k0 _ ⟨i, f0_0, f0_1, rfl, t0, bb0, rr0, mm0, rfl, hh0⟩
    refine W.keepR _ _ _ _ _ _ _ hh0 rfl ?_
    refine W.seq ?_
    refine W.region ?_
    refine S.pure tOk zOk rfl rfl rfl ?_
    refine thenK_n ?_
    refine W.seq ?_
    refine W.cond rfl (fun c2 => ?_) (fun c2 => ?_)
    · skip
      have hi := row_lt c2
      have hi2 : i < ys.length := by omega
      refine W.skip ?_
      refine thenK_n ?_
      refine W.seq ?_
      refine W.block ?_
      refine W.seq ?_
      refine W.region ?_
      refine S.pure tOk zOk rfl rfl rfl ?_
      refine S.pure tOk zOk rfl rfl rfl ?_
      refine thenK_n ?_
      refine W.seq ?_
      refine W.regionD mixed (by kernel_rfl) ?_
      refine D.pure tOk zOk rfl rfl rfl rfl ?_
      refine D.pure tOk zOk rfl rfl rfl rfl ?_
      refine D.pureE tOk zOk rfl rfl (row_ok hi) (row_at Sp.z hi) rfl ?_
      refine D.pure tOk zOk rfl rfl rfl rfl ?_
      refine D.pure tOk zOk rfl rfl rfl rfl ?_
      refine D.pure tOk zOk rfl rfl rfl rfl ?_
      refine D.pureE tOk zOk rfl rfl (row_ok hi2) (row_at Sp.z hi2) rfl ?_
      refine D.pure tOk zOk rfl rfl rfl rfl ?_
      refine D.pure tOk zOk rfl rfl rfl rfl ?_
      refine thenK_n ?_
      refine W.cond rfl (fun c3 => ?_) (fun c3 => ?_)
      · skip
        refine W.seq ?_
        refine W.region ?_
        refine S.pure tOk zOk rfl rfl rfl ?_
        refine thenK_n ?_
        refine W.ret ?_
        refine blockK_r ?_
        refine thenK_r ?_
        refine thenK_r ?_
        refine blockK_r ?_
        refine thenK_r ?_
        exact ⟨_, rfl, rfl, LeV.of_force rfl (by rw [decide_eq_false (same_not (sp_ne c3))]; rfl)⟩
      · skip
        refine W.skip ?_
        refine blockK_n ?_
        refine thenK_n ?_
        refine W.region ?_
        refine S.pure tOk zOk rfl rfl rfl ?_
        refine S.pure tOk zOk rfl rfl rfl ?_
        refine loop_n (xs.length - (i + 1)) (by omega) ⟨i + 1, hi, same_go hi hi2 f0_1 (sp_eq c3), rfl, _, _, _, _, rfl, rfl, rfl, rfl, inc_i64 (by omega), trivial⟩
    · skip
      have hi := row_ge c2
      refine W.exit ?_
      refine thenK_e ?_
      refine thenK_e ?_
      refine blockK_x ?_
      refine thenK_n ?_
      refine W.seq ?_
      refine W.region ?_
      refine S.pure tOk zOk rfl rfl rfl ?_
      refine thenK_n ?_
      refine W.ret ?_
      exact ⟨_, rfl, rfl, LeV.of_force rfl (by rw [decide_eq_true (same_end hll hi f0_1)]; rfl)⟩

theorem pc_outlaw2_sameRange (xs ys : List Sp) (hl : xs.length ≤ 1000000000) :
    PureCall Tryz.prog J 13 [rgV xs, rgV ys] (.one (.d (.bool (decide (xs = ys))))) := by
  refine PureCall.of_body tOk (fn := Tryz.f13) Tryz.func13 (by kernel_rfl) rfl (Nat.le_of_ble_eq_true rfl) (fun E => ?_)
  refine W.seq ?_
  refine W.region ?_
  refine S.box rfl rfl rfl rfl ?_
  refine S.box rfl rfl rfl rfl ?_
  refine S.pure tOk zOk rfl rfl rfl ?_
  refine thenK_n ?_
  refine W.seq ?_
  refine W.region ?_
  refine S.pure tOk zOk rfl rfl rfl ?_
  refine S.pure tOk zOk rfl rfl rfl ?_
  refine S.pure tOk zOk rfl rfl rfl ?_
  refine S.pure tOk zOk rfl rfl rfl ?_
  refine S.call rfl rfl rfl rfl rfl (pc_Equal_Span xs ys hl) ?_
  refine S.pure tOk zOk rfl rfl rfl ?_
  refine thenK_n ?_
  refine W.ret ?_
  exact ⟨_, rfl, rfl, LeV.refl _⟩

end Go.Proofs.YtnphejkeflngcaaGreatDoor

/- Plain words: spans as they are written, read by the program and by the reference. -/
set_option linter.unusedVariables false
set_option linter.unusedSimpArgs false
namespace Go.Proofs.YtnphejkeflngcaaGreatDoor
open Go

def It.z : It := ⟨0, [], []⟩
def geS : List UInt8 := [62, 61]
/-- The form of a span (the program). -/
def itemB (s : List UInt8) : It × Bool :=
  if s == [42] then (⟨42, [], []⟩, true)
  else if Lib.hasPrefix s [62, 61] then
    (if (Lib.cut (Lib.trimPrefix s [62, 61]) [32]).2.2 then
      (⟨98, (Lib.cut (Lib.trimPrefix s [62, 61]) [32]).1, Lib.trimPrefix (Lib.cut (Lib.trimPrefix s [62, 61]) [32]).2.1 [60]⟩,
        (Lib.hasPrefix (Lib.cut (Lib.trimPrefix s [62, 61]) [32]).2.1 [60] && rowB (Lib.cut (Lib.trimPrefix s [62, 61]) [32]).1) && rowB (Lib.trimPrefix (Lib.cut (Lib.trimPrefix s [62, 61]) [32]).2.1 [60]))
     else (⟨62, Lib.trimPrefix s [62, 61], []⟩, rowB (Lib.trimPrefix s [62, 61])))
  else if !(s == []) && decide (Lib.indexByte [60, 61, 94, 126] (bI (s.getD 0 0)).toNat.toUInt8 ≥ 0) then (⟨bI (s.getD 0 0), s.drop 1, []⟩, rowB (s.drop 1))
  else (⟨94, s, []⟩, rowB s)
/-- A version that comes next (the program). -/
def behindB (v : Ver) (g : Int) : Ver × Int :=
  if g == 61 && !(v.e == []) then (⟨v.a, v.b, v.c, v.e ++ [46, 48]⟩, checkB v.a v.b v.c (v.e ++ [46, 48]))
  else if g == 61 then (⟨(nextB v 2).1.a, (nextB v 2).1.b, (nextB v 2).1.c, [48]⟩, (nextB v 2).2)
  else if g == 94 && !(v.a == 0) then nextB v 0 else nextB v 1
/-- A span out of its form (the program). -/
def spanB (it : It) : Sp × Int :=
  if it.sign == 42 then (Sp.z, 0)
  else if (parseB it.first).2 != 0 then (Sp.z, (parseB it.first).2)
  else if it.sign == 62 then (⟨true, false, (parseB it.first).1, Ver.z⟩, 0)
  else if it.sign == 60 then (⟨false, true, Ver.z, (parseB it.first).1⟩, 0)
  else if it.sign == 98 then (⟨true, true, (parseB it.first).1, (parseB it.last).1⟩, (parseB it.last).2)
  else (⟨true, true, (parseB it.first).1, (behindB (parseB it.first).1 it.sign).1⟩, (behindB (parseB it.first).1 it.sign).2)
def badB (t : List UInt8) : Bool := (!(itemB t).2 || (!((itemB t).1.sign == 42) && wrongB (itemB t).1.first)) || ((itemB t).1.sign == 98 && wrongB (itemB t).1.last)
abbrev partsR (s : List UInt8) : List (List UInt8) := Lib.split s [44, 32]
/-- A range that is read (the program). -/
def rangeB (s : List UInt8) : List Sp × Int :=
  if decide ((s.length : Int) > 1000) then ([], 4) else if s == [110, 111, 110, 101] then ([], 0)
  else if (partsR s).any badB then ([], 8)
  else if firstNe ((partsR s).map fun t => (spanB (itemB t).1).2) != 0 then ([], firstNe ((partsR s).map fun t => (spanB (itemB t).1).2))
  else if rangeE ((partsR s).map fun t => (spanB (itemB t).1).1) != 0 then ([], rangeE ((partsR s).map fun t => (spanB (itemB t).1).1))
  else ((partsR s).map fun t => (spanB (itemB t).1).1, 0)

theorem trim_le (s p : List UInt8) : (Lib.trimPrefix s p).length ≤ s.length := by
  unfold Lib.trimPrefix
  split <;> simp
theorem cut3_le (s p : List UInt8) : (Lib.trimPrefix (Lib.cut s p).2.1 [60]).length ≤ s.length := Nat.le_trans (trim_le _ _) (cut_le s p).2
theorem checkB_ver (v : Ver) : checkB v.a v.b v.c v.e = v.check := rfl
theorem item_le (s : List UInt8) : (itemB s).1.first.length ≤ s.length ∧ (itemB s).1.last.length ≤ s.length := by
  unfold itemB
  have h1 := trim_le s [62, 61]
  have h2 := cut_le (Lib.trimPrefix s [62, 61]) [32]
  have h3 := cut3_le (Lib.trimPrefix s [62, 61]) [32]
  split
  · simp
  · split
    · split
      · exact ⟨by simp only; omega, by simp only; omega⟩
      · exact ⟨h1, by simp⟩
    · split
      · simp
      · simp
theorem parse_e (s : List UInt8) : (parseB s).1.e.length ≤ s.length := by
  have hc := cut_le s [45]
  unfold parseB parseW
  split
  · simp [Ver.z]
  · split
    · unfold threeB
      split
      · simp [Ver.z]
      · split
        · simp [Ver.z]
        · split
          · simp [Ver.z]
          · split
            · simp [Ver.z]
            · exact hc.2
    · simp [Ver.z]
theorem next_e (v : Ver) (p : Int) : (nextB v p).1.e = [] := by
  have h : ∀ x y z, (nextOk x y z).1.e = [] := fun x y z => by unfold nextOk; split <;> rfl
  unfold nextB
  split
  · rfl
  · split
    · exact h _ _ _
    · split
      · exact h _ _ _
      · split
        · exact h _ _ _
        · split
          · rfl
          · exact h _ _ _
theorem behind_e (v : Ver) (g : Int) : (behindB v g).1.e.length ≤ v.e.length + 2 := by
  unfold behindB
  split
  · simp
  · split
    · simp
    · split
      · rw [next_e]; simp
      · rw [next_e]; simp
theorem span_e (t : List UInt8) : (spanB (itemB t).1).1.f.e.length ≤ t.length + 2 ∧ (spanB (itemB t).1).1.t.e.length ≤ t.length + 2 := by
  have h := item_le t
  have h1 := parse_e (itemB t).1.first
  have h2 := parse_e (itemB t).1.last
  have h3 := behind_e (parseB (itemB t).1.first).1 (itemB t).1.sign
  unfold spanB
  split
  · simp [Sp.z, Ver.z]
  · split
    · simp [Sp.z, Ver.z]
    · split
      · exact ⟨by simp only; omega, by simp [Ver.z]⟩
      · split
        · exact ⟨by simp [Ver.z], by simp only; omega⟩
        · split
          · exact ⟨by simp only; omega, by simp only; omega⟩
          · exact ⟨by simp only; omega, by simp only; omega⟩
theorem parts_le {s : List UInt8} {i : Nat} : ((partsR s).getD i []).length ≤ s.length := split_at
theorem parts_many (s : List UInt8) : (partsR s).length ≤ s.length + 2 := split_le s _
def spRes (t : List UInt8) : Sp := (spanB (itemB t).1).1
/-- 'any' and its rounds. -/
theorem any_take {α : Type} {xs : List α} {p : α → Bool} {i : Nat} {d : α} (hi : i < xs.length) (h : (xs.take i).any p = false) (hp : p (xs.getD i d) = false) : (xs.take (i + 1)).any p = false := by
  rw [List.take_add_one, List.any_append, h]
  simp only [List.getD_eq_getElem?_getD, List.getElem?_eq_getElem hi, Option.getD_some] at hp
  simp [List.getElem?_eq_getElem hi, hp]
theorem any_hit {α : Type} {xs : List α} {p : α → Bool} {i : Nat} {d : α} (hi : i < xs.length) (hp : p (xs.getD i d) = true) : xs.any p = true := by
  simp only [List.getD_eq_getElem?_getD, List.getElem?_eq_getElem hi, Option.getD_some] at hp
  exact List.any_eq_true.2 ⟨_, List.getElem_mem hi, hp⟩
theorem any_end {α : Type} {xs : List α} {p : α → Bool} {i : Nat} (hi : xs.length ≤ i) (h : (xs.take i).any p = false) : xs.any p = false := by rwa [List.take_of_length_le hi] at h
section
variable {s : List UInt8}
theorem rB_large (h : decide ((s.length : Int) > 1000) = true) : rangeB s = ([], 4) := if_pos h
theorem rB_none (h : decide ((s.length : Int) > 1000) = false) (h2 : (s == [110, 111, 110, 101]) = true) : rangeB s = ([], 0) := by
  rw [rangeB, if_neg (Bool.eq_false_iff.1 h), if_pos h2]
theorem rB_bad (h : decide ((s.length : Int) > 1000) = false) (h2 : (s == [110, 111, 110, 101]) = false) (h3 : (partsR s).any badB = true) : rangeB s = ([], 8) := by
  rw [rangeB, if_neg (Bool.eq_false_iff.1 h), if_neg (Bool.eq_false_iff.1 h2), if_pos h3]
theorem rB_err {n : Int} (h : decide ((s.length : Int) > 1000) = false) (h2 : (s == [110, 111, 110, 101]) = false) (h3 : (partsR s).any badB = false) (h4 : firstNe ((partsR s).map fun t => (spanB (itemB t).1).2) = n) (hn : n ≠ 0) : rangeB s = ([], n) := by
  rw [rangeB, if_neg (Bool.eq_false_iff.1 h), if_neg (Bool.eq_false_iff.1 h2), if_neg (Bool.eq_false_iff.1 h3), h4, if_pos (by simpa using hn)]
theorem rB_range (h : decide ((s.length : Int) > 1000) = false) (h2 : (s == [110, 111, 110, 101]) = false) (h3 : (partsR s).any badB = false) (h4 : firstNe ((partsR s).map fun t => (spanB (itemB t).1).2) = 0)
    (h5 : (rangeE ((partsR s).map spRes) != 0) = true) : rangeB s = ([], rangeE ((partsR s).map spRes)) := by
  rw [rangeB, if_neg (Bool.eq_false_iff.1 h), if_neg (Bool.eq_false_iff.1 h2), if_neg (Bool.eq_false_iff.1 h3), h4, if_neg (by simp)]
  exact if_pos h5
theorem rB_ok (h : decide ((s.length : Int) > 1000) = false) (h2 : (s == [110, 111, 110, 101]) = false) (h3 : (partsR s).any badB = false) (h4 : firstNe ((partsR s).map fun t => (spanB (itemB t).1).2) = 0)
    (h5 : (rangeE ((partsR s).map spRes) != 0) = false) : rangeB s = ((partsR s).map spRes, 0) := by
  rw [rangeB, if_neg (Bool.eq_false_iff.1 h), if_neg (Bool.eq_false_iff.1 h2), if_neg (Bool.eq_false_iff.1 h3), h4, if_neg (by simp)]
  exact if_neg (Bool.eq_false_iff.1 h5)
end
theorem code_at {ts : List (List UInt8)} {i : Nat} {f : List UInt8 → Int} (hi : i < ts.length) : (ts.map f).getD i 0 = f (ts.getD i []) := by
  simp [List.getD_eq_getElem?_getD, hi]
theorem code_go {ts : List (List UInt8)} {i : Nat} {f : List UInt8 → Int} (hi : i < ts.length) (h : (f (ts.getD i []) != 0) = false) : ((ts.map f).getD i 0 == 0) = true := by
  rw [code_at hi]; simpa using h
theorem code_hit {ts : List (List UInt8)} {i : Nat} {f : List UInt8 → Int} (hi : i < ts.length) (ht : ((ts.map f).take i).all (· == 0) = true) (h : (f (ts.getD i []) != 0) = true) : firstNe (ts.map f) = f (ts.getD i []) := by
  rw [firstNe_hit (by simpa using hi) ht (by rw [code_at hi]; simpa using h), code_at hi]
theorem code_end {ts : List (List UInt8)} {i : Nat} {f : List UInt8 → Int} (hi : ts.length ≤ i) (ht : ((ts.map f).take i).all (· == 0) = true) : firstNe (ts.map f) = 0 := firstNe_none (by simpa using hi) ht

/-! ### The reference -/
def behindR' (v : Ver) (g : Int) : Ver × Int :=
  if g == 61 && !(v.e == []) then (⟨v.a, v.b, v.c, v.e ++ [46, 48]⟩, checkB v.a v.b v.c (v.e ++ [46, 48]))
  else if g == 61 then (⟨(nextB v 2).1.a, (nextB v 2).1.b, (nextB v 2).1.c, [48]⟩, (nextB v 2).2)
  else if g == 94 && decide (v.a > 0) then nextB v 0 else nextB v 1
def shortV (k : Int) (w : List UInt8) : Sp × Int :=
  if (parseB w).2 != 0 then (Sp.z, (parseB w).2)
  else if k == 61 && !((parseB w).1.e == []) then (⟨true, true, (parseB w).1, ⟨(parseB w).1.a, (parseB w).1.b, (parseB w).1.c, (parseB w).1.e ++ [46, 48]⟩⟩, checkB (parseB w).1.a (parseB w).1.b (parseB w).1.c ((parseB w).1.e ++ [46, 48]))
  else if k == 61 then (⟨true, true, (parseB w).1, ⟨(nextB (parseB w).1 2).1.a, (nextB (parseB w).1 2).1.b, (nextB (parseB w).1 2).1.c, [48]⟩⟩, (nextB (parseB w).1 2).2)
  else if k == 94 && decide ((parseB w).1.a > 0) then (⟨true, true, (parseB w).1, (nextB (parseB w).1 0).1⟩, (nextB (parseB w).1 0).2) else (⟨true, true, (parseB w).1, (nextB (parseB w).1 1).1⟩, (nextB (parseB w).1 1).2)
theorem shortV_def (k : Int) (w : List UInt8) : shortV k w = if (parseB w).2 != 0 then (Sp.z, (parseB w).2) else (⟨true, true, (parseB w).1, (behindR' (parseB w).1 k).1⟩, (behindR' (parseB w).1 k).2) := by
  unfold shortV behindR'
  split
  · rfl
  · split
    · rfl
    · split
      · rfl
      · split <;> rfl
def shortB (w : List UInt8) : Sp × Int :=
  if w == [42] then (Sp.z, 0)
  else if !(w == []) && decide (Lib.indexByte [61, 94, 126] (bI (w.getD 0 0)).toNat.toUInt8 ≥ 0) then shortV (bI (w.getD 0 0)) (w.drop 1) else shortV 94 w
abbrev wordsR (t : List UInt8) : List (List UInt8) := Lib.split t [32]
def tokW (ws : List (List UInt8)) (f l : List UInt8) : Sp × Int :=
  if (ws.length : Int) == 1 && Lib.hasPrefix f [62, 61] then (⟨true, false, (parseB (Lib.trimPrefix f [62, 61])).1, Ver.z⟩, (parseB (Lib.trimPrefix f [62, 61])).2)
  else if (ws.length : Int) == 1 && Lib.hasPrefix l [60] then (⟨false, true, Ver.z, (parseB (Lib.trimPrefix l [60])).1⟩, (parseB (Lib.trimPrefix l [60])).2)
  else if (ws.length : Int) == 1 then shortB f
  else if ((ws.length : Int) == 2 && Lib.hasPrefix f [62, 61]) && Lib.hasPrefix l [60] then
    (⟨true, true, (parseB (Lib.trimPrefix f [62, 61])).1, (parseB (Lib.trimPrefix l [60])).1⟩,
      if (parseB (Lib.trimPrefix f [62, 61])).2 == 8 || (parseB (Lib.trimPrefix l [60])).2 == 8 then 8 else firstB (parseB (Lib.trimPrefix f [62, 61])).2 (parseB (Lib.trimPrefix l [60])).2)
  else (Sp.z, 8)
def tokR (t : List UInt8) : Sp × Int := tokW (wordsR t) ((wordsR t).getD 0 []) ((wordsR t).getD ((wordsR t).length - 1) [])
def tokS (t : List UInt8) : Sp := (tokR t).1
def tokE (t : List UInt8) : Int := (tokR t).2
def rangeR (s : List UInt8) : List Sp × Int :=
  if decide ((s.length : Int) > 1000) then ([], 4) else if s == [110, 111, 110, 101] then ([], 0)
  else if (partsR s).any (fun t => tokE t == 8) then ([], 8)
  else if firstB (firstNe ((partsR s).map tokE)) (rangeE ((partsR s).map tokS)) != 0 then ([], firstB (firstNe ((partsR s).map tokE)) (rangeE ((partsR s).map tokS)))
  else ((partsR s).map tokS, 0)
theorem firstNe_snoc (l : List Int) (x : Int) : firstNe (l ++ [x]) = firstB (firstNe l) x := by
  induction l with
  | nil => by_cases h : x = 0 <;> simp [firstNe, firstB, h]
  | cons a l ih =>
    simp only [List.cons_append, firstNe] at ih ⊢
    by_cases h : a = 0
    · subst h; simpa using ih
    · simp [h, firstB]
theorem tok_acc {ts : List (List UInt8)} {i : Nat} (hi : i < ts.length) : firstB (firstNe ((ts.take i).map tokE)) (tokE (ts.getD i [])) = firstNe ((ts.take (i + 1)).map tokE) := by
  rw [List.take_add_one, List.getElem?_eq_getElem hi, List.map_append]
  simp only [Option.toList_some, List.map_cons, List.map_nil]
  rw [firstNe_snoc]
  simp [List.getD_eq_getElem?_getD, List.getElem?_eq_getElem hi]
theorem short_e (w : List UInt8) : (shortB w).1.f.e.length ≤ w.length + 2 ∧ (shortB w).1.t.e.length ≤ w.length + 2 := by
  have hb : ∀ (v : Ver) (g : Int), (behindR' v g).1.e.length ≤ v.e.length + 2 := fun v g => by
    unfold behindR'
    split
    · simp
    · split
      · simp
      · split
        · rw [next_e]; simp
        · rw [next_e]; simp
  have hv : ∀ (k : Int) (w : List UInt8), (shortV k w).1.f.e.length ≤ w.length + 2 ∧ (shortV k w).1.t.e.length ≤ w.length + 2 := fun k w => by
    have h1 := parse_e w
    have h2 := hb (parseB w).1 k
    rw [shortV_def]
    split
    · simp [Sp.z, Ver.z]
    · exact ⟨by simp only; omega, by simp only; omega⟩
  unfold shortB
  split
  · simp [Sp.z, Ver.z]
  · split
    · have := hv (bI (w.getD 0 0)) (w.drop 1)
      simp only [List.length_drop] at this
      omega
    · exact hv 94 w
theorem tok_e (t : List UInt8) : (tokS t).f.e.length ≤ t.length + 2 ∧ (tokS t).t.e.length ≤ t.length + 2 := by
  have hf : ((wordsR t).getD 0 []).length ≤ t.length := split_at
  have hl : ((wordsR t).getD ((wordsR t).length - 1) []).length ≤ t.length := split_at
  have t1 := trim_le ((wordsR t).getD 0 []) [62, 61]
  have t2 := trim_le ((wordsR t).getD ((wordsR t).length - 1) []) [60]
  have p1 := parse_e (Lib.trimPrefix ((wordsR t).getD 0 []) [62, 61])
  have p2 := parse_e (Lib.trimPrefix ((wordsR t).getD ((wordsR t).length - 1) []) [60])
  have hs := short_e ((wordsR t).getD 0 [])
  unfold tokS tokR tokW
  split
  · exact ⟨by simp only; omega, by simp [Ver.z]⟩
  · split
    · exact ⟨by simp [Ver.z], by simp only; omega⟩
    · split
      · omega
      · split
        · exact ⟨by simp only; omega, by simp only; omega⟩
        · simp [Sp.z, Ver.z]
theorem split_pos (s sep : List UInt8) : 0 < (Lib.split s sep).length := by
  unfold Lib.split
  cases Lib.count s sep with
  | zero => simp [Lib.splitK]
  | succ k => unfold Lib.splitK; split <;> simp
section
variable {t : List UInt8}
theorem tok_1 (h : (((wordsR t).length : Int) == 1 && Lib.hasPrefix ((wordsR t).getD 0 []) [62, 61]) = true) : tokR t = (⟨true, false, (parseB (Lib.trimPrefix ((wordsR t).getD 0 []) [62, 61])).1, Ver.z⟩, (parseB (Lib.trimPrefix ((wordsR t).getD 0 []) [62, 61])).2) := if_pos h
theorem tok_2 (h : (((wordsR t).length : Int) == 1 && Lib.hasPrefix ((wordsR t).getD 0 []) [62, 61]) = false) (h2 : (((wordsR t).length : Int) == 1 && Lib.hasPrefix ((wordsR t).getD ((wordsR t).length - 1) []) [60]) = true) :
    tokR t = (⟨false, true, Ver.z, (parseB (Lib.trimPrefix ((wordsR t).getD ((wordsR t).length - 1) []) [60])).1⟩, (parseB (Lib.trimPrefix ((wordsR t).getD ((wordsR t).length - 1) []) [60])).2) := by
  rw [tokR, tokW, if_neg (Bool.eq_false_iff.1 h), if_pos h2]
theorem tok_3 (h : (((wordsR t).length : Int) == 1 && Lib.hasPrefix ((wordsR t).getD 0 []) [62, 61]) = false) (h2 : (((wordsR t).length : Int) == 1 && Lib.hasPrefix ((wordsR t).getD ((wordsR t).length - 1) []) [60]) = false) (h3 : (((wordsR t).length : Int) == 1) = true) :
    tokR t = shortB ((wordsR t).getD 0 []) := by
  rw [tokR, tokW, if_neg (Bool.eq_false_iff.1 h), if_neg (Bool.eq_false_iff.1 h2), if_pos h3]
theorem tok_4 (h : (((wordsR t).length : Int) == 1 && Lib.hasPrefix ((wordsR t).getD 0 []) [62, 61]) = false) (h2 : (((wordsR t).length : Int) == 1 && Lib.hasPrefix ((wordsR t).getD ((wordsR t).length - 1) []) [60]) = false) (h3 : (((wordsR t).length : Int) == 1) = false)
    (h4 : ((((wordsR t).length : Int) == 2 && Lib.hasPrefix ((wordsR t).getD 0 []) [62, 61]) && Lib.hasPrefix ((wordsR t).getD ((wordsR t).length - 1) []) [60]) = true) :
    tokR t = (⟨true, true, (parseB (Lib.trimPrefix ((wordsR t).getD 0 []) [62, 61])).1, (parseB (Lib.trimPrefix ((wordsR t).getD ((wordsR t).length - 1) []) [60])).1⟩,
      if (parseB (Lib.trimPrefix ((wordsR t).getD 0 []) [62, 61])).2 == 8 || (parseB (Lib.trimPrefix ((wordsR t).getD ((wordsR t).length - 1) []) [60])).2 == 8 then 8 else firstB (parseB (Lib.trimPrefix ((wordsR t).getD 0 []) [62, 61])).2 (parseB (Lib.trimPrefix ((wordsR t).getD ((wordsR t).length - 1) []) [60])).2) := by
  rw [tokR, tokW, if_neg (Bool.eq_false_iff.1 h), if_neg (Bool.eq_false_iff.1 h2), if_neg (Bool.eq_false_iff.1 h3), if_pos h4]
theorem tok_5 (h : (((wordsR t).length : Int) == 1 && Lib.hasPrefix ((wordsR t).getD 0 []) [62, 61]) = false) (h2 : (((wordsR t).length : Int) == 1 && Lib.hasPrefix ((wordsR t).getD ((wordsR t).length - 1) []) [60]) = false) (h3 : (((wordsR t).length : Int) == 1) = false)
    (h4 : ((((wordsR t).length : Int) == 2 && Lib.hasPrefix ((wordsR t).getD 0 []) [62, 61]) && Lib.hasPrefix ((wordsR t).getD ((wordsR t).length - 1) []) [60]) = false) : tokR t = (Sp.z, 8) := by
  rw [tokR, tokW, if_neg (Bool.eq_false_iff.1 h), if_neg (Bool.eq_false_iff.1 h2), if_neg (Bool.eq_false_iff.1 h3), if_neg (Bool.eq_false_iff.1 h4)]
end
section
variable {s : List UInt8}
theorem rR_large (h : decide ((s.length : Int) > 1000) = true) : rangeR s = ([], 4) := if_pos h
theorem rR_none (h : decide ((s.length : Int) > 1000) = false) (h2 : (s == [110, 111, 110, 101]) = true) : rangeR s = ([], 0) := by
  rw [rangeR, if_neg (Bool.eq_false_iff.1 h), if_pos h2]
theorem rR_bad {i : Nat} (h : decide ((s.length : Int) > 1000) = false) (h2 : (s == [110, 111, 110, 101]) = false) (hi : i < (partsR s).length) (h3 : tokE ((partsR s).getD i []) = 8) : rangeR s = ([], 8) := by
  rw [rangeR, if_neg (Bool.eq_false_iff.1 h), if_neg (Bool.eq_false_iff.1 h2), if_pos (any_hit (d := []) hi (by simpa using h3))]
theorem rR_err (h : decide ((s.length : Int) > 1000) = false) (h2 : (s == [110, 111, 110, 101]) = false) (h3 : (partsR s).any (fun t => tokE t == 8) = false)
    (h4 : (firstB (firstNe ((partsR s).map tokE)) (rangeE ((partsR s).map tokS)) != 0) = true) : rangeR s = ([], firstB (firstNe ((partsR s).map tokE)) (rangeE ((partsR s).map tokS))) := by
  rw [rangeR, if_neg (Bool.eq_false_iff.1 h), if_neg (Bool.eq_false_iff.1 h2), if_neg (Bool.eq_false_iff.1 h3), if_pos h4]
theorem rR_ok (h : decide ((s.length : Int) > 1000) = false) (h2 : (s == [110, 111, 110, 101]) = false) (h3 : (partsR s).any (fun t => tokE t == 8) = false)
    (h4 : (firstB (firstNe ((partsR s).map tokE)) (rangeE ((partsR s).map tokS)) != 0) = false) : rangeR s = ((partsR s).map tokS, 0) := by
  rw [rangeR, if_neg (Bool.eq_false_iff.1 h), if_neg (Bool.eq_false_iff.1 h2), if_neg (Bool.eq_false_iff.1 h3), if_neg (Bool.eq_false_iff.1 h4)]
end
end Go.Proofs.YtnphejkeflngcaaGreatDoor

/- A slice that lies in a box's cell as a row. -/
set_option linter.unusedVariables false
set_option linter.unusedSimpArgs false
namespace Go.Proofs.YtnphejkeflngcaaGreatDoor
open Go Go.RowKit
variable {J : Inv} {k0 : Lens} {E : Env J k0} {P : Program} {n : Nat} {t : Nat → V} {b : List (List C)} {r : List (Option RowO)} {m : List (List (DV × DV))}
def setBox (b : List (List C)) (l j : Nat) (c : C) : List (List C) := match b[l]? with
  | some cs => b.set l (cs.set j c)
  | none => b
theorem W.newRowB {c : Code} {KK : Ex → St → Prop} (l j sz : Nat) (e : TypeId) {cs : List C} {b' : List (List C)} (hb : b[l]? = some cs) (hk : cs[j]? = some (.d .nilsl)) (hb' : forceL (b.set l (cs.set j (.row r.length 0 0 0))) = some b')
    (h : W E P n c KK ⟨t, b', r ++ [some ⟨false, 0, sz, e, []⟩], m⟩) : W E P n c KK ⟨t, b, r, m⟩ := by
  obtain rfl := forceL_eq hb'
  have hlive : ∀ x, (⟨t, b.set l (cs.set j (.row r.length 0 0 0)), r ++ [some ⟨false, 0, sz, e, []⟩], m⟩ : St).live x → (⟨t, b, r, m⟩ : St).live x := fun x hx => by
    cases x with
    | b q => have : q < (b.set l (cs.set j (.row r.length 0 0 0))).length := hx; show q < b.length; simpa using this
    | m q => exact hx
    | r q =>
      obtain ⟨o, ho, hal⟩ := hx
      have ho : (r ++ [some ⟨false, 0, sz, e, []⟩])[q]? = some (some o) := ho
      by_cases hl : q < r.length
      · rw [List.getElem?_append_left hl] at ho; exact ⟨o, ho, hal⟩
      · rw [List.getElem?_append_right (by omega)] at ho
        have : q - r.length = 0 := by have := (List.getElem?_eq_some_iff.1 ho).1; simp at this; omega
        rw [this] at ho
        simp at ho; rw [← ho] at hal; cases hal
  refine h.weaken fun g a w rel => ?_
  have ext : Ext g (⟨t, b, r, m⟩ : St).sh w g (⟨t, b.set l (cs.set j (.row r.length 0 0 0)), r ++ [some ⟨false, 0, sz, e, []⟩], m⟩ : St).sh w := by
    refine ⟨fun _ h => h, fun _ _ => rfl, by simp [St.sh], Nat.le_refl _, by simp [St.sh], fun _ _ => rfl, fun _ _ => rfl, fun q al ver sz' len hq hh => ⟨al, ver, sz', len, ?_, Nat.le_refl _, fun _ => ⟨rfl, rfl, Nat.le_refl _, rfl, rfl, rfl⟩⟩⟩
    have hq' : q < r.length := by simpa [St.sh] using hq
    simpa [St.sh, List.getElem?_append_left hq', List.getElem?_append_left (show q < (r.map (·.map RowO.form)).length by simpa using hq')] using hh
  refine ⟨g, rel.below, rel.ext.trans ext, rel.imlt, rel.imold, fun x hx => rel.own x (hlive x hx), ⟨fun x hx => rel.heap.lt x (hlive x hx), fun x hx => rel.heap.new x (hlive x hx), fun x y hx hy => rel.heap.inj x y (hlive x hx) (hlive y hy), fun q ds hq => ?_, fun q o hq => ?_, fun q es hq => ?_⟩, rel.size, rel.defers, fun i hi => (rel.tmps i hi).mono ext⟩
  · have hq : (b.set l (cs.set j (.row r.length 0 0 0)))[q]? = some ds := hq
    by_cases hql : l = q
    · subst hql
      have hlt := (List.getElem?_eq_some_iff.1 hb).1
      have hds : cs.set j (.row r.length 0 0 0) = ds := by simpa [List.getElem?_set, hlt] using hq
      obtain ⟨vs, ty, h1, h2, h3⟩ := rel.heap.box l cs hb
      refine ⟨vs, ty, h1, by rw [← hds]; simpa using h2, fun k c v hc hv => ?_⟩
      rw [← hds, List.getElem?_set] at hc
      split at hc
      · rename_i hjk
        subst hjk
        split at hc
        · simp only [Option.some.injEq] at hc
          subst hc
          have h4 := h3 j _ v hk hv
          cases h4 with | d _ _ h4 =>
          cases h4
          refine .row _ _ _ _ _ rfl (by simp [St.sh]) (fun al ver' sz' len hh => ?_)
          have : (some (some (al, ver', sz', len)) : Option (Option _)) = some (some (false, 0, sz, 0)) := by rw [← hh]; simp [St.sh, RowO.form]
          simp only [Option.some.injEq, Prod.mk.injEq] at this
          obtain ⟨rfl, rfl, rfl, rfl⟩ := this
          exact ⟨Nat.le_refl _, fun _ => ⟨Nat.le_refl _, by simp⟩⟩
        · cases hc
      · exact (h3 k c v hc hv).mono ext
    · obtain ⟨vs, ty, h1, h2, h3⟩ := rel.heap.box q ds (by simpa [List.getElem?_set, hql] using hq)
      exact ⟨vs, ty, h1, h2, fun k c v hc hv => (h3 k c v hc hv).mono ext⟩
  · have hq : (r ++ [some ⟨false, 0, sz, e, []⟩])[q]? = some (some o) := hq
    by_cases hl : q < r.length
    · rw [List.getElem?_append_left hl] at hq; exact rel.heap.row q o hq
    · rw [List.getElem?_append_right (by omega)] at hq
      have : q - r.length = 0 := by have := (List.getElem?_eq_some_iff.1 hq).1; simp at this; omega
      rw [this] at hq
      simp at hq; rw [← hq]; simp
  · obtain ⟨arr, clock, h1, h2, h3⟩ := rel.heap.map q es hq
    exact ⟨arr, clock, h1, h2, fun i x e hx he => ⟨(h3 i x e hx he).1.mono ext, (h3 i x e hx he).2.mono ext⟩⟩

theorem row_RD {s : St} {g : Gh} {a : Act} {w : World} (rel : Rel E n g s a w) {ri : Nat} {q : RowO} (ho : s.r[ri]? = some (some q)) {v : Value} (hv : RV g s.sh w (.one (.row ri q.ver 0 q.xs.length)) v) :
    RD (fun x => g.im x ∨ (q.al = true ∧ x = g.at_ (.r ri))) w (.vec q.sz q.xs) v := by
  obtain ⟨flat, hown, hnil, hblk, hcells, hrows⟩ := row_form rel ho hv
  rcases hown.2 with ⟨hv2, h0⟩ | ⟨bb, cap, cur, hv2, hb2, hc2, hn2, hm2, hs2, ht2⟩
  · rw [hv2, List.length_eq_zero_iff.1 h0]; exact .empty _ _ _
  · have hal : q.al = true := by
      cases hh : q.al with
      | true => rfl
      | false => have := hnil.2 hh; rw [this] at hv2; cases hv2
    have hbb : bb = g.at_ (.r ri) := by have := hblk hal; rw [hv2] at this; exact Option.some.inj this
    by_cases hne : q.xs = []
    · rw [hv2, hne]; exact .empty _ _ _
    · rw [hv2]
      have hat : ∀ (i j : Nat) (x : List D) (d : D), q.xs[i]? = some x → x[j]? = some d → ∃ v, w.cell? ⟨bb, 0 + i * q.sz + j, none⟩ = some v ∧ RD (fun x => g.im x ∨ (q.al = true ∧ x = g.at_ (.r ri))) w d v := fun i j x d p1 p2 => by
        have hj' : j < q.sz := by
          have h3 := (List.getElem?_eq_some_iff.1 p2).1
          rw [hrows x (List.mem_of_getElem? p1)] at h3; exact h3
        have hi := (List.getElem?_eq_some_iff.1 p1).1
        have hk2 : i * q.sz + j < q.xs.length * q.sz := by
          have := Nat.mul_le_mul_right q.sz (show i + 1 ≤ q.xs.length from hi)
          rw [Nat.add_mul, Nat.one_mul] at this; omega
        have hf : flat[i * q.sz + j]? = some (flat[i * q.sz + j]'(by rw [hown.1]; exact hk2)) := List.getElem?_eq_getElem _
        refine ⟨_, ?_, (hcells i j x d _ p1 p2 hf).mono (fun _ h => .inl h) (fun _ _ => rfl)⟩
        have hf2 : (cur.toList.take (q.xs.length * q.sz))[i * q.sz + j]? = some (flat[i * q.sz + j]'(by rw [hown.1]; exact hk2)) := by rw [ht2]; exact hf
        rw [List.getElem?_take, if_pos hk2] at hf2
        simp only [Nat.zero_add, World.cell?, hc2, Option.isSome_none, Bool.false_eq_true, if_false]
        simpa using hf2
      exact RD.vec q.sz q.xs bb 0 cap (fun i j => (w.cell? ⟨bb, 0 + i * q.sz + j, none⟩).getD undef) hne hn2 (.inr ⟨hal, hbb⟩) hrows
        (fun i j x d p1 p2 => by obtain ⟨v, h3, _⟩ := hat i j x d p1 p2; rw [h3]; rfl)
        (fun i j x d p1 p2 => by obtain ⟨v, h3, h4⟩ := hat i j x d p1 p2; simp only [h3, Option.getD_some]; exact h4)
theorem W.freezeB {c : Code} {KK : Ex → St → Prop} {ri : Nat} {q : RowO} (l j : Nat) {cs : List C} {b' : List (List C)} (hq : r[ri]? = some (some q)) (hb : b[l]? = some cs) (hk : cs[j]? = some (.row ri q.ver 0 q.xs.length)) (hb' : forceL (b.set l (cs.set j (.d (.vec q.sz q.xs)))) = some b')
    (h : W E P n c KK ⟨t, b', r.set ri none, m⟩) : W E P n c KK ⟨t, b, r, m⟩ := by
  obtain rfl := forceL_eq hb'
  have hr : ri < r.length := (List.getElem?_eq_some_iff.1 hq).1
  have hlive : ∀ x, (⟨t, b.set l (cs.set j (.d (.vec q.sz q.xs))), r.set ri none, m⟩ : St).live x → (⟨t, b, r, m⟩ : St).live x ∧ x ≠ .r ri := fun x hx => by
    cases x with
    | b l' => exact ⟨by have : l' < (b.set l (cs.set j (.d (.vec q.sz q.xs)))).length := hx; show l' < b.length; simpa using this, by simp⟩
    | m l => exact ⟨hx, by simp⟩
    | r l =>
      obtain ⟨o, ho, hal⟩ := hx
      have ho : (r.set ri none)[l]? = some (some o) := ho
      by_cases e : ri = l
      · subst e; simp [List.getElem?_set, hr] at ho
      · exact ⟨⟨o, by simpa [List.getElem?_set, e] using ho, hal⟩, fun h => e (by injection h with h; exact h.symm)⟩
  refine h.weaken fun g a w rel => ?_
  have ho : (⟨t, b, r, m⟩ : St).r[ri]? = some (some q) := hq
  have hrl : q.al = true → (⟨t, b, r, m⟩ : St).live (.r ri) := fun h => ⟨q, hq, h⟩
  have ext : Ext g (⟨t, b, r, m⟩ : St).sh w ⟨fun x => g.im x ∨ (q.al = true ∧ x = g.at_ (.r ri)), g.at_, g.off, g.cap⟩ (⟨t, b.set l (cs.set j (.d (.vec q.sz q.xs))), r.set ri none, m⟩ : St).sh w := by
    refine ⟨fun _ h => .inl h, fun _ _ => rfl, by simp [St.sh], Nat.le_refl _, by simp [St.sh], fun _ _ => rfl, fun _ _ => rfl, fun k al ver sz' len hk' hh => ?_⟩
    by_cases e : ri = k
    · subst e; simp [St.sh, List.getElem?_set, hr] at hh
    · exact ⟨al, ver, sz', len, by simpa [St.sh, List.getElem?_set, e] using hh, Nat.le_refl _, fun _ => ⟨rfl, rfl, Nat.le_refl _, rfl, rfl, rfl⟩⟩
  refine ⟨⟨fun x => g.im x ∨ (q.al = true ∧ x = g.at_ (.r ri)), g.at_, g.off, g.cap⟩, rel.below, rel.ext.trans ext, fun x hx => ?_, fun x hx => ?_, fun x hx => rel.own x (hlive x hx).1, ⟨fun x hx => rel.heap.lt x (hlive x hx).1, fun x hx => ?_, fun x y hx hy => rel.heap.inj x y (hlive x hx).1 (hlive y hy).1, fun k ds hk' => ?_, fun k o hk' => ?_, fun k es hk' => ?_⟩, rel.size, rel.defers, fun j' hj => ?_⟩
  · rcases hx with h | ⟨h1, h2⟩
    · exact rel.imlt x h
    · rw [h2]; exact rel.heap.lt _ (hrl h1)
  · rcases hx with h | ⟨h1, h2⟩
    · exact rel.imold x h
    · rw [h2]; exact .inr (rel.own _ (hrl h1))
  · rintro (h | ⟨h1, h2⟩)
    · exact rel.heap.new x (hlive x hx).1 h
    · exact (hlive x hx).2 (rel.heap.inj x _ (hlive x hx).1 (hrl h1) h2)
  · have hk2 : (b.set l (cs.set j (.d (.vec q.sz q.xs))))[k]? = some ds := hk'
    by_cases hql : l = k
    · subst hql
      have hlt := (List.getElem?_eq_some_iff.1 hb).1
      have hds : cs.set j (.d (.vec q.sz q.xs)) = ds := by simpa [List.getElem?_set, hlt] using hk2
      obtain ⟨vs, ty, h1, h2, h3⟩ := rel.heap.box l cs hb
      refine ⟨vs, ty, h1, by rw [← hds]; simpa using h2, fun i c v hc hv => ?_⟩
      rw [← hds, List.getElem?_set] at hc
      split at hc
      · rename_i hjk
        subst hjk
        split at hc
        · simp only [Option.some.injEq] at hc
          subst hc
          exact .d _ _ (row_RD rel ho (.one _ _ (h3 j _ v hk hv)))
        · cases hc
      · exact (h3 i c v hc hv).mono ext
    · obtain ⟨vs, ty, h1, h2, h3⟩ := rel.heap.box k ds (by simpa [List.getElem?_set, hql] using hk2)
      exact ⟨vs, ty, h1, h2, fun i c v hc hv => (h3 i c v hc hv).mono ext⟩
  · have hk' : (r.set ri none)[k]? = some (some o) := hk'
    by_cases e : ri = k
    · subst e; simp [List.getElem?_set, hr] at hk'
    · have h1 := rel.heap.row k o (by simpa [List.getElem?_set, e] using hk')
      by_cases hal : o.al = true
      · rw [if_pos hal] at h1 ⊢
        obtain ⟨vs, t', q1, q2, q3, q4, q5, q6⟩ := h1
        exact ⟨vs, t', q1, q2, q3, q4, q5, fun i j x d v p1 p2 p3 => (q6 i j x d v p1 p2 p3).mono ext.im ext.same⟩
      · rw [if_neg hal] at h1 ⊢; exact h1
  · obtain ⟨arr, clock, h1, h2, h3⟩ := rel.heap.map k es hk'
    exact ⟨arr, clock, h1, h2, fun i x e hx he => ⟨(h3 i x e hx he).1.mono ext, (h3 i x e hx he).2.mono ext⟩⟩
  · exact (rel.tmps j' hj).mono ext

theorem LeV.aggNil (sz : Nat) : LeV (.agg [.d .nilsl]) (.agg [.d (.vec sz [])]) := fun im w v h => by
  cases h with | agg _ vs hl hx =>
  refine .agg _ _ hl (fun i c v hc hv => ?_)
  match i with
  | 0 =>
    simp at hc; subst hc
    have h1 := hx 0 _ v rfl hv
    cases h1 with | d _ _ h1 =>
    cases h1
    exact .d _ _ (.empty _ _ _)
  | i + 1 => simp at hc
end Go.Proofs.YtnphejkeflngcaaGreatDoor

set_option linter.unusedVariables false
set_option linter.unusedSimpArgs false
set_option maxRecDepth 100000
set_option maxHeartbeats 4000000
namespace Go.Proofs.YtnphejkeflngcaaGreatDoor
open Go
open Go.RowKit

def itV (it : It) : V := .agg [.d (.int .u8 it.sign), .d (.str it.first), .d (.str it.last)]
def itD (t : List UInt8) : List D := [.int .u8 (itemB t).1.sign, .str (itemB t).1.first, .str (itemB t).1.last]
theorem sl_tail (s : List UInt8) : V.one (.d (.str ((s.take ((s.length : Int)).toNat).drop (1 : Int).toNat))) = V.one (.d (.str (s.drop 1))) := by simp
theorem le_rgNil {n : Int} {x : List Sp × Int} (h : x = ([], n)) : LeV (.tup [.agg [.d .nilsl], .one (.d (.int .i64 n))]) (.tup [rgV x.1, .one (.d (.int .i64 x.2))]) := by
  subst h; exact LeV.tup2 (LeV.aggNil 10) (LeV.refl _)
theorem le_rg {ss : List Sp} {n : Int} {x : List Sp × Int} (h : x = (ss, n)) : LeV (.tup [.agg [.d (.vec 10 (ss.map spD))], .one (.d (.int .i64 n))]) (.tup [rgV x.1, .one (.d (.int .i64 x.2))]) := by
  subst h; exact LeV.refl _
theorem len_pos {s : List UInt8} {b : Bool} (h : (!(s == []) && b) = true) : (1 : Int) ≤ (s.length : Int) := by
  cases s with
  | nil => simp at h
  | cons a l => simp only [List.length_cons]; omega
theorem pc_verr1' (v : Ver) (he : v.e.length < 4294967281) : PureCall Tryz.prog J 20 [.one (.d (.vec 4 [verD v]))] (.one (.d (.int .i64 v.check))) := pc_verr1 v he

theorem pc_ver_itemOf (s : List UInt8) (hs : s.length < 4294967281) :
    PureCall Tryz.prog J 49 [.one (.d (.str s))] (.tup [itV (itemB s).1, .one (.d (.bool (itemB s).2))]) := by
  have h1 := trim_le s [62, 61]
  have h2 := cut_le (Lib.trimPrefix s [62, 61]) [32]
  have h3 := cut3_le (Lib.trimPrefix s [62, 61]) [32]
  refine PureCall.of_body tOk (fn := Tryz.f49) Tryz.func49 (by kernel_rfl) rfl (Nat.le_of_ble_eq_true rfl) (fun E => ?_)
  refine W.seq ?_
  refine W.region ?_
  refine S.alloc tOk rfl rfl rfl rfl ?_
  refine S.pure tOk zOk rfl rfl rfl ?_
  refine thenK_n ?_
  refine W.seq ?_
  refine W.seq ?_
  refine W.region ?_
  refine S.pure tOk zOk rfl rfl rfl ?_
  refine S.pure tOk zOk rfl rfl rfl ?_
  refine thenK_n ?_
  refine W.cond rfl (fun c1 => ?_) (fun c1 => ?_)
  · skip
    refine W.seq ?_
    refine W.region ?_
    refine S.pure tOk zOk rfl rfl rfl ?_
    refine S.store tOk rfl rfl rfl rfl rfl rfl rfl rfl ?_
    refine S.pure tOk zOk rfl rfl rfl ?_
    refine thenK_n ?_
    refine W.ret ?_
    refine thenK_r ?_
    exact ⟨_, rfl, rfl, LeV.of_force rfl (congrArg (fun x : It × Bool => V.tup [itV x.1, .one (.d (.bool x.2))]) ((if_pos c1) : itemB s = _)).symm⟩
  · skip
    refine W.skip ?_
    refine thenK_n ?_
    refine W.seq ?_
    refine W.region ?_
    refine S.pure tOk zOk rfl rfl rfl ?_
    refine S.pure tOk zOk rfl rfl rfl ?_
    refine S.alloc tOk rfl rfl rfl rfl ?_
    refine S.store tOk rfl rfl rfl rfl rfl rfl rfl rfl ?_
    refine thenK_n ?_
    refine W.seq ?_
    refine W.seq ?_
    refine W.region ?_
    refine S.pure tOk zOk rfl rfl rfl ?_
    refine S.call rfl rfl rfl rfl rfl (pc_CutPrefix s [62, 61]) ?_
    refine S.pure tOk zOk rfl rfl rfl ?_
    refine S.pure tOk zOk rfl rfl rfl ?_
    refine S.pure tOk zOk rfl rfl rfl ?_
    refine S.pure tOk zOk rfl rfl rfl ?_
    refine S.pure tOk zOk rfl rfl rfl ?_
    refine thenK_n ?_
    refine W.seq ?_
    refine W.region ?_
    refine S.pure tOk zOk rfl rfl rfl ?_
    refine thenK_n ?_
    refine W.cond rfl (fun c2 => ?_) (fun c2 => ?_)
    · skip
      refine W.seq ?_
      refine W.region ?_
      refine S.pure tOk zOk rfl rfl rfl ?_
      refine S.pure tOk zOk rfl rfl rfl ?_
      refine S.store tOk rfl rfl rfl rfl rfl rfl rfl rfl ?_
      refine thenK_n ?_
      refine W.seq ?_
      refine W.region ?_
      refine S.pure tOk zOk rfl rfl rfl ?_
      refine S.call rfl rfl rfl rfl rfl (pc_Cut (Lib.trimPrefix s [62, 61]) [32] (by omega)) ?_
      refine S.pure tOk zOk rfl rfl rfl ?_
      refine S.pure tOk zOk rfl rfl rfl ?_
      refine S.pure tOk zOk rfl rfl rfl ?_
      refine S.pure tOk zOk rfl rfl rfl ?_
      refine S.pure tOk zOk rfl rfl rfl ?_
      refine S.pure tOk zOk rfl rfl rfl ?_
      refine S.pure tOk zOk rfl rfl rfl ?_
      refine thenK_n ?_
      refine W.seq ?_
      refine W.region ?_
      refine S.pure tOk zOk rfl rfl rfl ?_
      refine thenK_n ?_
      refine W.cond rfl (fun c3 => ?_) (fun c3 => ?_)
      · skip
        refine W.seq ?_
        refine W.region ?_
        refine S.pure tOk zOk rfl rfl rfl ?_
        refine S.call rfl rfl rfl rfl rfl (pc_CutPrefix (Lib.cut (Lib.trimPrefix s [62, 61]) [32]).2.1 [60]) ?_
        refine S.pure tOk zOk rfl rfl rfl ?_
        refine S.pure tOk zOk rfl rfl rfl ?_
        refine S.pure tOk zOk rfl rfl rfl ?_
        refine S.pure tOk zOk rfl rfl rfl ?_
        refine S.pure tOk zOk rfl rfl rfl ?_
        refine thenK_n ?_
        refine W.seq ?_
        refine W.region ?_
        refine S.pure tOk zOk rfl rfl rfl ?_
        refine S.pure tOk zOk rfl rfl rfl ?_
        refine S.pure tOk zOk rfl rfl rfl ?_
        refine S.pure tOk zOk rfl rfl rfl ?_
        refine S.pure tOk zOk rfl rfl rfl ?_
        refine S.pureG tOk zOk rfl rfl (by repeat first | exact allT_nil | refine allT_cons (fun h => h) ?_ | refine allT_cons (fun h => andl h) ?_ | refine allT_cons (fun h => andl (andl h)) ?_ | refine allT_cons (fun _ => rfl) ?_) (fun _ => rfl) rfl ?_
        refine S.callG rfl rfl rfl rfl (by repeat first | exact allT_nil | refine allT_cons (fun h => h) ?_ | refine allT_cons (fun h => andl h) ?_ | refine allT_cons (fun h => andl (andl h)) ?_ | refine allT_cons (fun _ => rfl) ?_) rfl rfl (fun _ => pc_ver_isRow _ (by first | omega | (simp; omega))) ?_
        refine S.pickAnd tOk zOk rfl rfl (by repeat first | exact allT_nil | refine allT_cons (fun h => h) ?_ | refine allT_cons (fun h => andl h) ?_ | refine allT_cons (fun h => andl (andl h)) ?_ | refine allT_cons (fun _ => rfl) ?_) ?_
        refine S.pure tOk zOk rfl rfl rfl ?_
        refine S.pureG tOk zOk rfl rfl (by repeat first | exact allT_nil | refine allT_cons (fun h => h) ?_ | refine allT_cons (fun h => andl h) ?_ | refine allT_cons (fun h => andl (andl h)) ?_ | refine allT_cons (fun _ => rfl) ?_) (fun _ => rfl) rfl ?_
        refine S.callG rfl rfl rfl rfl (by repeat first | exact allT_nil | refine allT_cons (fun h => h) ?_ | refine allT_cons (fun h => andl h) ?_ | refine allT_cons (fun h => andl (andl h)) ?_ | refine allT_cons (fun _ => rfl) ?_) rfl rfl (fun _ => pc_ver_isRow _ (by first | omega | (simp; omega))) ?_
        refine S.pickAnd tOk zOk rfl rfl (by repeat first | exact allT_nil | refine allT_cons (fun h => h) ?_ | refine allT_cons (fun h => andl h) ?_ | refine allT_cons (fun h => andl (andl h)) ?_ | refine allT_cons (fun _ => rfl) ?_) ?_
        refine S.store tOk rfl rfl rfl rfl rfl rfl rfl rfl ?_
        refine S.pure tOk zOk rfl rfl rfl ?_
        refine thenK_n ?_
        refine W.ret ?_
        refine thenK_r ?_
        exact ⟨_, rfl, rfl, LeV.of_force rfl (congrArg (fun x : It × Bool => V.tup [itV x.1, .one (.d (.bool x.2))]) (((if_neg (Bool.eq_false_iff.1 c1)).trans ((if_pos c2).trans (if_pos c3))) : itemB s = _)).symm⟩
      · skip
        refine W.skip ?_
        refine thenK_n ?_
        refine W.seq ?_
        refine W.regionD mixed (by kernel_rfl) ?_
        refine D.pure tOk zOk rfl rfl rfl rfl ?_
        refine D.pure tOk zOk rfl rfl rfl rfl ?_
        refine D.pure tOk zOk rfl rfl rfl rfl ?_
        refine D.call rfl rfl rfl rfl rfl (pc_ver_isRow _ (by first | omega | (simp; omega))) ?_
        refine D.store tOk rfl rfl rfl rfl rfl rfl rfl rfl ?_
        refine D.pure tOk zOk rfl rfl rfl rfl ?_
        refine thenK_n ?_
        refine W.ret ?_
        exact ⟨_, rfl, rfl, LeV.of_force rfl (congrArg (fun x : It × Bool => V.tup [itV x.1, .one (.d (.bool x.2))]) (((if_neg (Bool.eq_false_iff.1 c1)).trans ((if_pos c2).trans (if_neg (Bool.eq_false_iff.1 c3)))) : itemB s = _)).symm⟩
    · skip
      refine W.seq ?_
      refine W.region ?_
      refine S.pure tOk zOk rfl rfl rfl ?_
      refine S.pure tOk zOk rfl rfl rfl ?_
      refine S.pure tOk zOk rfl rfl rfl ?_
      refine S.pureG tOk zOk rfl rfl (by repeat first | exact allT_nil | refine allT_cons (fun h => h) ?_ | refine allT_cons (fun h => andl h) ?_ | refine allT_cons (fun h => andl (andl h)) ?_ | refine allT_cons (fun _ => rfl) ?_) (fun _ => rfl) rfl ?_
      refine S.pureG tOk zOk rfl rfl (by repeat first | exact allT_nil | refine allT_cons (fun h => h) ?_ | refine allT_cons (fun h => andl h) ?_ | refine allT_cons (fun h => andl (andl h)) ?_ | refine allT_cons (fun _ => rfl) ?_) (fun h => idx_ok (Int.le_refl _) (by have := len_pos (b := true) (by simpa using h); omega)) rfl ?_
      refine S.callG rfl rfl rfl rfl (by repeat first | exact allT_nil | refine allT_cons (fun h => h) ?_ | refine allT_cons (fun h => andl h) ?_ | refine allT_cons (fun h => andl (andl h)) ?_ | refine allT_cons (fun _ => rfl) ?_) rfl rfl (fun _ => pc_IndexByte _ _) ?_
      refine S.pureG tOk zOk rfl rfl (by repeat first | exact allT_nil | refine allT_cons (fun h => h) ?_ | refine allT_cons (fun h => andl h) ?_ | refine allT_cons (fun h => andl (andl h)) ?_ | refine allT_cons (fun _ => rfl) ?_) (fun _ => rfl) rfl ?_
      refine S.pickAnd tOk zOk rfl rfl (by repeat first | exact allT_nil | refine allT_cons (fun h => h) ?_ | refine allT_cons (fun h => andl h) ?_ | refine allT_cons (fun h => andl (andl h)) ?_ | refine allT_cons (fun _ => rfl) ?_) ?_
      refine thenK_n ?_
      refine W.cond rfl (fun c4 => ?_) (fun c4 => ?_)
      · skip
        refine W.regionD mixed (by kernel_rfl) ?_
        refine D.pure tOk zOk rfl rfl rfl rfl ?_
        refine D.pure tOk zOk rfl rfl (idx_ok (Int.le_refl _) (by have := len_pos c4; omega)) rfl ?_
        refine D.pure tOk zOk rfl rfl rfl rfl ?_
        refine D.pureE tOk zOk rfl rfl (sl_ok (l := 1) (h := (s.length : Int)) (n := (s.length : Int)) (by decide) (len_pos c4) (Int.le_refl _)) (sl_tail s) rfl ?_
        refine D.pure tOk zOk rfl rfl rfl rfl ?_
        refine D.store tOk rfl rfl rfl rfl rfl rfl rfl rfl ?_
        refine thenK_n ?_
        refine W.seq ?_
        refine W.regionD mixed (by kernel_rfl) ?_
        refine D.pure tOk zOk rfl rfl rfl rfl ?_
        refine D.pure tOk zOk rfl rfl rfl rfl ?_
        refine D.pure tOk zOk rfl rfl rfl rfl ?_
        refine D.call rfl rfl rfl rfl rfl (pc_ver_isRow _ (by first | omega | (simp; omega))) ?_
        refine D.store tOk rfl rfl rfl rfl rfl rfl rfl rfl ?_
        refine D.pure tOk zOk rfl rfl rfl rfl ?_
        refine thenK_n ?_
        refine W.ret ?_
        exact ⟨_, rfl, rfl, LeV.of_force rfl (congrArg (fun x : It × Bool => V.tup [itV x.1, .one (.d (.bool x.2))]) (((if_neg (Bool.eq_false_iff.1 c1)).trans ((if_neg (Bool.eq_false_iff.1 c2)).trans (if_pos c4))) : itemB s = _)).symm⟩
      · skip
        refine W.skip ?_
        refine thenK_n ?_
        refine W.seq ?_
        refine W.regionD mixed (by kernel_rfl) ?_
        refine D.pure tOk zOk rfl rfl rfl rfl ?_
        refine D.pure tOk zOk rfl rfl rfl rfl ?_
        refine D.pure tOk zOk rfl rfl rfl rfl ?_
        refine D.call rfl rfl rfl rfl rfl (pc_ver_isRow _ (by first | omega | (simp; omega))) ?_
        refine D.store tOk rfl rfl rfl rfl rfl rfl rfl rfl ?_
        refine D.pure tOk zOk rfl rfl rfl rfl ?_
        refine thenK_n ?_
        refine W.ret ?_
        exact ⟨_, rfl, rfl, LeV.of_force rfl (congrArg (fun x : It × Bool => V.tup [itV x.1, .one (.d (.bool x.2))]) (((if_neg (Bool.eq_false_iff.1 c1)).trans ((if_neg (Bool.eq_false_iff.1 c2)).trans (if_neg (Bool.eq_false_iff.1 c4)))) : itemB s = _)).symm⟩

theorem pc_ver_behind (v : Ver) (he : v.e.length < 4294967000) (g : Int) :
    PureCall Tryz.prog J 127 [verV v, .one (.d (.int .u8 g))] (.tup [verV (behindB v g).1, .one (.d (.int .i64 (behindB v g).2))]) := by
  refine PureCall.of_body tOk (fn := Tryz.f127) Tryz.func127 (by kernel_rfl) rfl (Nat.le_of_ble_eq_true rfl) (fun E => ?_)
  refine W.seq ?_
  refine W.region ?_
  refine S.box rfl rfl rfl rfl ?_
  refine S.alloc tOk rfl rfl rfl rfl ?_
  refine S.pure tOk zOk rfl rfl rfl ?_
  refine thenK_n ?_
  refine W.seq ?_
  refine W.block ?_
  refine W.seq ?_
  refine W.region ?_
  refine S.pure tOk zOk rfl rfl rfl ?_
  refine S.pure tOk zOk rfl rfl rfl ?_
  refine S.pure tOk zOk rfl rfl rfl ?_
  refine S.pureG tOk zOk rfl rfl (by repeat first | exact allT_nil | refine allT_cons (fun h => h) ?_ | refine allT_cons (fun h => andl h) ?_ | refine allT_cons (fun h => andl (andl h)) ?_ | refine allT_cons (fun _ => rfl) ?_) (fun _ => rfl) rfl ?_
  refine S.pureG tOk zOk rfl rfl (by repeat first | exact allT_nil | refine allT_cons (fun h => h) ?_ | refine allT_cons (fun h => andl h) ?_ | refine allT_cons (fun h => andl (andl h)) ?_ | refine allT_cons (fun _ => rfl) ?_) (fun _ => rfl) rfl ?_
  refine S.pureG tOk zOk rfl rfl (by repeat first | exact allT_nil | refine allT_cons (fun h => h) ?_ | refine allT_cons (fun h => andl h) ?_ | refine allT_cons (fun h => andl (andl h)) ?_ | refine allT_cons (fun _ => rfl) ?_) (fun _ => rfl) rfl ?_
  refine S.pickAnd tOk zOk rfl rfl (by repeat first | exact allT_nil | refine allT_cons (fun h => h) ?_ | refine allT_cons (fun h => andl h) ?_ | refine allT_cons (fun h => andl (andl h)) ?_ | refine allT_cons (fun _ => rfl) ?_) ?_
  refine S.pure tOk zOk rfl rfl rfl ?_
  refine thenK_n ?_
  refine W.cond rfl (fun c1 => ?_) (fun c1 => ?_)
  · skip
    refine W.seq ?_
    refine W.region ?_
    refine S.pure tOk zOk rfl rfl rfl ?_
    refine S.pure tOk zOk rfl rfl rfl ?_
    refine S.pure tOk zOk rfl (cat_ok (by simp [-List.getD_eq_getElem?_getD]; omega)) rfl ?_
    refine S.pure tOk zOk rfl rfl rfl ?_
    refine S.store tOk rfl rfl rfl rfl rfl rfl rfl rfl ?_
    refine thenK_n ?_
    refine W.seq ?_
    refine W.regionD mixed (by kernel_rfl) ?_
    refine D.pure tOk zOk rfl rfl rfl rfl ?_
    refine D.pure tOk zOk rfl rfl rfl rfl ?_
    refine D.call rfl rfl rfl rfl rfl (pc_ver_Check ⟨v.a, v.b, v.c, v.e ++ [46, 48]⟩ (by simp; omega)) ?_
    refine D.store tOk rfl rfl rfl rfl rfl rfl rfl rfl ?_
    refine D.pure tOk zOk rfl rfl rfl rfl ?_
    refine thenK_n ?_
    refine W.ret ?_
    refine blockK_r ?_
    refine thenK_r ?_
    exact ⟨_, rfl, rfl, LeV.of_force rfl (congrArg (fun x : Ver × Int => V.tup [verV x.1, .one (.d (.int .i64 x.2))]) ((if_pos c1) : behindB v g = _)).symm⟩
  · skip
    refine W.seq ?_
    refine W.region ?_
    refine S.pure tOk zOk rfl rfl rfl ?_
    refine S.pure tOk zOk rfl rfl rfl ?_
    refine S.pure tOk zOk rfl rfl rfl ?_
    refine thenK_n ?_
    refine W.cond rfl (fun c2 => ?_) (fun c2 => ?_)
    · skip
      refine W.seq ?_
      refine W.region ?_
      refine S.pure tOk zOk rfl rfl rfl ?_
      refine S.call rfl rfl rfl rfl rfl (pc_ver_Next v (by omega) 2) ?_
      refine S.pure tOk zOk rfl rfl rfl ?_
      refine S.pure tOk zOk rfl rfl rfl ?_
      refine S.pure tOk zOk rfl rfl rfl ?_
      refine S.alloc tOk rfl rfl rfl rfl ?_
      refine S.store tOk rfl rfl rfl rfl rfl rfl rfl rfl ?_
      refine S.pure tOk zOk rfl rfl rfl ?_
      refine thenK_n ?_
      refine W.seq ?_
      refine W.region ?_
      refine S.pure tOk zOk rfl rfl rfl ?_
      refine S.store tOk rfl rfl rfl rfl rfl rfl rfl rfl ?_
      refine thenK_n ?_
      refine W.seq ?_
      refine W.region ?_
      refine S.pure tOk zOk rfl rfl rfl ?_
      refine S.pure tOk zOk rfl rfl rfl ?_
      refine S.store tOk rfl rfl rfl rfl rfl rfl rfl rfl ?_
      refine S.pure tOk zOk rfl rfl rfl ?_
      refine thenK_n ?_
      refine W.ret ?_
      refine blockK_r ?_
      refine thenK_r ?_
      exact ⟨_, rfl, rfl, LeV.of_force rfl (congrArg (fun x : Ver × Int => V.tup [verV x.1, .one (.d (.int .i64 x.2))]) (((if_neg (Bool.eq_false_iff.1 c1)).trans (if_pos c2)) : behindB v g = _)).symm⟩
    · skip
      refine W.seq ?_
      refine W.region ?_
      refine S.pure tOk zOk rfl rfl rfl ?_
      refine S.pure tOk zOk rfl rfl rfl ?_
      refine S.pure tOk zOk rfl rfl rfl ?_
      refine S.pureG tOk zOk rfl rfl (by repeat first | exact allT_nil | refine allT_cons (fun h => h) ?_ | refine allT_cons (fun h => andl h) ?_ | refine allT_cons (fun h => andl (andl h)) ?_ | refine allT_cons (fun _ => rfl) ?_) (fun _ => rfl) rfl ?_
      refine S.pureG tOk zOk rfl rfl (by repeat first | exact allT_nil | refine allT_cons (fun h => h) ?_ | refine allT_cons (fun h => andl h) ?_ | refine allT_cons (fun h => andl (andl h)) ?_ | refine allT_cons (fun _ => rfl) ?_) (fun _ => rfl) rfl ?_
      refine S.pureG tOk zOk rfl rfl (by repeat first | exact allT_nil | refine allT_cons (fun h => h) ?_ | refine allT_cons (fun h => andl h) ?_ | refine allT_cons (fun h => andl (andl h)) ?_ | refine allT_cons (fun _ => rfl) ?_) (fun _ => rfl) rfl ?_
      refine S.pickAnd tOk zOk rfl rfl (by repeat first | exact allT_nil | refine allT_cons (fun h => h) ?_ | refine allT_cons (fun h => andl h) ?_ | refine allT_cons (fun h => andl (andl h)) ?_ | refine allT_cons (fun _ => rfl) ?_) ?_
      refine S.pure tOk zOk rfl rfl rfl ?_
      refine thenK_n ?_
      refine W.cond rfl (fun c3 => ?_) (fun c3 => ?_)
      · skip
        refine W.seq ?_
        refine W.region ?_
        refine S.pure tOk zOk rfl rfl rfl ?_
        refine S.call rfl rfl rfl rfl rfl (pc_ver_Next v (by omega) 0) ?_
        refine S.pure tOk zOk rfl rfl rfl ?_
        refine S.pure tOk zOk rfl rfl rfl ?_
        refine S.store tOk rfl rfl rfl rfl rfl rfl rfl rfl ?_
        refine S.pure tOk zOk rfl rfl rfl ?_
        refine thenK_n ?_
        refine W.ret ?_
        refine blockK_r ?_
        refine thenK_r ?_
        exact ⟨_, rfl, rfl, LeV.of_force rfl (congrArg (fun x : Ver × Int => V.tup [verV x.1, .one (.d (.int .i64 x.2))]) (((if_neg (Bool.eq_false_iff.1 c1)).trans ((if_neg (Bool.eq_false_iff.1 c2)).trans (if_pos c3))) : behindB v g = _)).symm⟩
      · skip
        refine W.skip ?_
        refine blockK_n ?_
        refine thenK_n ?_
        refine W.seq ?_
        refine W.region ?_
        refine S.pure tOk zOk rfl rfl rfl ?_
        refine S.call rfl rfl rfl rfl rfl (pc_ver_Next v (by omega) 1) ?_
        refine S.pure tOk zOk rfl rfl rfl ?_
        refine S.pure tOk zOk rfl rfl rfl ?_
        refine S.store tOk rfl rfl rfl rfl rfl rfl rfl rfl ?_
        refine S.pure tOk zOk rfl rfl rfl ?_
        refine thenK_n ?_
        refine W.ret ?_
        exact ⟨_, rfl, rfl, LeV.of_force rfl (congrArg (fun x : Ver × Int => V.tup [verV x.1, .one (.d (.int .i64 x.2))]) (((if_neg (Bool.eq_false_iff.1 c1)).trans ((if_neg (Bool.eq_false_iff.1 c2)).trans (if_neg (Bool.eq_false_iff.1 c3)))) : behindB v g = _)).symm⟩

theorem pc_ver_spanOf (it : It) (h1 : it.first.length < 4294967000) (h2 : it.last.length < 4294967000) :
    PureCall Tryz.prog J 51 [itV it] (.tup [spV (spanB it).1, .one (.d (.int .i64 (spanB it).2))]) := by
  have h3 := parse_e it.first
  refine PureCall.of_body tOk (fn := Tryz.f51) Tryz.func51 (by kernel_rfl) rfl (Nat.le_of_ble_eq_true rfl) (fun E => ?_)
  refine W.seq ?_
  refine W.region ?_
  refine S.box rfl rfl rfl rfl ?_
  refine S.alloc tOk rfl rfl rfl rfl ?_
  refine S.pure tOk zOk rfl rfl rfl ?_
  refine thenK_n ?_
  refine W.seq ?_
  refine W.seq ?_
  refine W.region ?_
  refine S.pure tOk zOk rfl rfl rfl ?_
  refine S.pure tOk zOk rfl rfl rfl ?_
  refine S.pure tOk zOk rfl rfl rfl ?_
  refine thenK_n ?_
  refine W.cond rfl (fun c1 => ?_) (fun c1 => ?_)
  · skip
    refine W.seq ?_
    refine W.region ?_
    refine S.pure tOk zOk rfl rfl rfl ?_
    refine S.store tOk rfl rfl rfl rfl rfl rfl rfl rfl ?_
    refine S.pure tOk zOk rfl rfl rfl ?_
    refine thenK_n ?_
    refine W.ret ?_
    refine thenK_r ?_
    exact ⟨_, rfl, rfl, LeV.of_force rfl (congrArg (fun x : Sp × Int => V.tup [spV x.1, .one (.d (.int .i64 x.2))]) ((if_pos c1) : spanB it = _)).symm⟩
  · skip
    refine W.skip ?_
    refine thenK_n ?_
    refine W.seq ?_
    refine W.region ?_
    refine S.pure tOk zOk rfl rfl rfl ?_
    refine S.pure tOk zOk rfl rfl rfl ?_
    refine S.call rfl rfl rfl rfl rfl (pc_ver_Parse it.first (by omega)) ?_
    refine S.pure tOk zOk rfl rfl rfl ?_
    refine S.pure tOk zOk rfl rfl rfl ?_
    refine S.pure tOk zOk rfl rfl rfl ?_
    refine S.alloc tOk rfl rfl rfl rfl ?_
    refine S.store tOk rfl rfl rfl rfl rfl rfl rfl rfl ?_
    refine S.pure tOk zOk rfl rfl rfl ?_
    refine thenK_n ?_
    refine W.seq ?_
    refine W.seq ?_
    refine W.region ?_
    refine S.pure tOk zOk rfl rfl rfl ?_
    refine S.pure tOk zOk rfl rfl rfl ?_
    refine thenK_n ?_
    refine W.cond rfl (fun c2 => ?_) (fun c2 => ?_)
    · skip
      refine W.seq ?_
      refine W.region ?_
      refine S.pure tOk zOk rfl rfl rfl ?_
      refine S.pure tOk zOk rfl rfl rfl ?_
      refine S.store tOk rfl rfl rfl rfl rfl rfl rfl rfl ?_
      refine S.pure tOk zOk rfl rfl rfl ?_
      refine thenK_n ?_
      refine W.ret ?_
      refine thenK_r ?_
      exact ⟨_, rfl, rfl, LeV.of_force rfl (congrArg (fun x : Sp × Int => V.tup [spV x.1, .one (.d (.int .i64 x.2))]) (((if_neg (Bool.eq_false_iff.1 c1)).trans (if_pos c2)) : spanB it = _)).symm⟩
    · skip
      refine W.skip ?_
      refine thenK_n ?_
      refine W.seq ?_
      refine W.seq ?_
      refine W.region ?_
      refine S.pure tOk zOk rfl rfl rfl ?_
      refine S.pure tOk zOk rfl rfl rfl ?_
      refine thenK_n ?_
      refine W.block ?_
      refine W.seq ?_
      refine W.region ?_
      refine S.pure tOk zOk rfl rfl rfl ?_
      refine S.pure tOk zOk rfl rfl rfl ?_
      refine thenK_n ?_
      refine W.cond rfl (fun c3 => ?_) (fun c3 => ?_)
      · skip
        refine W.seq ?_
        refine W.region ?_
        refine S.pure tOk zOk rfl rfl rfl ?_
        refine S.pure tOk zOk rfl rfl rfl ?_
        refine S.store tOk rfl rfl rfl rfl rfl rfl rfl rfl ?_
        refine S.pure tOk zOk rfl rfl rfl ?_
        refine thenK_n ?_
        refine W.ret ?_
        refine blockK_r ?_
        refine thenK_r ?_
        exact ⟨_, rfl, rfl, LeV.of_force rfl (congrArg (fun x : Sp × Int => V.tup [spV x.1, .one (.d (.int .i64 x.2))]) (((if_neg (Bool.eq_false_iff.1 c1)).trans ((if_neg (Bool.eq_false_iff.1 c2)).trans (if_pos c3))) : spanB it = _)).symm⟩
      · skip
        refine W.seq ?_
        refine W.region ?_
        refine S.pure tOk zOk rfl rfl rfl ?_
        refine S.pure tOk zOk rfl rfl rfl ?_
        refine thenK_n ?_
        refine W.cond rfl (fun c4 => ?_) (fun c4 => ?_)
        · skip
          refine W.seq ?_
          refine W.region ?_
          refine S.pure tOk zOk rfl rfl rfl ?_
          refine S.pure tOk zOk rfl rfl rfl ?_
          refine S.store tOk rfl rfl rfl rfl rfl rfl rfl rfl ?_
          refine S.pure tOk zOk rfl rfl rfl ?_
          refine thenK_n ?_
          refine W.ret ?_
          refine blockK_r ?_
          refine thenK_r ?_
          exact ⟨_, rfl, rfl, LeV.of_force rfl (congrArg (fun x : Sp × Int => V.tup [spV x.1, .one (.d (.int .i64 x.2))]) (((if_neg (Bool.eq_false_iff.1 c1)).trans ((if_neg (Bool.eq_false_iff.1 c2)).trans ((if_neg (Bool.eq_false_iff.1 c3)).trans (if_pos c4)))) : spanB it = _)).symm⟩
        · skip
          refine W.seq ?_
          refine W.region ?_
          refine S.pure tOk zOk rfl rfl rfl ?_
          refine S.pure tOk zOk rfl rfl rfl ?_
          refine thenK_n ?_
          refine W.cond rfl (fun c5 => ?_) (fun c5 => ?_)
          · skip
            refine W.seq ?_
            refine W.region ?_
            refine S.pure tOk zOk rfl rfl rfl ?_
            refine S.pure tOk zOk rfl rfl rfl ?_
            refine S.call rfl rfl rfl rfl rfl (pc_ver_Parse it.last (by omega)) ?_
            refine S.pure tOk zOk rfl rfl rfl ?_
            refine S.pure tOk zOk rfl rfl rfl ?_
            refine S.pure tOk zOk rfl rfl rfl ?_
            refine S.alloc tOk rfl rfl rfl rfl ?_
            refine S.store tOk rfl rfl rfl rfl rfl rfl rfl rfl ?_
            refine S.pure tOk zOk rfl rfl rfl ?_
            refine thenK_n ?_
            refine W.seq ?_
            refine W.region ?_
            refine S.pure tOk zOk rfl rfl rfl ?_
            refine S.pure tOk zOk rfl rfl rfl ?_
            refine S.pure tOk zOk rfl rfl rfl ?_
            refine S.pure tOk zOk rfl rfl rfl ?_
            refine S.store tOk rfl rfl rfl rfl rfl rfl rfl rfl ?_
            refine S.pure tOk zOk rfl rfl rfl ?_
            refine thenK_n ?_
            refine W.ret ?_
            refine blockK_r ?_
            refine thenK_r ?_
            exact ⟨_, rfl, rfl, LeV.of_force rfl (congrArg (fun x : Sp × Int => V.tup [spV x.1, .one (.d (.int .i64 x.2))]) (((if_neg (Bool.eq_false_iff.1 c1)).trans ((if_neg (Bool.eq_false_iff.1 c2)).trans ((if_neg (Bool.eq_false_iff.1 c3)).trans ((if_neg (Bool.eq_false_iff.1 c4)).trans (if_pos c5))))) : spanB it = _)).symm⟩
          · skip
            refine W.skip ?_
            refine blockK_n ?_
            refine thenK_n ?_
            refine W.seq ?_
            refine W.region ?_
            refine S.pure tOk zOk rfl rfl rfl ?_
            refine S.pure tOk zOk rfl rfl rfl ?_
            refine S.pure tOk zOk rfl rfl rfl ?_
            refine S.call rfl rfl rfl rfl rfl (pc_ver_behind (parseB it.first).1 (by omega) it.sign) ?_
            refine S.pure tOk zOk rfl rfl rfl ?_
            refine S.pure tOk zOk rfl rfl rfl ?_
            refine S.pure tOk zOk rfl rfl rfl ?_
            refine S.alloc tOk rfl rfl rfl rfl ?_
            refine S.store tOk rfl rfl rfl rfl rfl rfl rfl rfl ?_
            refine S.pure tOk zOk rfl rfl rfl ?_
            refine thenK_n ?_
            refine W.seq ?_
            refine W.region ?_
            refine S.pure tOk zOk rfl rfl rfl ?_
            refine S.pure tOk zOk rfl rfl rfl ?_
            refine S.pure tOk zOk rfl rfl rfl ?_
            refine S.pure tOk zOk rfl rfl rfl ?_
            refine S.store tOk rfl rfl rfl rfl rfl rfl rfl rfl ?_
            refine S.pure tOk zOk rfl rfl rfl ?_
            refine thenK_n ?_
            refine W.ret ?_
            exact ⟨_, rfl, rfl, LeV.of_force rfl (congrArg (fun x : Sp × Int => V.tup [spV x.1, .one (.d (.int .i64 x.2))]) (((if_neg (Bool.eq_false_iff.1 c1)).trans ((if_neg (Bool.eq_false_iff.1 c2)).trans ((if_neg (Bool.eq_false_iff.1 c3)).trans ((if_neg (Bool.eq_false_iff.1 c4)).trans (if_neg (Bool.eq_false_iff.1 c5)))))) : spanB it = _)).symm⟩

theorem pc_ver_ParseRange (s : List UInt8) (hs : s.length < 4294967000) :
    PureCall Tryz.prog J 12 [.one (.d (.str s))] (.tup [rgV (rangeB s).1, .one (.d (.int .i64 (rangeB s).2))]) := by
  have hmany := split_le s [44, 32]
  have hm := fun i => @split_at s [44, 32] i
  refine PureCall.of_body tOk (fn := Tryz.f12) Tryz.func12 (by kernel_rfl) rfl (Nat.le_of_ble_eq_true rfl) (fun E => ?_)
  refine W.seq ?_
  refine W.region ?_
  refine S.alloc tOk rfl rfl rfl rfl ?_
  refine S.pure tOk zOk rfl rfl rfl ?_
  refine thenK_n ?_
  refine W.seq ?_
  refine W.seq ?_
  refine W.region ?_
  refine S.pure tOk zOk rfl rfl rfl ?_
  refine S.pure tOk zOk rfl rfl rfl ?_
  refine S.pure tOk zOk rfl rfl rfl ?_
  refine thenK_n ?_
  refine W.cond rfl (fun c1 => ?_) (fun c1 => ?_)
  · skip
    refine W.seq ?_
    refine W.region ?_
    refine S.pure tOk zOk rfl rfl rfl ?_
    refine S.store tOk rfl rfl rfl rfl rfl rfl rfl rfl ?_
    refine S.pure tOk zOk rfl rfl rfl ?_
    refine thenK_n ?_
    refine W.ret ?_
    refine thenK_r ?_
    exact ⟨_, rfl, rfl, le_rgNil (rB_large c1)⟩
  · skip
    refine W.skip ?_
    refine thenK_n ?_
    refine W.seq ?_
    refine W.seq ?_
    refine W.region ?_
    refine S.pure tOk zOk rfl rfl rfl ?_
    refine S.pure tOk zOk rfl rfl rfl ?_
    refine thenK_n ?_
    refine W.cond rfl (fun c2 => ?_) (fun c2 => ?_)
    · skip
      refine W.seq ?_
      refine W.region ?_
      refine S.pure tOk zOk rfl rfl rfl ?_
      refine S.store tOk rfl rfl rfl rfl rfl rfl rfl rfl ?_
      refine S.pure tOk zOk rfl rfl rfl ?_
      refine thenK_n ?_
      refine W.ret ?_
      refine thenK_r ?_
      exact ⟨_, rfl, rfl, le_rgNil (rB_none c1 c2)⟩
    · skip
      refine W.skip ?_
      refine thenK_n ?_
      refine W.seq ?_
      refine W.region ?_
      refine S.pure tOk zOk rfl rfl rfl ?_
      refine thenK_n ?_
      refine W.seq ?_
      refine W.seq ?_
      refine W.newRow 4 3 89 rfl ?_
      refine W.region ?_
      refine S.pure tOk zOk rfl rfl rfl ?_
      refine S.call rfl rfl rfl rfl rfl (pc_Split s [44, 32] (by omega) (by decide)) ?_
      refine S.pure tOk zOk rfl rfl rfl ?_
      refine S.pure tOk zOk rfl rfl rfl ?_
      refine thenK_n ?_
      refine W.block ?_
      refine W.loop (fun k st => ∃ i : Nat, ∃ v : Nat, ∃ al : Bool, i ≤ (Lib.split s [44, 32]).length ∧ ((Lib.split s [44, 32]).take i).any badB = false ∧ k = (Lib.split s [44, 32]).length - i ∧ ∃ t b2 r2 m2, st = ⟨t, [[.d .nilsl]] ++ b2, [some ⟨al, v, 3, 89, (((Lib.split s [44, 32]).take i).map itD)⟩] ++ r2, [] ++ m2⟩ ∧ holdsL t [(2, .one (.ptr 0 0)), (4, .one (.row 0 v 0 (((Lib.split s [44, 32]).take i).map itD).length)), (23, .one (.d (.vec 1 ((Lib.split s [44, 32]).map fun x => [.str x])))), (24, .one (.d (.int .i64 (((Lib.split s [44, 32]).map fun x => ([.str x] : List D)).length : Int)))), (25, .one (.d (.int .i64 (i : Int))))]) ((Lib.split s [44, 32]).length) ⟨0, 0, false, Nat.zero_le _, by simp, rfl, _, _, _, _, rfl, rfl, rfl, rfl, rfl, rfl, trivial⟩ ?_
      rintro k0 _ ⟨i, v, al, f0_0, f0_1, rfl, t0, bb0, rr0, mm0, rfl, hh0⟩
      refine W.keepR _ _ _ _ _ _ _ hh0 rfl ?_
      refine W.seq ?_
      refine W.region ?_
      refine S.pure tOk zOk rfl rfl rfl ?_
      refine thenK_n ?_
      refine W.seq ?_
      refine W.cond rfl (fun c3 => ?_) (fun c3 => ?_)
      · skip
        have hi := row_lt c3
        refine W.skip ?_
        refine thenK_n ?_
        refine W.seq ?_
        refine W.block ?_
        refine W.seq ?_
        refine W.region ?_
        refine S.pureE tOk zOk rfl (row_ok hi) (row_at [] hi) rfl ?_
        refine S.pure tOk zOk rfl rfl rfl ?_
        refine S.pure tOk zOk rfl rfl rfl ?_
        refine thenK_n ?_
        refine W.seq ?_
        refine W.region ?_
        refine S.pure tOk zOk rfl rfl rfl ?_
        refine S.call rfl rfl rfl rfl rfl (pc_ver_itemOf ((Lib.split s [44, 32]).getD i []) (by have := hm i; omega)) ?_
        refine S.pure tOk zOk rfl rfl rfl ?_
        refine S.pure tOk zOk rfl rfl rfl ?_
        refine S.pure tOk zOk rfl rfl rfl ?_
        refine S.alloc tOk rfl rfl rfl rfl ?_
        refine S.store tOk rfl rfl rfl rfl rfl rfl rfl rfl ?_
        refine S.pure tOk zOk rfl rfl rfl ?_
        refine thenK_n ?_
        refine W.seq ?_
        refine W.seq ?_
        refine W.region ?_
        refine S.pure tOk zOk rfl rfl rfl ?_
        refine S.pure tOk zOk rfl rfl rfl ?_
        refine S.pure tOk zOk rfl rfl rfl ?_
        refine S.pureG tOk zOk rfl rfl (by repeat first | exact allT_nil | refine allT_cons (fun h => h) ?_ | refine allT_cons (fun h => andl h) ?_ | refine allT_cons (fun h => andl (andl h)) ?_ | refine allT_cons (fun _ => rfl) ?_) (fun _ => rfl) rfl ?_
        refine S.pureG tOk zOk rfl rfl (by repeat first | exact allT_nil | refine allT_cons (fun h => h) ?_ | refine allT_cons (fun h => andl h) ?_ | refine allT_cons (fun h => andl (andl h)) ?_ | refine allT_cons (fun _ => rfl) ?_) (fun _ => rfl) rfl ?_
        refine S.pureG tOk zOk rfl rfl (by repeat first | exact allT_nil | refine allT_cons (fun h => h) ?_ | refine allT_cons (fun h => andl h) ?_ | refine allT_cons (fun h => andl (andl h)) ?_ | refine allT_cons (fun _ => rfl) ?_) (fun _ => rfl) rfl ?_
        refine S.pureG tOk zOk rfl rfl (by repeat first | exact allT_nil | refine allT_cons (fun h => h) ?_ | refine allT_cons (fun h => andl h) ?_ | refine allT_cons (fun h => andl (andl h)) ?_ | refine allT_cons (fun _ => rfl) ?_) (fun _ => rfl) rfl ?_
        refine S.pureG tOk zOk rfl rfl (by repeat first | exact allT_nil | refine allT_cons (fun h => h) ?_ | refine allT_cons (fun h => andl h) ?_ | refine allT_cons (fun h => andl (andl h)) ?_ | refine allT_cons (fun _ => rfl) ?_) (fun _ => rfl) rfl ?_
        refine S.pureG tOk zOk rfl rfl (by repeat first | exact allT_nil | refine allT_cons (fun h => h) ?_ | refine allT_cons (fun h => andl h) ?_ | refine allT_cons (fun h => andl (andl h)) ?_ | refine allT_cons (fun _ => rfl) ?_) (fun _ => rfl) rfl ?_
        refine S.callG rfl rfl rfl rfl (by repeat first | exact allT_nil | refine allT_cons (fun h => h) ?_ | refine allT_cons (fun h => andl h) ?_ | refine allT_cons (fun h => andl (andl h)) ?_ | refine allT_cons (fun _ => rfl) ?_) rfl rfl (fun _ => pc_ver_wrong (itemB ((Lib.split s [44, 32]).getD i [])).1.first (by have := hm i; have := item_le ((Lib.split s [44, 32]).getD i []); omega)) ?_
        refine S.pickAndG tOk zOk rfl rfl rfl (by repeat first | exact allT_nil | refine allT_cons (fun h => h) ?_ | refine allT_cons (fun h => andl h) ?_ | refine allT_cons (fun h => andl (andl h)) ?_ | refine allT_cons (fun _ => rfl) ?_) (by repeat first | exact allT_nil | refine allT_cons (fun h => h) ?_ | refine allT_cons (fun h => andl h) ?_ | refine allT_cons (fun h => andl (andl h)) ?_ | refine allT_cons (fun _ => rfl) ?_) ?_
        refine S.pickOr tOk zOk rfl rfl (by repeat first | exact allT_nil | refine allT_cons (fun h => h) ?_ | refine allT_cons (fun h => andl h) ?_ | refine allT_cons (fun h => andl (andl h)) ?_ | refine allT_cons (fun _ => rfl) ?_) ?_
        refine S.pure tOk zOk rfl rfl rfl ?_
        refine S.pureG tOk zOk rfl rfl (by repeat first | exact allT_nil | refine allT_cons (fun h => h) ?_ | refine allT_cons (fun h => andl h) ?_ | refine allT_cons (fun h => andl (andl h)) ?_ | refine allT_cons (fun _ => rfl) ?_) (fun _ => rfl) rfl ?_
        refine S.pureG tOk zOk rfl rfl (by repeat first | exact allT_nil | refine allT_cons (fun h => h) ?_ | refine allT_cons (fun h => andl h) ?_ | refine allT_cons (fun h => andl (andl h)) ?_ | refine allT_cons (fun _ => rfl) ?_) (fun _ => rfl) rfl ?_
        refine S.pureG tOk zOk rfl rfl (by repeat first | exact allT_nil | refine allT_cons (fun h => h) ?_ | refine allT_cons (fun h => andl h) ?_ | refine allT_cons (fun h => andl (andl h)) ?_ | refine allT_cons (fun _ => rfl) ?_) (fun _ => rfl) rfl ?_
        refine S.pureG tOk zOk rfl rfl (by repeat first | exact allT_nil | refine allT_cons (fun h => h) ?_ | refine allT_cons (fun h => andl h) ?_ | refine allT_cons (fun h => andl (andl h)) ?_ | refine allT_cons (fun _ => rfl) ?_) (fun _ => rfl) rfl ?_
        refine S.pureG tOk zOk rfl rfl (by repeat first | exact allT_nil | refine allT_cons (fun h => h) ?_ | refine allT_cons (fun h => andl h) ?_ | refine allT_cons (fun h => andl (andl h)) ?_ | refine allT_cons (fun _ => rfl) ?_) (fun _ => rfl) rfl ?_
        refine S.pureG tOk zOk rfl rfl (by repeat first | exact allT_nil | refine allT_cons (fun h => h) ?_ | refine allT_cons (fun h => andl h) ?_ | refine allT_cons (fun h => andl (andl h)) ?_ | refine allT_cons (fun _ => rfl) ?_) (fun _ => rfl) rfl ?_
        refine S.callG rfl rfl rfl rfl (by repeat first | exact allT_nil | refine allT_cons (fun h => h) ?_ | refine allT_cons (fun h => andl h) ?_ | refine allT_cons (fun h => andl (andl h)) ?_ | refine allT_cons (fun _ => rfl) ?_) rfl rfl (fun _ => pc_ver_wrong (itemB ((Lib.split s [44, 32]).getD i [])).1.last (by have := hm i; have := item_le ((Lib.split s [44, 32]).getD i []); omega)) ?_
        refine S.pickAndG tOk zOk rfl rfl rfl (by repeat first | exact allT_nil | refine allT_cons (fun h => h) ?_ | refine allT_cons (fun h => andl h) ?_ | refine allT_cons (fun h => andl (andl h)) ?_ | refine allT_cons (fun _ => rfl) ?_) (by repeat first | exact allT_nil | refine allT_cons (fun h => h) ?_ | refine allT_cons (fun h => andl h) ?_ | refine allT_cons (fun h => andl (andl h)) ?_ | refine allT_cons (fun _ => rfl) ?_) ?_
        refine S.pickOr tOk zOk rfl rfl (by repeat first | exact allT_nil | refine allT_cons (fun h => h) ?_ | refine allT_cons (fun h => andl h) ?_ | refine allT_cons (fun h => andl (andl h)) ?_ | refine allT_cons (fun _ => rfl) ?_) ?_
        refine thenK_n ?_
        refine W.cond rfl (fun c4 => ?_) (fun c4 => ?_)
        · skip
          refine W.seq ?_
          refine W.region ?_
          refine S.pure tOk zOk rfl rfl rfl ?_
          refine S.store tOk rfl rfl rfl rfl rfl rfl rfl rfl ?_
          refine S.pure tOk zOk rfl rfl rfl ?_
          refine thenK_n ?_
          refine W.ret ?_
          refine thenK_r ?_
          refine blockK_r ?_
          refine thenK_r ?_
          refine thenK_r ?_
          refine blockK_r ?_
          refine thenK_r ?_
          exact ⟨_, rfl, rfl, le_rgNil (rB_bad c1 c2 (any_hit (d := []) hi c4))⟩
        · skip
          refine W.skip ?_
          refine thenK_n ?_
          refine W.region ?_
          refine S.pure tOk zOk rfl rfl rfl ?_
          refine S.pure tOk zOk rfl rfl rfl ?_
          refine S.slice tOk rfl rfl ?_
          refine S.append tOk rfl rfl rfl rfl rfl rfl rfl rfl rfl rfl rfl rfl (by show _ + 1 ≤ _; simp; omega) rfl (take_snoc [] hi) rfl ?_
          refine S.pure tOk zOk rfl rfl rfl ?_
          refine blockK_n ?_
          refine thenK_n ?_
          refine W.region ?_
          refine S.pure tOk zOk rfl rfl rfl ?_
          refine S.pure tOk zOk rfl rfl rfl ?_
          refine loop_n ((Lib.split s [44, 32]).length - (i + 1)) (by omega) ⟨i + 1, _, _, hi, any_take (d := []) hi f0_1 c4, rfl, _, _, _, _, rfl, rfl, rfl, rfl, rfl, inc_i64 (by omega), trivial⟩
      · skip
        have hi := row_ge c3
        refine W.exit ?_
        refine thenK_e ?_
        refine thenK_e ?_
        refine blockK_x ?_
        refine thenK_n ?_
        refine W.seq ?_
        refine W.freeze (q := ⟨_, _, _, _, _⟩) [4] rfl (by intro k hk; simp at hk; subst hk; rfl) ?_
        have hall := any_end hi f0_1
        have hts : (Lib.split s [44, 32]).take i = (Lib.split s [44, 32]) := List.take_of_length_le hi
        rw [hts]
        refine W.region ?_
        refine S.pure tOk zOk rfl rfl rfl ?_
        refine S.alloc tOk rfl rfl rfl rfl ?_
        refine S.store tOk rfl rfl rfl rfl rfl rfl rfl rfl ?_
        refine thenK_n ?_
        refine W.seq ?_
        refine W.seq ?_
        refine W.newRowB 1 0 10 81 rfl rfl rfl ?_
        refine W.region ?_
        refine S.pure tOk zOk rfl rfl rfl ?_
        refine S.pure tOk zOk rfl rfl rfl ?_
        refine S.pure tOk zOk rfl rfl rfl ?_
        refine thenK_n ?_
        refine W.block ?_
        refine W.loop (fun k st => ∃ i : Nat, ∃ v : Nat, ∃ al : Bool, i ≤ (Lib.split s [44, 32]).length ∧ (((Lib.split s [44, 32]).map fun t => (spanB (itemB t).1).2).take i).all (· == 0) = true ∧ k = (Lib.split s [44, 32]).length - i ∧ ∃ t b2 r2 m2, st = ⟨t, [[.d .nilsl], [.row 1 v 0 ((((Lib.split s [44, 32]).take i).map spRes).map spD).length]] ++ b2, [none, some ⟨al, v, 10, 81, ((((Lib.split s [44, 32]).take i).map spRes).map spD)⟩] ++ r2, [] ++ m2⟩ ∧ holdsL t [(2, .one (.ptr 0 0)), (9, .one (.ptr 1 0)), (63, .one (.d (.vec 3 ((Lib.split s [44, 32]).map itD)))), (64, .one (.d (.int .i64 (((Lib.split s [44, 32]).map itD).length : Int)))), (65, .one (.d (.int .i64 (i : Int))))]) ((Lib.split s [44, 32]).length) ⟨0, 0, false, Nat.zero_le _, by simp, rfl, _, _, _, _, rfl, rfl, rfl, rfl, rfl, rfl, trivial⟩ ?_
        rintro k2 _ ⟨i, v, al, f2_0, f2_1, rfl, t2, bb2, rr2, mm2, rfl, hh2⟩
        refine W.keepR _ _ _ _ _ _ _ hh2 rfl ?_
        refine W.seq ?_
        refine W.region ?_
        refine S.pure tOk zOk rfl rfl rfl ?_
        refine thenK_n ?_
        refine W.seq ?_
        refine W.cond rfl (fun c5 => ?_) (fun c5 => ?_)
        · skip
          have hi := row_lt c5
          refine W.skip ?_
          refine thenK_n ?_
          refine W.seq ?_
          refine W.block ?_
          refine W.seq ?_
          refine W.region ?_
          refine S.pureE tOk zOk rfl (row_ok hi) (row_at [] hi) rfl ?_
          refine S.pure tOk zOk rfl rfl rfl ?_
          refine S.alloc tOk rfl rfl rfl rfl ?_
          refine S.store tOk rfl rfl rfl rfl rfl rfl rfl rfl ?_
          refine thenK_n ?_
          refine W.seq ?_
          refine W.region ?_
          refine S.pure tOk zOk rfl rfl rfl ?_
          refine S.call rfl rfl rfl rfl rfl (pc_ver_spanOf (itemB ((Lib.split s [44, 32]).getD i [])).1 (by have := hm i; have := item_le ((Lib.split s [44, 32]).getD i []); omega) (by have := hm i; have := item_le ((Lib.split s [44, 32]).getD i []); omega)) ?_
          refine S.pure tOk zOk rfl rfl rfl ?_
          refine S.pure tOk zOk rfl rfl rfl ?_
          refine S.pure tOk zOk rfl rfl rfl ?_
          refine S.alloc tOk rfl rfl rfl rfl ?_
          refine S.store tOk rfl rfl rfl rfl rfl rfl rfl rfl ?_
          refine S.pure tOk zOk rfl rfl rfl ?_
          refine thenK_n ?_
          refine W.seq ?_
          refine W.seq ?_
          refine W.region ?_
          refine S.pure tOk zOk rfl rfl rfl ?_
          refine S.pure tOk zOk rfl rfl rfl ?_
          refine thenK_n ?_
          refine W.cond rfl (fun c6 => ?_) (fun c6 => ?_)
          · skip
            refine W.seq ?_
            refine W.region ?_
            refine S.pure tOk zOk rfl rfl rfl ?_
            refine S.pure tOk zOk rfl rfl rfl ?_
            refine S.store tOk rfl rfl rfl rfl rfl rfl rfl rfl ?_
            refine S.pure tOk zOk rfl rfl rfl ?_
            refine thenK_n ?_
            refine W.ret ?_
            refine thenK_r ?_
            refine blockK_r ?_
            refine thenK_r ?_
            refine thenK_r ?_
            refine blockK_r ?_
            refine thenK_r ?_
            exact ⟨_, rfl, rfl, le_rgNil (rB_err c1 c2 hall (code_hit hi f2_1 c6) (by simpa using c6))⟩
          · skip
            refine W.skip ?_
            refine thenK_n ?_
            refine W.region ?_
            refine S.pure tOk zOk rfl rfl rfl ?_
            refine S.pure tOk zOk rfl rfl rfl ?_
            refine S.pure tOk zOk rfl rfl rfl ?_
            refine S.slice tOk rfl rfl ?_
            refine S.append tOk rfl rfl rfl rfl rfl rfl rfl rfl rfl rfl rfl rfl (by show _ + 1 ≤ _; simp; omega) rfl (take_snoc2 [] hi) rfl ?_
            refine S.pure tOk zOk rfl rfl rfl ?_
            refine S.store tOk rfl rfl rfl rfl rfl rfl rfl rfl ?_
            refine blockK_n ?_
            refine thenK_n ?_
            refine W.region ?_
            refine S.pure tOk zOk rfl rfl rfl ?_
            refine S.pure tOk zOk rfl rfl rfl ?_
            refine loop_n ((Lib.split s [44, 32]).length - (i + 1)) (by omega) ⟨i + 1, _, _, hi, all_take_succ (d := 0) (by simpa using hi) f2_1 (code_go hi c6), rfl, _, _, _, _, rfl, rfl, rfl, rfl, rfl, inc_i64 (by omega), trivial⟩
        · skip
          have hi := row_ge c5
          refine W.exit ?_
          refine thenK_e ?_
          refine thenK_e ?_
          refine blockK_x ?_
          refine thenK_n ?_
          refine W.seq ?_
          refine W.seq ?_
          refine W.freezeB (ri := 1) (q := ⟨_, _, _, _, _⟩) 1 0 rfl rfl rfl rfl ?_
          have hcode := code_end hi f2_1
          have hts2 : (Lib.split s [44, 32]).take i = (Lib.split s [44, 32]) := List.take_of_length_le hi
          rw [hts2]
          have hsp : ∀ u ∈ (Lib.split s [44, 32]).map spRes, SpLen u := fun u hu => by
            obtain ⟨x, hx, rfl⟩ := List.mem_map.1 hu
            have h1 := span_e x
            have h2 : x.length ≤ s.length := split_mem hx
            unfold spRes SpLen; omega
          refine W.region ?_
          refine S.pure tOk zOk rfl rfl rfl ?_
          refine S.call rfl rfl rfl rfl rfl (pc_ver_CheckRange ((Lib.split s [44, 32]).map spRes) (by have := c1; simp at this ⊢; omega) hsp) ?_
          refine S.pure tOk zOk rfl rfl rfl ?_
          refine thenK_n ?_
          refine W.seq ?_
          refine W.region ?_
          refine S.pure tOk zOk rfl rfl rfl ?_
          refine S.pure tOk zOk rfl rfl rfl ?_
          refine thenK_n ?_
          refine W.cond rfl (fun c7 => ?_) (fun c7 => ?_)
          · skip
            refine W.seq ?_
            refine W.region ?_
            refine S.pure tOk zOk rfl rfl rfl ?_
            refine S.pure tOk zOk rfl rfl rfl ?_
            refine S.store tOk rfl rfl rfl rfl rfl rfl rfl rfl ?_
            refine S.pure tOk zOk rfl rfl rfl ?_
            refine thenK_n ?_
            refine W.ret ?_
            refine thenK_r ?_
            exact ⟨_, rfl, rfl, le_rgNil (rB_range c1 c2 hall hcode c7)⟩
          · skip
            refine W.skip ?_
            refine thenK_n ?_
            refine W.seq ?_
            refine W.region ?_
            refine S.pure tOk zOk rfl rfl rfl ?_
            refine S.store tOk rfl rfl rfl rfl rfl rfl rfl rfl ?_
            refine S.pure tOk zOk rfl rfl rfl ?_
            refine thenK_n ?_
            refine W.ret ?_
            exact ⟨_, rfl, rfl, le_rg (rB_ok c1 c2 hall hcode c7)⟩

end Go.Proofs.YtnphejkeflngcaaGreatDoor

set_option linter.unusedVariables false
set_option linter.unusedSimpArgs false
set_option maxRecDepth 100000
set_option maxHeartbeats 4000000
namespace Go.Proofs.YtnphejkeflngcaaGreatDoor
open Go
open Go.RowKit
attribute [local irreducible] parseB nextB Lib.split Lib.trimPrefix Lib.hasPrefix

theorem row_last {α : Type} {f : α → List D} {l : List α} (d : α) (h : 0 < l.length) (hl : l.length ≤ 4611686018427387904) : V.one (.eptr ((l.map f).getD (IntKind.i64.wrap (((l.map f).length : Int) - 1)).toNat [])) = V.one (.eptr (f (l.getD (l.length - 1) d))) := by
  rw [show ((l.map f).length : Int) = (l.length : Int) by simp, pred_nat hl]
  simp [List.getD_eq_getElem?_getD, show l.length - 1 < l.length by omega]
theorem last_ok {α : Type} {f : α → List D} {l : List α} (h : 0 < l.length) (hl : l.length ≤ 4611686018427387904) :
    (decide (0 ≤ IntKind.i64.wrap (((l.map f).length : Int) - 1)) && decide (IntKind.i64.wrap (((l.map f).length : Int) - 1) < ((l.map f).length : Int))) = true := by
  have e : IntKind.i64.wrap (((l.map f).length : Int) - 1) = (l.length : Int) - 1 := by rw [show ((l.map f).length : Int) = (l.length : Int) by simp]; exact wrap_i64 (by omega) (by omega)
  rw [e]; simp; omega

theorem pc_outref2_upTo (v w : Ver) :
    PureCall Tryz.prog J 130 [verV v, verV w] (.agg [.d (.bool true), .d (.bool true), .d (.int .i64 v.a), .d (.int .i64 v.b), .d (.int .i64 v.c), .d (.str v.e), .d (.int .i64 w.a), .d (.int .i64 w.b), .d (.int .i64 w.c), .d (.str w.e)]) := by
  refine PureCall.of_body tOk (fn := Tryz.f130) Tryz.func130 (by kernel_rfl) rfl (Nat.le_of_ble_eq_true rfl) (fun E => ?_)
  refine W.seq ?_
  refine W.region ?_
  refine S.box rfl rfl rfl rfl ?_
  refine S.box rfl rfl rfl rfl ?_
  refine S.alloc tOk rfl rfl rfl rfl ?_
  refine thenK_n ?_
  refine W.seq ?_
  refine W.region ?_
  refine S.pure tOk zOk rfl rfl rfl ?_
  refine S.pure tOk zOk rfl rfl rfl ?_
  refine S.pure tOk zOk rfl rfl rfl ?_
  refine S.store tOk rfl rfl rfl rfl rfl rfl rfl rfl ?_
  refine thenK_n ?_
  refine W.ret ?_
  exact ⟨_, rfl, rfl, LeV.refl _⟩

theorem pc_outref2_shortSpan (s : List UInt8) (hs : s.length < 4294967000) :
    PureCall Tryz.prog J 55 [.one (.d (.str s))] (.tup [spV (shortB s).1, .one (.d (.int .i64 (shortB s).2))]) := by
  have h1 := parse_e s
  have h2 := parse_e (s.drop 1)
  simp only [List.length_drop] at h2
  refine PureCall.of_body tOk (fn := Tryz.f55) Tryz.func55 (by kernel_rfl) rfl (Nat.le_of_ble_eq_true rfl) (fun E => ?_)
  refine W.seq ?_
  refine W.region ?_
  refine S.alloc tOk rfl rfl rfl rfl ?_
  refine S.pure tOk zOk rfl rfl rfl ?_
  refine thenK_n ?_
  refine W.seq ?_
  refine W.seq ?_
  refine W.region ?_
  refine S.pure tOk zOk rfl rfl rfl ?_
  refine S.pure tOk zOk rfl rfl rfl ?_
  refine thenK_n ?_
  refine W.cond rfl (fun c1 => ?_) (fun c1 => ?_)
  · skip
    refine W.seq ?_
    refine W.region ?_
    refine S.pure tOk zOk rfl rfl rfl ?_
    refine S.store tOk rfl rfl rfl rfl rfl rfl rfl rfl ?_
    refine S.pure tOk zOk rfl rfl rfl ?_
    refine thenK_n ?_
    refine W.ret ?_
    refine thenK_r ?_
    exact ⟨_, rfl, rfl, LeV.of_force rfl (congrArg (fun x : Sp × Int => V.tup [spV x.1, .one (.d (.int .i64 x.2))]) ((if_pos c1) : shortB s = _)).symm⟩
  · skip
    refine W.skip ?_
    refine thenK_n ?_
    refine W.seq ?_
    refine W.region ?_
    refine S.pure tOk zOk rfl rfl rfl ?_
    refine thenK_n ?_
    refine W.seq ?_
    refine W.seq ?_
    refine W.region ?_
    refine S.pure tOk zOk rfl rfl rfl ?_
    refine S.pure tOk zOk rfl rfl rfl ?_
    refine S.pure tOk zOk rfl rfl rfl ?_
    refine S.pureG tOk zOk rfl rfl (by repeat first | exact allT_nil | refine allT_cons (fun h => h) ?_ | refine allT_cons (fun h => andl h) ?_ | refine allT_cons (fun h => andl (andl h)) ?_ | refine allT_cons (fun _ => rfl) ?_) (fun _ => rfl) rfl ?_
    refine S.pureG tOk zOk rfl rfl (by repeat first | exact allT_nil | refine allT_cons (fun h => h) ?_ | refine allT_cons (fun h => andl h) ?_ | refine allT_cons (fun h => andl (andl h)) ?_ | refine allT_cons (fun _ => rfl) ?_) (fun h => idx_ok (Int.le_refl _) (by have := len_pos (b := true) (by simpa using h); omega)) rfl ?_
    refine S.callG rfl rfl rfl rfl (by repeat first | exact allT_nil | refine allT_cons (fun h => h) ?_ | refine allT_cons (fun h => andl h) ?_ | refine allT_cons (fun h => andl (andl h)) ?_ | refine allT_cons (fun _ => rfl) ?_) rfl rfl (fun _ => pc_IndexByte _ _) ?_
    refine S.pureG tOk zOk rfl rfl (by repeat first | exact allT_nil | refine allT_cons (fun h => h) ?_ | refine allT_cons (fun h => andl h) ?_ | refine allT_cons (fun h => andl (andl h)) ?_ | refine allT_cons (fun _ => rfl) ?_) (fun _ => rfl) rfl ?_
    refine S.pickAnd tOk zOk rfl rfl (by repeat first | exact allT_nil | refine allT_cons (fun h => h) ?_ | refine allT_cons (fun h => andl h) ?_ | refine allT_cons (fun h => andl (andl h)) ?_ | refine allT_cons (fun _ => rfl) ?_) ?_
    refine thenK_n ?_
    refine W.cond rfl (fun c2 => ?_) (fun c2 => ?_)
    · skip
      refine W.regionD mixed (by kernel_rfl) ?_
      refine D.pure tOk zOk rfl rfl rfl rfl ?_
      refine D.pure tOk zOk rfl rfl (idx_ok (Int.le_refl _) (by have := len_pos c2; omega)) rfl ?_
      refine D.pure tOk zOk rfl rfl rfl rfl ?_
      refine D.pureE tOk zOk rfl rfl (sl_ok (l := 1) (h := (s.length : Int)) (n := (s.length : Int)) (by decide) (len_pos c2) (Int.le_refl _)) (sl_tail s) rfl ?_
      refine D.pure tOk zOk rfl rfl rfl rfl ?_
      refine D.pure tOk zOk rfl rfl rfl rfl ?_
      refine thenK_n ?_
      refine W.seq ?_
      refine W.region ?_
      refine S.pure tOk zOk rfl rfl rfl ?_
      refine S.call rfl rfl rfl rfl rfl (pc_outref2_ReadVersion (s.drop 1) (by simp; omega)) ?_
      refine S.pure tOk zOk rfl rfl rfl ?_
      refine S.pure tOk zOk rfl rfl rfl ?_
      refine S.pure tOk zOk rfl rfl rfl ?_
      refine S.alloc tOk rfl rfl rfl rfl ?_
      refine S.store tOk rfl rfl rfl rfl rfl rfl rfl rfl ?_
      refine S.pure tOk zOk rfl rfl rfl ?_
      refine thenK_n ?_
      refine W.seq ?_
      refine W.seq ?_
      refine W.region ?_
      refine S.pure tOk zOk rfl rfl rfl ?_
      refine S.pure tOk zOk rfl rfl rfl ?_
      refine thenK_n ?_
      refine W.cond rfl (fun c3 => ?_) (fun c3 => ?_)
      · skip
        refine W.seq ?_
        refine W.region ?_
        refine S.pure tOk zOk rfl rfl rfl ?_
        refine S.pure tOk zOk rfl rfl rfl ?_
        refine S.store tOk rfl rfl rfl rfl rfl rfl rfl rfl ?_
        refine S.pure tOk zOk rfl rfl rfl ?_
        refine thenK_n ?_
        refine W.ret ?_
        refine thenK_r ?_
        exact ⟨_, rfl, rfl, LeV.of_force rfl (congrArg (fun x : Sp × Int => V.tup [spV x.1, .one (.d (.int .i64 x.2))]) (((if_neg (Bool.eq_false_iff.1 c1)).trans ((if_pos c2).trans (if_pos c3))) : shortB s = _)).symm⟩
      · skip
        refine W.skip ?_
        refine thenK_n ?_
        refine W.seq ?_
        refine W.region ?_
        refine S.pure tOk zOk rfl rfl rfl ?_
        refine S.alloc tOk rfl rfl rfl rfl ?_
        refine S.store tOk rfl rfl rfl rfl rfl rfl rfl rfl ?_
        refine thenK_n ?_
        refine W.seq ?_
        refine W.block ?_
        refine W.seq ?_
        refine W.region ?_
        refine S.pure tOk zOk rfl rfl rfl ?_
        refine S.pure tOk zOk rfl rfl rfl ?_
        refine S.pure tOk zOk rfl rfl rfl ?_
        refine S.pureG tOk zOk rfl rfl (by repeat first | exact allT_nil | refine allT_cons (fun h => h) ?_ | refine allT_cons (fun h => andl h) ?_ | refine allT_cons (fun h => andl (andl h)) ?_ | refine allT_cons (fun _ => rfl) ?_) (fun _ => rfl) rfl ?_
        refine S.pureG tOk zOk rfl rfl (by repeat first | exact allT_nil | refine allT_cons (fun h => h) ?_ | refine allT_cons (fun h => andl h) ?_ | refine allT_cons (fun h => andl (andl h)) ?_ | refine allT_cons (fun _ => rfl) ?_) (fun _ => rfl) rfl ?_
        refine S.pureG tOk zOk rfl rfl (by repeat first | exact allT_nil | refine allT_cons (fun h => h) ?_ | refine allT_cons (fun h => andl h) ?_ | refine allT_cons (fun h => andl (andl h)) ?_ | refine allT_cons (fun _ => rfl) ?_) (fun _ => rfl) rfl ?_
        refine S.pickAnd tOk zOk rfl rfl (by repeat first | exact allT_nil | refine allT_cons (fun h => h) ?_ | refine allT_cons (fun h => andl h) ?_ | refine allT_cons (fun h => andl (andl h)) ?_ | refine allT_cons (fun _ => rfl) ?_) ?_
        refine S.pure tOk zOk rfl rfl rfl ?_
        refine thenK_n ?_
        refine W.cond rfl (fun c4 => ?_) (fun c4 => ?_)
        · skip
          refine W.seq ?_
          refine W.region ?_
          refine S.pure tOk zOk rfl rfl rfl ?_
          refine S.pure tOk zOk rfl rfl rfl ?_
          refine S.pure tOk zOk rfl (cat_ok (by simp [-List.getD_eq_getElem?_getD, -List.drop_one]; omega)) rfl ?_
          refine S.pure tOk zOk rfl rfl rfl ?_
          refine S.store tOk rfl rfl rfl rfl rfl rfl rfl rfl ?_
          refine thenK_n ?_
          refine W.seq ?_
          refine W.regionD mixed (by kernel_rfl) ?_
          refine D.pure tOk zOk rfl rfl rfl rfl ?_
          refine D.pure tOk zOk rfl rfl rfl rfl ?_
          refine D.call rfl rfl rfl rfl rfl (pc_outref2_upTo (parseB (s.drop 1)).1 ⟨(parseB (s.drop 1)).1.a, (parseB (s.drop 1)).1.b, (parseB (s.drop 1)).1.c, (parseB (s.drop 1)).1.e ++ [46, 48]⟩) ?_
          refine D.pure tOk zOk rfl rfl rfl rfl ?_
          refine D.slice tOk rfl rfl ?_
          refine D.call rfl rfl rfl rfl rfl (pc_verr1 ⟨(parseB (s.drop 1)).1.a, (parseB (s.drop 1)).1.b, (parseB (s.drop 1)).1.c, (parseB (s.drop 1)).1.e ++ [46, 48]⟩ (by simp [-List.drop_one]; omega)) ?_
          refine D.store tOk rfl rfl rfl rfl rfl rfl rfl rfl ?_
          refine D.pure tOk zOk rfl rfl rfl rfl ?_
          refine thenK_n ?_
          refine W.ret ?_
          refine blockK_r ?_
          refine thenK_r ?_
          exact ⟨_, rfl, rfl, LeV.of_force rfl (congrArg (fun x : Sp × Int => V.tup [spV x.1, .one (.d (.int .i64 x.2))]) (((if_neg (Bool.eq_false_iff.1 c1)).trans ((if_pos c2).trans ((if_neg (Bool.eq_false_iff.1 c3)).trans (if_pos c4)))) : shortB s = _)).symm⟩
        · skip
          refine W.seq ?_
          refine W.region ?_
          refine S.pure tOk zOk rfl rfl rfl ?_
          refine S.pure tOk zOk rfl rfl rfl ?_
          refine S.pure tOk zOk rfl rfl rfl ?_
          refine thenK_n ?_
          refine W.cond rfl (fun c5 => ?_) (fun c5 => ?_)
          · skip
            refine W.seq ?_
            refine W.region ?_
            refine S.pure tOk zOk rfl rfl rfl ?_
            refine S.call rfl rfl rfl rfl rfl (pc_outref2_NextOf (parseB (s.drop 1)).1 (by omega) 2) ?_
            refine S.pure tOk zOk rfl rfl rfl ?_
            refine S.pure tOk zOk rfl rfl rfl ?_
            refine S.pure tOk zOk rfl rfl rfl ?_
            refine S.store tOk rfl rfl rfl rfl rfl rfl rfl rfl ?_
            refine S.pure tOk zOk rfl rfl rfl ?_
            refine thenK_n ?_
            refine W.region ?_
            refine S.pure tOk zOk rfl rfl rfl ?_
            refine S.store tOk rfl rfl rfl rfl rfl rfl rfl rfl ?_
            refine blockK_n ?_
            refine thenK_n ?_
            refine W.seq ?_
            refine W.region ?_
            refine S.pure tOk zOk rfl rfl rfl ?_
            refine S.pure tOk zOk rfl rfl rfl ?_
            refine S.call rfl rfl rfl rfl rfl (pc_outref2_upTo (parseB (s.drop 1)).1 ⟨(nextB (parseB (s.drop 1)).1 2).1.a, (nextB (parseB (s.drop 1)).1 2).1.b, (nextB (parseB (s.drop 1)).1 2).1.c, [48]⟩) ?_
            refine S.pure tOk zOk rfl rfl rfl ?_
            refine S.store tOk rfl rfl rfl rfl rfl rfl rfl rfl ?_
            refine S.pure tOk zOk rfl rfl rfl ?_
            refine thenK_n ?_
            refine W.ret ?_
            exact ⟨_, rfl, rfl, LeV.of_force rfl (congrArg (fun x : Sp × Int => V.tup [spV x.1, .one (.d (.int .i64 x.2))]) (((if_neg (Bool.eq_false_iff.1 c1)).trans ((if_pos c2).trans ((if_neg (Bool.eq_false_iff.1 c3)).trans ((if_neg (Bool.eq_false_iff.1 c4)).trans (if_pos c5))))) : shortB s = _)).symm⟩
          · skip
            refine W.seq ?_
            refine W.region ?_
            refine S.pure tOk zOk rfl rfl rfl ?_
            refine S.pure tOk zOk rfl rfl rfl ?_
            refine S.pure tOk zOk rfl rfl rfl ?_
            refine S.pureG tOk zOk rfl rfl (by repeat first | exact allT_nil | refine allT_cons (fun h => h) ?_ | refine allT_cons (fun h => andl h) ?_ | refine allT_cons (fun h => andl (andl h)) ?_ | refine allT_cons (fun _ => rfl) ?_) (fun _ => rfl) rfl ?_
            refine S.pureG tOk zOk rfl rfl (by repeat first | exact allT_nil | refine allT_cons (fun h => h) ?_ | refine allT_cons (fun h => andl h) ?_ | refine allT_cons (fun h => andl (andl h)) ?_ | refine allT_cons (fun _ => rfl) ?_) (fun _ => rfl) rfl ?_
            refine S.pureG tOk zOk rfl rfl (by repeat first | exact allT_nil | refine allT_cons (fun h => h) ?_ | refine allT_cons (fun h => andl h) ?_ | refine allT_cons (fun h => andl (andl h)) ?_ | refine allT_cons (fun _ => rfl) ?_) (fun _ => rfl) rfl ?_
            refine S.pickAnd tOk zOk rfl rfl (by repeat first | exact allT_nil | refine allT_cons (fun h => h) ?_ | refine allT_cons (fun h => andl h) ?_ | refine allT_cons (fun h => andl (andl h)) ?_ | refine allT_cons (fun _ => rfl) ?_) ?_
            refine S.pure tOk zOk rfl rfl rfl ?_
            refine thenK_n ?_
            refine W.cond rfl (fun c6 => ?_) (fun c6 => ?_)
            · skip
              refine W.region ?_
              refine S.pure tOk zOk rfl rfl rfl ?_
              refine S.call rfl rfl rfl rfl rfl (pc_outref2_NextOf (parseB (s.drop 1)).1 (by omega) 0) ?_
              refine S.pure tOk zOk rfl rfl rfl ?_
              refine S.pure tOk zOk rfl rfl rfl ?_
              refine S.pure tOk zOk rfl rfl rfl ?_
              refine S.store tOk rfl rfl rfl rfl rfl rfl rfl rfl ?_
              refine S.pure tOk zOk rfl rfl rfl ?_
              refine blockK_n ?_
              refine thenK_n ?_
              refine W.seq ?_
              refine W.region ?_
              refine S.pure tOk zOk rfl rfl rfl ?_
              refine S.pure tOk zOk rfl rfl rfl ?_
              refine S.call rfl rfl rfl rfl rfl (pc_outref2_upTo (parseB (s.drop 1)).1 (nextB (parseB (s.drop 1)).1 0).1) ?_
              refine S.pure tOk zOk rfl rfl rfl ?_
              refine S.store tOk rfl rfl rfl rfl rfl rfl rfl rfl ?_
              refine S.pure tOk zOk rfl rfl rfl ?_
              refine thenK_n ?_
              refine W.ret ?_
              exact ⟨_, rfl, rfl, LeV.of_force rfl (congrArg (fun x : Sp × Int => V.tup [spV x.1, .one (.d (.int .i64 x.2))]) (((if_neg (Bool.eq_false_iff.1 c1)).trans ((if_pos c2).trans ((if_neg (Bool.eq_false_iff.1 c3)).trans ((if_neg (Bool.eq_false_iff.1 c4)).trans ((if_neg (Bool.eq_false_iff.1 c5)).trans (if_pos c6)))))) : shortB s = _)).symm⟩
            · skip
              refine W.region ?_
              refine S.pure tOk zOk rfl rfl rfl ?_
              refine S.call rfl rfl rfl rfl rfl (pc_outref2_NextOf (parseB (s.drop 1)).1 (by omega) 1) ?_
              refine S.pure tOk zOk rfl rfl rfl ?_
              refine S.pure tOk zOk rfl rfl rfl ?_
              refine S.pure tOk zOk rfl rfl rfl ?_
              refine S.store tOk rfl rfl rfl rfl rfl rfl rfl rfl ?_
              refine S.pure tOk zOk rfl rfl rfl ?_
              refine blockK_n ?_
              refine thenK_n ?_
              refine W.seq ?_
              refine W.region ?_
              refine S.pure tOk zOk rfl rfl rfl ?_
              refine S.pure tOk zOk rfl rfl rfl ?_
              refine S.call rfl rfl rfl rfl rfl (pc_outref2_upTo (parseB (s.drop 1)).1 (nextB (parseB (s.drop 1)).1 1).1) ?_
              refine S.pure tOk zOk rfl rfl rfl ?_
              refine S.store tOk rfl rfl rfl rfl rfl rfl rfl rfl ?_
              refine S.pure tOk zOk rfl rfl rfl ?_
              refine thenK_n ?_
              refine W.ret ?_
              exact ⟨_, rfl, rfl, LeV.of_force rfl (congrArg (fun x : Sp × Int => V.tup [spV x.1, .one (.d (.int .i64 x.2))]) (((if_neg (Bool.eq_false_iff.1 c1)).trans ((if_pos c2).trans ((if_neg (Bool.eq_false_iff.1 c3)).trans ((if_neg (Bool.eq_false_iff.1 c4)).trans ((if_neg (Bool.eq_false_iff.1 c5)).trans (if_neg (Bool.eq_false_iff.1 c6))))))) : shortB s = _)).symm⟩
    · skip
      refine W.skip ?_
      refine thenK_n ?_
      refine W.seq ?_
      refine W.region ?_
      refine S.pure tOk zOk rfl rfl rfl ?_
      refine S.call rfl rfl rfl rfl rfl (pc_outref2_ReadVersion s (by omega)) ?_
      refine S.pure tOk zOk rfl rfl rfl ?_
      refine S.pure tOk zOk rfl rfl rfl ?_
      refine S.pure tOk zOk rfl rfl rfl ?_
      refine S.alloc tOk rfl rfl rfl rfl ?_
      refine S.store tOk rfl rfl rfl rfl rfl rfl rfl rfl ?_
      refine S.pure tOk zOk rfl rfl rfl ?_
      refine thenK_n ?_
      refine W.seq ?_
      refine W.seq ?_
      refine W.region ?_
      refine S.pure tOk zOk rfl rfl rfl ?_
      refine S.pure tOk zOk rfl rfl rfl ?_
      refine thenK_n ?_
      refine W.cond rfl (fun c7 => ?_) (fun c7 => ?_)
      · skip
        refine W.seq ?_
        refine W.region ?_
        refine S.pure tOk zOk rfl rfl rfl ?_
        refine S.pure tOk zOk rfl rfl rfl ?_
        refine S.store tOk rfl rfl rfl rfl rfl rfl rfl rfl ?_
        refine S.pure tOk zOk rfl rfl rfl ?_
        refine thenK_n ?_
        refine W.ret ?_
        refine thenK_r ?_
        exact ⟨_, rfl, rfl, LeV.of_force rfl (congrArg (fun x : Sp × Int => V.tup [spV x.1, .one (.d (.int .i64 x.2))]) (((if_neg (Bool.eq_false_iff.1 c1)).trans ((if_neg (Bool.eq_false_iff.1 c2)).trans (if_pos c7))) : shortB s = _)).symm⟩
      · skip
        refine W.skip ?_
        refine thenK_n ?_
        refine W.seq ?_
        refine W.region ?_
        refine S.pure tOk zOk rfl rfl rfl ?_
        refine S.alloc tOk rfl rfl rfl rfl ?_
        refine S.store tOk rfl rfl rfl rfl rfl rfl rfl rfl ?_
        refine thenK_n ?_
        refine W.seq ?_
        refine W.block ?_
        refine W.seq ?_
        refine W.region ?_
        refine S.pure tOk zOk rfl rfl rfl ?_
        refine S.pure tOk zOk rfl rfl rfl ?_
        refine S.pure tOk zOk rfl rfl rfl ?_
        refine S.pureG tOk zOk rfl rfl (by repeat first | exact allT_nil | refine allT_cons (fun h => h) ?_ | refine allT_cons (fun h => andl h) ?_ | refine allT_cons (fun h => andl (andl h)) ?_ | refine allT_cons (fun _ => rfl) ?_) (fun _ => rfl) rfl ?_
        refine S.pureG tOk zOk rfl rfl (by repeat first | exact allT_nil | refine allT_cons (fun h => h) ?_ | refine allT_cons (fun h => andl h) ?_ | refine allT_cons (fun h => andl (andl h)) ?_ | refine allT_cons (fun _ => rfl) ?_) (fun _ => rfl) rfl ?_
        refine S.pureG tOk zOk rfl rfl (by repeat first | exact allT_nil | refine allT_cons (fun h => h) ?_ | refine allT_cons (fun h => andl h) ?_ | refine allT_cons (fun h => andl (andl h)) ?_ | refine allT_cons (fun _ => rfl) ?_) (fun _ => rfl) rfl ?_
        refine S.pickAnd tOk zOk rfl rfl (by repeat first | exact allT_nil | refine allT_cons (fun h => h) ?_ | refine allT_cons (fun h => andl h) ?_ | refine allT_cons (fun h => andl (andl h)) ?_ | refine allT_cons (fun _ => rfl) ?_) ?_
        refine S.pure tOk zOk rfl rfl rfl ?_
        refine thenK_n ?_
        refine W.cond rfl (fun c8 => ?_) (fun c8 => ?_)
        · skip
          refine W.seq ?_
          refine W.region ?_
          refine S.pure tOk zOk rfl rfl rfl ?_
          refine S.pure tOk zOk rfl rfl rfl ?_
          refine S.pure tOk zOk rfl (cat_ok (by simp [-List.getD_eq_getElem?_getD, -List.drop_one]; omega)) rfl ?_
          refine S.pure tOk zOk rfl rfl rfl ?_
          refine S.store tOk rfl rfl rfl rfl rfl rfl rfl rfl ?_
          refine thenK_n ?_
          refine W.seq ?_
          refine W.regionD mixed (by kernel_rfl) ?_
          refine D.pure tOk zOk rfl rfl rfl rfl ?_
          refine D.pure tOk zOk rfl rfl rfl rfl ?_
          refine D.call rfl rfl rfl rfl rfl (pc_outref2_upTo (parseB s).1 ⟨(parseB s).1.a, (parseB s).1.b, (parseB s).1.c, (parseB s).1.e ++ [46, 48]⟩) ?_
          refine D.pure tOk zOk rfl rfl rfl rfl ?_
          refine D.slice tOk rfl rfl ?_
          refine D.call rfl rfl rfl rfl rfl (pc_verr1 ⟨(parseB s).1.a, (parseB s).1.b, (parseB s).1.c, (parseB s).1.e ++ [46, 48]⟩ (by simp [-List.drop_one]; omega)) ?_
          refine D.store tOk rfl rfl rfl rfl rfl rfl rfl rfl ?_
          refine D.pure tOk zOk rfl rfl rfl rfl ?_
          refine thenK_n ?_
          refine W.ret ?_
          refine blockK_r ?_
          refine thenK_r ?_
          exact ⟨_, rfl, rfl, LeV.of_force rfl (congrArg (fun x : Sp × Int => V.tup [spV x.1, .one (.d (.int .i64 x.2))]) (((if_neg (Bool.eq_false_iff.1 c1)).trans ((if_neg (Bool.eq_false_iff.1 c2)).trans ((if_neg (Bool.eq_false_iff.1 c7)).trans (if_pos c8)))) : shortB s = _)).symm⟩
        · skip
          refine W.seq ?_
          refine W.region ?_
          refine S.pure tOk zOk rfl rfl rfl ?_
          refine S.pure tOk zOk rfl rfl rfl ?_
          refine S.pure tOk zOk rfl rfl rfl ?_
          refine thenK_n ?_
          refine W.cond rfl (fun c9 => ?_) (fun c9 => ?_)
          · skip
            refine W.seq ?_
            refine W.region ?_
            refine S.pure tOk zOk rfl rfl rfl ?_
            refine S.call rfl rfl rfl rfl rfl (pc_outref2_NextOf (parseB s).1 (by omega) 2) ?_
            refine S.pure tOk zOk rfl rfl rfl ?_
            refine S.pure tOk zOk rfl rfl rfl ?_
            refine S.pure tOk zOk rfl rfl rfl ?_
            refine S.store tOk rfl rfl rfl rfl rfl rfl rfl rfl ?_
            refine S.pure tOk zOk rfl rfl rfl ?_
            refine thenK_n ?_
            refine W.region ?_
            refine S.pure tOk zOk rfl rfl rfl ?_
            refine S.store tOk rfl rfl rfl rfl rfl rfl rfl rfl ?_
            refine blockK_n ?_
            refine thenK_n ?_
            refine W.seq ?_
            refine W.region ?_
            refine S.pure tOk zOk rfl rfl rfl ?_
            refine S.pure tOk zOk rfl rfl rfl ?_
            refine S.call rfl rfl rfl rfl rfl (pc_outref2_upTo (parseB s).1 ⟨(nextB (parseB s).1 2).1.a, (nextB (parseB s).1 2).1.b, (nextB (parseB s).1 2).1.c, [48]⟩) ?_
            refine S.pure tOk zOk rfl rfl rfl ?_
            refine S.store tOk rfl rfl rfl rfl rfl rfl rfl rfl ?_
            refine S.pure tOk zOk rfl rfl rfl ?_
            refine thenK_n ?_
            refine W.ret ?_
            exact ⟨_, rfl, rfl, LeV.of_force rfl (congrArg (fun x : Sp × Int => V.tup [spV x.1, .one (.d (.int .i64 x.2))]) (((if_neg (Bool.eq_false_iff.1 c1)).trans ((if_neg (Bool.eq_false_iff.1 c2)).trans ((if_neg (Bool.eq_false_iff.1 c7)).trans ((if_neg (Bool.eq_false_iff.1 c8)).trans (if_pos c9))))) : shortB s = _)).symm⟩
          · skip
            refine W.seq ?_
            refine W.region ?_
            refine S.pure tOk zOk rfl rfl rfl ?_
            refine S.pure tOk zOk rfl rfl rfl ?_
            refine S.pure tOk zOk rfl rfl rfl ?_
            refine S.pureG tOk zOk rfl rfl (by repeat first | exact allT_nil | refine allT_cons (fun h => h) ?_ | refine allT_cons (fun h => andl h) ?_ | refine allT_cons (fun h => andl (andl h)) ?_ | refine allT_cons (fun _ => rfl) ?_) (fun _ => rfl) rfl ?_
            refine S.pureG tOk zOk rfl rfl (by repeat first | exact allT_nil | refine allT_cons (fun h => h) ?_ | refine allT_cons (fun h => andl h) ?_ | refine allT_cons (fun h => andl (andl h)) ?_ | refine allT_cons (fun _ => rfl) ?_) (fun _ => rfl) rfl ?_
            refine S.pureG tOk zOk rfl rfl (by repeat first | exact allT_nil | refine allT_cons (fun h => h) ?_ | refine allT_cons (fun h => andl h) ?_ | refine allT_cons (fun h => andl (andl h)) ?_ | refine allT_cons (fun _ => rfl) ?_) (fun _ => rfl) rfl ?_
            refine S.pickAnd tOk zOk rfl rfl (by repeat first | exact allT_nil | refine allT_cons (fun h => h) ?_ | refine allT_cons (fun h => andl h) ?_ | refine allT_cons (fun h => andl (andl h)) ?_ | refine allT_cons (fun _ => rfl) ?_) ?_
            refine S.pure tOk zOk rfl rfl rfl ?_
            refine thenK_n ?_
            refine W.cond rfl (fun c10 => ?_) (fun c10 => ?_)
            · skip
              refine W.region ?_
              refine S.pure tOk zOk rfl rfl rfl ?_
              refine S.call rfl rfl rfl rfl rfl (pc_outref2_NextOf (parseB s).1 (by omega) 0) ?_
              refine S.pure tOk zOk rfl rfl rfl ?_
              refine S.pure tOk zOk rfl rfl rfl ?_
              refine S.pure tOk zOk rfl rfl rfl ?_
              refine S.store tOk rfl rfl rfl rfl rfl rfl rfl rfl ?_
              refine S.pure tOk zOk rfl rfl rfl ?_
              refine blockK_n ?_
              refine thenK_n ?_
              refine W.seq ?_
              refine W.region ?_
              refine S.pure tOk zOk rfl rfl rfl ?_
              refine S.pure tOk zOk rfl rfl rfl ?_
              refine S.call rfl rfl rfl rfl rfl (pc_outref2_upTo (parseB s).1 (nextB (parseB s).1 0).1) ?_
              refine S.pure tOk zOk rfl rfl rfl ?_
              refine S.store tOk rfl rfl rfl rfl rfl rfl rfl rfl ?_
              refine S.pure tOk zOk rfl rfl rfl ?_
              refine thenK_n ?_
              refine W.ret ?_
              exact ⟨_, rfl, rfl, LeV.of_force rfl (congrArg (fun x : Sp × Int => V.tup [spV x.1, .one (.d (.int .i64 x.2))]) (((if_neg (Bool.eq_false_iff.1 c1)).trans ((if_neg (Bool.eq_false_iff.1 c2)).trans ((if_neg (Bool.eq_false_iff.1 c7)).trans ((if_neg (Bool.eq_false_iff.1 c8)).trans ((if_neg (Bool.eq_false_iff.1 c9)).trans (if_pos c10)))))) : shortB s = _)).symm⟩
            · skip
              refine W.region ?_
              refine S.pure tOk zOk rfl rfl rfl ?_
              refine S.call rfl rfl rfl rfl rfl (pc_outref2_NextOf (parseB s).1 (by omega) 1) ?_
              refine S.pure tOk zOk rfl rfl rfl ?_
              refine S.pure tOk zOk rfl rfl rfl ?_
              refine S.pure tOk zOk rfl rfl rfl ?_
              refine S.store tOk rfl rfl rfl rfl rfl rfl rfl rfl ?_
              refine S.pure tOk zOk rfl rfl rfl ?_
              refine blockK_n ?_
              refine thenK_n ?_
              refine W.seq ?_
              refine W.region ?_
              refine S.pure tOk zOk rfl rfl rfl ?_
              refine S.pure tOk zOk rfl rfl rfl ?_
              refine S.call rfl rfl rfl rfl rfl (pc_outref2_upTo (parseB s).1 (nextB (parseB s).1 1).1) ?_
              refine S.pure tOk zOk rfl rfl rfl ?_
              refine S.store tOk rfl rfl rfl rfl rfl rfl rfl rfl ?_
              refine S.pure tOk zOk rfl rfl rfl ?_
              refine thenK_n ?_
              refine W.ret ?_
              exact ⟨_, rfl, rfl, LeV.of_force rfl (congrArg (fun x : Sp × Int => V.tup [spV x.1, .one (.d (.int .i64 x.2))]) (((if_neg (Bool.eq_false_iff.1 c1)).trans ((if_neg (Bool.eq_false_iff.1 c2)).trans ((if_neg (Bool.eq_false_iff.1 c7)).trans ((if_neg (Bool.eq_false_iff.1 c8)).trans ((if_neg (Bool.eq_false_iff.1 c9)).trans (if_neg (Bool.eq_false_iff.1 c10))))))) : shortB s = _)).symm⟩

theorem pc_outref2_ReadRange (s : List UInt8) (hs : s.length < 4294967000) :
    PureCall Tryz.prog J 14 [.one (.d (.str s))] (.tup [rgV (rangeR s).1, .one (.d (.int .i64 (rangeR s).2))]) := by
  have hmany := split_le s [44, 32]
  have hm := fun i => @split_at s [44, 32] i
  refine PureCall.of_body tOk (fn := Tryz.f14) Tryz.func14 (by kernel_rfl) rfl (Nat.le_of_ble_eq_true rfl) (fun E => ?_)
  refine W.seq ?_
  refine W.region ?_
  refine S.alloc tOk rfl rfl rfl rfl ?_
  refine S.pure tOk zOk rfl rfl rfl ?_
  refine thenK_n ?_
  refine W.seq ?_
  refine W.seq ?_
  refine W.region ?_
  refine S.pure tOk zOk rfl rfl rfl ?_
  refine S.pure tOk zOk rfl rfl rfl ?_
  refine S.pure tOk zOk rfl rfl rfl ?_
  refine thenK_n ?_
  refine W.cond rfl (fun c1 => ?_) (fun c1 => ?_)
  · skip
    refine W.seq ?_
    refine W.region ?_
    refine S.pure tOk zOk rfl rfl rfl ?_
    refine S.store tOk rfl rfl rfl rfl rfl rfl rfl rfl ?_
    refine S.pure tOk zOk rfl rfl rfl ?_
    refine thenK_n ?_
    refine W.ret ?_
    refine thenK_r ?_
    exact ⟨_, rfl, rfl, le_rgNil (rR_large c1)⟩
  · skip
    refine W.skip ?_
    refine thenK_n ?_
    refine W.seq ?_
    refine W.seq ?_
    refine W.region ?_
    refine S.pure tOk zOk rfl rfl rfl ?_
    refine S.pure tOk zOk rfl rfl rfl ?_
    refine thenK_n ?_
    refine W.cond rfl (fun c2 => ?_) (fun c2 => ?_)
    · skip
      refine W.seq ?_
      refine W.region ?_
      refine S.pure tOk zOk rfl rfl rfl ?_
      refine S.store tOk rfl rfl rfl rfl rfl rfl rfl rfl ?_
      refine S.pure tOk zOk rfl rfl rfl ?_
      refine thenK_n ?_
      refine W.ret ?_
      refine thenK_r ?_
      exact ⟨_, rfl, rfl, le_rgNil (rR_none c1 c2)⟩
    · skip
      refine W.skip ?_
      refine thenK_n ?_
      refine W.seq ?_
      refine W.region ?_
      refine S.alloc tOk rfl rfl rfl rfl ?_
      refine thenK_n ?_
      refine W.seq ?_
      refine W.region ?_
      refine S.pure tOk zOk rfl rfl rfl ?_
      refine thenK_n ?_
      refine W.seq ?_
      refine W.seq ?_
      refine W.newRowB 1 0 10 81 rfl rfl rfl ?_
      refine W.region ?_
      refine S.pure tOk zOk rfl rfl rfl ?_
      refine S.call rfl rfl rfl rfl rfl (pc_Split s [44, 32] (by omega) (by decide)) ?_
      refine S.pure tOk zOk rfl rfl rfl ?_
      refine S.pure tOk zOk rfl rfl rfl ?_
      refine thenK_n ?_
      refine W.block ?_
      refine W.loop (fun k st => ∃ i : Nat, ∃ v : Nat, ∃ al : Bool, i ≤ (Lib.split s [44, 32]).length ∧ ((Lib.split s [44, 32]).take i).any (fun t => tokE t == 8) = false ∧ k = (Lib.split s [44, 32]).length - i ∧ ∃ t b2 r2 m2, st = ⟨t, [[.d .nilsl], [.row 0 v 0 ((((Lib.split s [44, 32]).take i).map tokS).map spD).length]] ++ b2, [some ⟨al, v, 10, 81, ((((Lib.split s [44, 32]).take i).map tokS).map spD)⟩] ++ r2, [] ++ m2⟩ ∧ holdsL t [(2, .one (.ptr 0 0)), (4, .one (.ptr 1 0)), (5, .one (.d (.int .i64 (firstNe (((Lib.split s [44, 32]).take i).map tokE))))), (25, .one (.d (.vec 1 ((Lib.split s [44, 32]).map fun x => [.str x])))), (26, .one (.d (.int .i64 (((Lib.split s [44, 32]).map fun x => ([.str x] : List D)).length : Int)))), (27, .one (.d (.int .i64 (i : Int))))]) ((Lib.split s [44, 32]).length) ⟨0, 0, false, Nat.zero_le _, by simp, rfl, _, _, _, _, rfl, rfl, rfl, rfl, rfl, rfl, rfl, trivial⟩ ?_
      rintro k0 _ ⟨i, v, al, f0_0, f0_1, rfl, t0, bb0, rr0, mm0, rfl, hh0⟩
      refine W.keepR _ _ _ _ _ _ _ hh0 rfl ?_
      refine W.seq ?_
      refine W.region ?_
      refine S.pure tOk zOk rfl rfl rfl ?_
      refine thenK_n ?_
      refine W.seq ?_
      refine W.cond rfl (fun c3 => ?_) (fun c3 => ?_)
      · skip
        have hi := row_lt c3
        have hti := hm i
        have hp := split_pos ((Lib.split s [44, 32]).getD i []) [32]
        have hml := split_le ((Lib.split s [44, 32]).getD i []) [32]
        have hfw : ((Lib.split ((Lib.split s [44, 32]).getD i []) [32]).getD 0 []).length ≤ ((Lib.split s [44, 32]).getD i []).length := split_at
        have hlw : ((Lib.split ((Lib.split s [44, 32]).getD i []) [32]).getD ((Lib.split ((Lib.split s [44, 32]).getD i []) [32]).length - 1) []).length ≤ ((Lib.split s [44, 32]).getD i []).length := split_at
        have ht1 := trim_le ((Lib.split ((Lib.split s [44, 32]).getD i []) [32]).getD 0 []) [62, 61]
        have ht2 := trim_le ((Lib.split ((Lib.split s [44, 32]).getD i []) [32]).getD ((Lib.split ((Lib.split s [44, 32]).getD i []) [32]).length - 1) []) [60]
        refine W.skip ?_
        refine thenK_n ?_
        refine W.seq ?_
        refine W.block ?_
        refine W.seq ?_
        refine W.region ?_
        refine S.pureE tOk zOk rfl (row_ok hi) (row_at [] hi) rfl ?_
        refine S.pure tOk zOk rfl rfl rfl ?_
        refine S.pure tOk zOk rfl rfl rfl ?_
        refine thenK_n ?_
        refine W.seq ?_
        refine W.region ?_
        refine S.pure tOk zOk rfl rfl rfl ?_
        refine S.call rfl rfl rfl rfl rfl (pc_Split ((Lib.split s [44, 32]).getD i []) [32] (by omega) (by decide)) ?_
        refine S.pure tOk zOk rfl rfl rfl ?_
        refine thenK_n ?_
        refine W.seq ?_
        refine W.region ?_
        refine S.pure tOk zOk rfl rfl rfl ?_
        refine S.pureE tOk zOk rfl (row_ok (i := 0) hp) (row_at (i := 0) [] hp) rfl ?_
        refine S.pure tOk zOk rfl rfl rfl ?_
        refine S.call rfl rfl rfl rfl rfl (pc_CutPrefix ((Lib.split ((Lib.split s [44, 32]).getD i []) [32]).getD 0 []) [62, 61]) ?_
        refine S.pure tOk zOk rfl rfl rfl ?_
        refine S.pure tOk zOk rfl rfl rfl ?_
        refine S.pure tOk zOk rfl rfl rfl ?_
        refine S.pure tOk zOk rfl rfl rfl ?_
        refine S.pure tOk zOk rfl rfl rfl ?_
        refine thenK_n ?_
        refine W.seq ?_
        refine W.region ?_
        refine S.pure tOk zOk rfl rfl rfl ?_
        refine S.pure tOk zOk rfl rfl rfl ?_
        refine S.pure tOk zOk rfl rfl rfl ?_
        refine S.pure tOk zOk rfl rfl rfl ?_
        refine S.pureE tOk zOk rfl (last_ok hp (by omega)) (row_last [] hp (by omega)) rfl ?_
        refine S.pure tOk zOk rfl rfl rfl ?_
        refine S.call rfl rfl rfl rfl rfl (pc_CutPrefix ((Lib.split ((Lib.split s [44, 32]).getD i []) [32]).getD ((Lib.split ((Lib.split s [44, 32]).getD i []) [32]).length - 1) []) [60]) ?_
        refine S.pure tOk zOk rfl rfl rfl ?_
        refine S.pure tOk zOk rfl rfl rfl ?_
        refine S.pure tOk zOk rfl rfl rfl ?_
        refine S.pure tOk zOk rfl rfl rfl ?_
        refine S.pure tOk zOk rfl rfl rfl ?_
        refine thenK_n ?_
        refine W.seq ?_
        refine W.region ?_
        refine S.alloc tOk rfl rfl rfl rfl ?_
        refine thenK_n ?_
        refine W.seq ?_
        refine W.region ?_
        refine S.pure tOk zOk rfl rfl rfl ?_
        refine thenK_n ?_
        refine W.seq ?_
        refine W.block ?_
        refine W.seq ?_
        refine W.region ?_
        refine S.pure tOk zOk rfl rfl rfl ?_
        refine S.pure tOk zOk rfl rfl rfl ?_
        refine S.pure tOk zOk rfl rfl rfl ?_
        refine S.pure tOk zOk rfl rfl rfl ?_
        refine S.pureG tOk zOk rfl rfl (by repeat first | exact allT_nil | refine allT_cons (fun h => h) ?_ | refine allT_cons (fun h => andl h) ?_ | refine allT_cons (fun h => andl (andl h)) ?_ | refine allT_cons (fun _ => rfl) ?_) (fun _ => rfl) rfl ?_
        refine S.pickAnd tOk zOk rfl rfl (by repeat first | exact allT_nil | refine allT_cons (fun h => h) ?_ | refine allT_cons (fun h => andl h) ?_ | refine allT_cons (fun h => andl (andl h)) ?_ | refine allT_cons (fun _ => rfl) ?_) ?_
        refine S.pure tOk zOk rfl rfl rfl ?_
        refine thenK_n ?_
        refine W.cond rfl (fun c4 => ?_) (fun c4 => ?_)
        · skip
          have htok := tok_1 (t := ((Lib.split s [44, 32]).getD i [])) (by have h := c4; rw [List.length_map] at h; exact h)
          refine W.seq ?_
          refine W.region ?_
          refine S.pure tOk zOk rfl rfl rfl ?_
          refine S.store tOk rfl rfl rfl rfl rfl rfl rfl rfl ?_
          refine thenK_n ?_
          refine W.region ?_
          refine S.pure tOk zOk rfl rfl rfl ?_
          refine S.call rfl rfl rfl rfl rfl (pc_outref2_ReadVersion (Lib.trimPrefix ((Lib.split ((Lib.split s [44, 32]).getD i []) [32]).getD 0 []) [62, 61]) (by omega)) ?_
          refine S.pure tOk zOk rfl rfl rfl ?_
          refine S.pure tOk zOk rfl rfl rfl ?_
          refine S.pure tOk zOk rfl rfl rfl ?_
          refine S.pure tOk zOk rfl rfl rfl ?_
          refine S.store tOk rfl rfl rfl rfl rfl rfl rfl rfl ?_
          refine S.pure tOk zOk rfl rfl rfl ?_
          refine blockK_n ?_
          refine thenK_n ?_
          refine W.seq ?_
          refine W.seq ?_
          refine W.region ?_
          refine S.pure tOk zOk rfl rfl rfl ?_
          refine S.pure tOk zOk rfl rfl rfl ?_
          refine thenK_n ?_
          refine W.cond rfl (fun c5 => ?_) (fun c5 => ?_)
          · skip
            refine W.seq ?_
            refine W.region ?_
            refine S.pure tOk zOk rfl rfl rfl ?_
            refine S.pure tOk zOk rfl rfl rfl ?_
            refine S.store tOk rfl rfl rfl rfl rfl rfl rfl rfl ?_
            refine S.pure tOk zOk rfl rfl rfl ?_
            refine thenK_n ?_
            refine W.ret ?_
            refine thenK_r ?_
            refine blockK_r ?_
            refine thenK_r ?_
            refine thenK_r ?_
            refine blockK_r ?_
            refine thenK_r ?_
            exact ⟨_, rfl, rfl, le_rgNil ((rR_bad c1 c2 hi (by rw [tokE, htok]; exact (eq_of_beq c5))).trans (congrArg (Prod.mk []) (eq_of_beq c5).symm))⟩
          · skip
            have hx : (⟨true, false, (parseB (Lib.trimPrefix ((Lib.split ((Lib.split s [44, 32]).getD i []) [32]).getD 0 []) [62, 61])).1, Ver.z⟩ : Sp) = tokS ((Lib.split s [44, 32]).getD i []) := by rw [tokS, htok]
            refine W.skip ?_
            refine thenK_n ?_
            refine W.seq ?_
            refine W.region ?_
            refine S.pure tOk zOk rfl rfl rfl ?_
            refine S.pure tOk zOk rfl rfl rfl ?_
            refine S.slice tOk rfl rfl ?_
            refine S.call rfl rfl rfl rfl rfl (pc_first2 (firstNe (((Lib.split s [44, 32]).take i).map tokE)) (parseB (Lib.trimPrefix ((Lib.split ((Lib.split s [44, 32]).getD i []) [32]).getD 0 []) [62, 61])).2) ?_
            refine S.pure tOk zOk rfl rfl rfl ?_
            refine thenK_n ?_
            refine W.region ?_
            refine S.pure tOk zOk rfl rfl rfl ?_
            refine S.pure tOk zOk rfl rfl rfl ?_
            refine S.pure tOk zOk rfl rfl rfl ?_
            refine S.slice tOk rfl rfl ?_
            refine S.append tOk rfl rfl rfl rfl rfl rfl rfl rfl rfl rfl rfl rfl (by show _ + 1 ≤ _; simp; omega) rfl (take_snoc3 (d := []) hx hi) rfl ?_
            refine S.pure tOk zOk rfl rfl rfl ?_
            refine S.store tOk rfl rfl rfl rfl rfl rfl rfl rfl ?_
            refine blockK_n ?_
            refine thenK_n ?_
            refine W.region ?_
            refine S.pure tOk zOk rfl rfl rfl ?_
            refine S.pure tOk zOk rfl rfl rfl ?_
            refine loop_n ((Lib.split s [44, 32]).length - (i + 1)) (by omega) ⟨i + 1, _, _, hi, any_take (d := []) hi f0_1 (by rw [tokE, htok]; exact c5), rfl, _, _, _, _, rfl, rfl, rfl, congrArg (fun x => V.one (C.d (D.int .i64 x))) (show firstB (firstNe (((Lib.split s [44, 32]).take i).map tokE)) (parseB (Lib.trimPrefix ((Lib.split ((Lib.split s [44, 32]).getD i []) [32]).getD 0 []) [62, 61])).2 = firstNe (((Lib.split s [44, 32]).take (i + 1)).map tokE) from by rw [← tok_acc hi, tokE, htok]), rfl, rfl, inc_i64 (by omega), trivial⟩
        · skip
          refine W.seq ?_
          refine W.region ?_
          refine S.pure tOk zOk rfl rfl rfl ?_
          refine S.pure tOk zOk rfl rfl rfl ?_
          refine S.pure tOk zOk rfl rfl rfl ?_
          refine S.pure tOk zOk rfl rfl rfl ?_
          refine S.pureG tOk zOk rfl rfl (by repeat first | exact allT_nil | refine allT_cons (fun h => h) ?_ | refine allT_cons (fun h => andl h) ?_ | refine allT_cons (fun h => andl (andl h)) ?_ | refine allT_cons (fun _ => rfl) ?_) (fun _ => rfl) rfl ?_
          refine S.pickAnd tOk zOk rfl rfl (by repeat first | exact allT_nil | refine allT_cons (fun h => h) ?_ | refine allT_cons (fun h => andl h) ?_ | refine allT_cons (fun h => andl (andl h)) ?_ | refine allT_cons (fun _ => rfl) ?_) ?_
          refine S.pure tOk zOk rfl rfl rfl ?_
          refine thenK_n ?_
          refine W.cond rfl (fun c6 => ?_) (fun c6 => ?_)
          · skip
            have htok := tok_2 (t := ((Lib.split s [44, 32]).getD i [])) (by have h := c4; rw [List.length_map] at h; exact h) (by have h := c6; rw [List.length_map] at h; exact h)
            refine W.seq ?_
            refine W.region ?_
            refine S.pure tOk zOk rfl rfl rfl ?_
            refine S.store tOk rfl rfl rfl rfl rfl rfl rfl rfl ?_
            refine thenK_n ?_
            refine W.region ?_
            refine S.pure tOk zOk rfl rfl rfl ?_
            refine S.call rfl rfl rfl rfl rfl (pc_outref2_ReadVersion (Lib.trimPrefix ((Lib.split ((Lib.split s [44, 32]).getD i []) [32]).getD ((Lib.split ((Lib.split s [44, 32]).getD i []) [32]).length - 1) []) [60]) (by omega)) ?_
            refine S.pure tOk zOk rfl rfl rfl ?_
            refine S.pure tOk zOk rfl rfl rfl ?_
            refine S.pure tOk zOk rfl rfl rfl ?_
            refine S.pure tOk zOk rfl rfl rfl ?_
            refine S.store tOk rfl rfl rfl rfl rfl rfl rfl rfl ?_
            refine S.pure tOk zOk rfl rfl rfl ?_
            refine blockK_n ?_
            refine thenK_n ?_
            refine W.seq ?_
            refine W.seq ?_
            refine W.region ?_
            refine S.pure tOk zOk rfl rfl rfl ?_
            refine S.pure tOk zOk rfl rfl rfl ?_
            refine thenK_n ?_
            refine W.cond rfl (fun c7 => ?_) (fun c7 => ?_)
            · skip
              refine W.seq ?_
              refine W.region ?_
              refine S.pure tOk zOk rfl rfl rfl ?_
              refine S.pure tOk zOk rfl rfl rfl ?_
              refine S.store tOk rfl rfl rfl rfl rfl rfl rfl rfl ?_
              refine S.pure tOk zOk rfl rfl rfl ?_
              refine thenK_n ?_
              refine W.ret ?_
              refine thenK_r ?_
              refine blockK_r ?_
              refine thenK_r ?_
              refine thenK_r ?_
              refine blockK_r ?_
              refine thenK_r ?_
              exact ⟨_, rfl, rfl, le_rgNil ((rR_bad c1 c2 hi (by rw [tokE, htok]; exact (eq_of_beq c7))).trans (congrArg (Prod.mk []) (eq_of_beq c7).symm))⟩
            · skip
              have hx : (⟨false, true, Ver.z, (parseB (Lib.trimPrefix ((Lib.split ((Lib.split s [44, 32]).getD i []) [32]).getD ((Lib.split ((Lib.split s [44, 32]).getD i []) [32]).length - 1) []) [60])).1⟩ : Sp) = tokS ((Lib.split s [44, 32]).getD i []) := by rw [tokS, htok]
              refine W.skip ?_
              refine thenK_n ?_
              refine W.seq ?_
              refine W.region ?_
              refine S.pure tOk zOk rfl rfl rfl ?_
              refine S.pure tOk zOk rfl rfl rfl ?_
              refine S.slice tOk rfl rfl ?_
              refine S.call rfl rfl rfl rfl rfl (pc_first2 (firstNe (((Lib.split s [44, 32]).take i).map tokE)) (parseB (Lib.trimPrefix ((Lib.split ((Lib.split s [44, 32]).getD i []) [32]).getD ((Lib.split ((Lib.split s [44, 32]).getD i []) [32]).length - 1) []) [60])).2) ?_
              refine S.pure tOk zOk rfl rfl rfl ?_
              refine thenK_n ?_
              refine W.region ?_
              refine S.pure tOk zOk rfl rfl rfl ?_
              refine S.pure tOk zOk rfl rfl rfl ?_
              refine S.pure tOk zOk rfl rfl rfl ?_
              refine S.slice tOk rfl rfl ?_
              refine S.append tOk rfl rfl rfl rfl rfl rfl rfl rfl rfl rfl rfl rfl (by show _ + 1 ≤ _; simp; omega) rfl (take_snoc3 (d := []) hx hi) rfl ?_
              refine S.pure tOk zOk rfl rfl rfl ?_
              refine S.store tOk rfl rfl rfl rfl rfl rfl rfl rfl ?_
              refine blockK_n ?_
              refine thenK_n ?_
              refine W.region ?_
              refine S.pure tOk zOk rfl rfl rfl ?_
              refine S.pure tOk zOk rfl rfl rfl ?_
              refine loop_n ((Lib.split s [44, 32]).length - (i + 1)) (by omega) ⟨i + 1, _, _, hi, any_take (d := []) hi f0_1 (by rw [tokE, htok]; exact c7), rfl, _, _, _, _, rfl, rfl, rfl, congrArg (fun x => V.one (C.d (D.int .i64 x))) (show firstB (firstNe (((Lib.split s [44, 32]).take i).map tokE)) (parseB (Lib.trimPrefix ((Lib.split ((Lib.split s [44, 32]).getD i []) [32]).getD ((Lib.split ((Lib.split s [44, 32]).getD i []) [32]).length - 1) []) [60])).2 = firstNe (((Lib.split s [44, 32]).take (i + 1)).map tokE) from by rw [← tok_acc hi, tokE, htok]), rfl, rfl, inc_i64 (by omega), trivial⟩
          · skip
            refine W.seq ?_
            refine W.region ?_
            refine S.pure tOk zOk rfl rfl rfl ?_
            refine S.pure tOk zOk rfl rfl rfl ?_
            refine S.pure tOk zOk rfl rfl rfl ?_
            refine S.pure tOk zOk rfl rfl rfl ?_
            refine thenK_n ?_
            refine W.cond rfl (fun c8 => ?_) (fun c8 => ?_)
            · skip
              have htok := tok_3 (t := ((Lib.split s [44, 32]).getD i [])) (by have h := c4; rw [List.length_map] at h; exact h) (by have h := c6; rw [List.length_map] at h; exact h) (by have h := c8; rw [List.length_map] at h; exact h)
              refine W.region ?_
              refine S.pure tOk zOk rfl rfl rfl ?_
              refine S.pureE tOk zOk rfl (row_ok (i := 0) hp) (row_at (i := 0) [] hp) rfl ?_
              refine S.pure tOk zOk rfl rfl rfl ?_
              refine S.call rfl rfl rfl rfl rfl (pc_outref2_shortSpan ((Lib.split ((Lib.split s [44, 32]).getD i []) [32]).getD 0 []) (by omega)) ?_
              refine S.pure tOk zOk rfl rfl rfl ?_
              refine S.pure tOk zOk rfl rfl rfl ?_
              refine S.pure tOk zOk rfl rfl rfl ?_
              refine S.store tOk rfl rfl rfl rfl rfl rfl rfl rfl ?_
              refine S.pure tOk zOk rfl rfl rfl ?_
              refine blockK_n ?_
              refine thenK_n ?_
              refine W.seq ?_
              refine W.seq ?_
              refine W.region ?_
              refine S.pure tOk zOk rfl rfl rfl ?_
              refine S.pure tOk zOk rfl rfl rfl ?_
              refine thenK_n ?_
              refine W.cond rfl (fun c9 => ?_) (fun c9 => ?_)
              · skip
                refine W.seq ?_
                refine W.region ?_
                refine S.pure tOk zOk rfl rfl rfl ?_
                refine S.pure tOk zOk rfl rfl rfl ?_
                refine S.store tOk rfl rfl rfl rfl rfl rfl rfl rfl ?_
                refine S.pure tOk zOk rfl rfl rfl ?_
                refine thenK_n ?_
                refine W.ret ?_
                refine thenK_r ?_
                refine blockK_r ?_
                refine thenK_r ?_
                refine thenK_r ?_
                refine blockK_r ?_
                refine thenK_r ?_
                exact ⟨_, rfl, rfl, le_rgNil ((rR_bad c1 c2 hi (by rw [tokE, htok]; exact (eq_of_beq c9))).trans (congrArg (Prod.mk []) (eq_of_beq c9).symm))⟩
              · skip
                have hx : ((shortB ((Lib.split ((Lib.split s [44, 32]).getD i []) [32]).getD 0 [])).1 : Sp) = tokS ((Lib.split s [44, 32]).getD i []) := by rw [tokS, htok]
                refine W.skip ?_
                refine thenK_n ?_
                refine W.seq ?_
                refine W.region ?_
                refine S.pure tOk zOk rfl rfl rfl ?_
                refine S.pure tOk zOk rfl rfl rfl ?_
                refine S.slice tOk rfl rfl ?_
                refine S.call rfl rfl rfl rfl rfl (pc_first2 (firstNe (((Lib.split s [44, 32]).take i).map tokE)) (shortB ((Lib.split ((Lib.split s [44, 32]).getD i []) [32]).getD 0 [])).2) ?_
                refine S.pure tOk zOk rfl rfl rfl ?_
                refine thenK_n ?_
                refine W.region ?_
                refine S.pure tOk zOk rfl rfl rfl ?_
                refine S.pure tOk zOk rfl rfl rfl ?_
                refine S.pure tOk zOk rfl rfl rfl ?_
                refine S.slice tOk rfl rfl ?_
                refine S.append tOk rfl rfl rfl rfl rfl rfl rfl rfl rfl rfl rfl rfl (by show _ + 1 ≤ _; simp; omega) rfl (take_snoc3 (d := []) hx hi) rfl ?_
                refine S.pure tOk zOk rfl rfl rfl ?_
                refine S.store tOk rfl rfl rfl rfl rfl rfl rfl rfl ?_
                refine blockK_n ?_
                refine thenK_n ?_
                refine W.region ?_
                refine S.pure tOk zOk rfl rfl rfl ?_
                refine S.pure tOk zOk rfl rfl rfl ?_
                refine loop_n ((Lib.split s [44, 32]).length - (i + 1)) (by omega) ⟨i + 1, _, _, hi, any_take (d := []) hi f0_1 (by rw [tokE, htok]; exact c9), rfl, _, _, _, _, rfl, rfl, rfl, congrArg (fun x => V.one (C.d (D.int .i64 x))) (show firstB (firstNe (((Lib.split s [44, 32]).take i).map tokE)) (shortB ((Lib.split ((Lib.split s [44, 32]).getD i []) [32]).getD 0 [])).2 = firstNe (((Lib.split s [44, 32]).take (i + 1)).map tokE) from by rw [← tok_acc hi, tokE, htok]), rfl, rfl, inc_i64 (by omega), trivial⟩
            · skip
              refine W.seq ?_
              refine W.region ?_
              refine S.pure tOk zOk rfl rfl rfl ?_
              refine S.pure tOk zOk rfl rfl rfl ?_
              refine S.pure tOk zOk rfl rfl rfl ?_
              refine S.pure tOk zOk rfl rfl rfl ?_
              refine S.pureG tOk zOk rfl rfl (by repeat first | exact allT_nil | refine allT_cons (fun h => h) ?_ | refine allT_cons (fun h => andl h) ?_ | refine allT_cons (fun h => andl (andl h)) ?_ | refine allT_cons (fun _ => rfl) ?_) (fun _ => rfl) rfl ?_
              refine S.pickAnd tOk zOk rfl rfl (by repeat first | exact allT_nil | refine allT_cons (fun h => h) ?_ | refine allT_cons (fun h => andl h) ?_ | refine allT_cons (fun h => andl (andl h)) ?_ | refine allT_cons (fun _ => rfl) ?_) ?_
              refine S.pure tOk zOk rfl rfl rfl ?_
              refine S.pureG tOk zOk rfl rfl (by repeat first | exact allT_nil | refine allT_cons (fun h => h) ?_ | refine allT_cons (fun h => andl h) ?_ | refine allT_cons (fun h => andl (andl h)) ?_ | refine allT_cons (fun _ => rfl) ?_) (fun _ => rfl) rfl ?_
              refine S.pickAnd tOk zOk rfl rfl (by repeat first | exact allT_nil | refine allT_cons (fun h => h) ?_ | refine allT_cons (fun h => andl h) ?_ | refine allT_cons (fun h => andl (andl h)) ?_ | refine allT_cons (fun _ => rfl) ?_) ?_
              refine S.pure tOk zOk rfl rfl rfl ?_
              refine thenK_n ?_
              refine W.cond rfl (fun c10 => ?_) (fun c10 => ?_)
              · skip
                have htok := tok_4 (t := ((Lib.split s [44, 32]).getD i [])) (by have h := c4; rw [List.length_map] at h; exact h) (by have h := c6; rw [List.length_map] at h; exact h) (by have h := c8; rw [List.length_map] at h; exact h) (by have h := c10; rw [List.length_map] at h; exact h)
                refine W.seq ?_
                refine W.region ?_
                refine S.pure tOk zOk rfl rfl rfl ?_
                refine S.store tOk rfl rfl rfl rfl rfl rfl rfl rfl ?_
                refine S.pure tOk zOk rfl rfl rfl ?_
                refine S.store tOk rfl rfl rfl rfl rfl rfl rfl rfl ?_
                refine thenK_n ?_
                refine W.seq ?_
                refine W.region ?_
                refine S.pure tOk zOk rfl rfl rfl ?_
                refine thenK_n ?_
                refine W.seq ?_
                refine W.region ?_
                refine S.pure tOk zOk rfl rfl rfl ?_
                refine S.call rfl rfl rfl rfl rfl (pc_outref2_ReadVersion (Lib.trimPrefix ((Lib.split ((Lib.split s [44, 32]).getD i []) [32]).getD 0 []) [62, 61]) (by omega)) ?_
                refine S.pure tOk zOk rfl rfl rfl ?_
                refine S.pure tOk zOk rfl rfl rfl ?_
                refine S.pure tOk zOk rfl rfl rfl ?_
                refine S.pure tOk zOk rfl rfl rfl ?_
                refine S.store tOk rfl rfl rfl rfl rfl rfl rfl rfl ?_
                refine S.pure tOk zOk rfl rfl rfl ?_
                refine thenK_n ?_
                refine W.seq ?_
                refine W.region ?_
                refine S.pure tOk zOk rfl rfl rfl ?_
                refine S.call rfl rfl rfl rfl rfl (pc_outref2_ReadVersion (Lib.trimPrefix ((Lib.split ((Lib.split s [44, 32]).getD i []) [32]).getD ((Lib.split ((Lib.split s [44, 32]).getD i []) [32]).length - 1) []) [60]) (by omega)) ?_
                refine S.pure tOk zOk rfl rfl rfl ?_
                refine S.pure tOk zOk rfl rfl rfl ?_
                refine S.pure tOk zOk rfl rfl rfl ?_
                refine S.pure tOk zOk rfl rfl rfl ?_
                refine S.store tOk rfl rfl rfl rfl rfl rfl rfl rfl ?_
                refine S.pure tOk zOk rfl rfl rfl ?_
                refine thenK_n ?_
                refine W.seq ?_
                refine W.region ?_
                refine S.pure tOk zOk rfl rfl rfl ?_
                refine S.pure tOk zOk rfl rfl rfl ?_
                refine S.pure tOk zOk rfl rfl rfl ?_
                refine S.pureG tOk zOk rfl rfl (by repeat first | exact allT_nil | refine allT_cons (fun h => h) ?_ | refine allT_cons (fun h => andl h) ?_ | refine allT_cons (fun h => andl (andl h)) ?_ | refine allT_cons (fun _ => rfl) ?_) (fun _ => rfl) rfl ?_
                refine S.pureG tOk zOk rfl rfl (by repeat first | exact allT_nil | refine allT_cons (fun h => h) ?_ | refine allT_cons (fun h => andl h) ?_ | refine allT_cons (fun h => andl (andl h)) ?_ | refine allT_cons (fun _ => rfl) ?_) (fun _ => rfl) rfl ?_
                refine S.pickOr tOk zOk rfl rfl (by repeat first | exact allT_nil | refine allT_cons (fun h => h) ?_ | refine allT_cons (fun h => andl h) ?_ | refine allT_cons (fun h => andl (andl h)) ?_ | refine allT_cons (fun _ => rfl) ?_) ?_
                refine thenK_n ?_
                refine W.cond rfl (fun c11 => ?_) (fun c11 => ?_)
                · skip
                  refine W.region ?_
                  refine S.pure tOk zOk rfl rfl rfl ?_
                  refine blockK_n ?_
                  refine thenK_n ?_
                  refine W.seq ?_
                  refine W.seq ?_
                  refine W.region ?_
                  refine S.pure tOk zOk rfl rfl rfl ?_
                  refine S.pure tOk zOk rfl rfl rfl ?_
                  refine thenK_n ?_
                  refine W.condT rfl rfl ?_
                  refine W.seq ?_
                  refine W.region ?_
                  refine S.pure tOk zOk rfl rfl rfl ?_
                  refine S.pure tOk zOk rfl rfl rfl ?_
                  refine S.store tOk rfl rfl rfl rfl rfl rfl rfl rfl ?_
                  refine S.pure tOk zOk rfl rfl rfl ?_
                  refine thenK_n ?_
                  refine W.ret ?_
                  refine thenK_r ?_
                  refine blockK_r ?_
                  refine thenK_r ?_
                  refine thenK_r ?_
                  refine blockK_r ?_
                  refine thenK_r ?_
                  exact ⟨_, rfl, rfl, le_rgNil (rR_bad c1 c2 hi (by rw [tokE, htok]; exact if_pos c11))⟩
                · skip
                  refine W.region ?_
                  refine S.pure tOk zOk rfl rfl rfl ?_
                  refine S.pure tOk zOk rfl rfl rfl ?_
                  refine S.slice tOk rfl rfl ?_
                  refine S.call rfl rfl rfl rfl rfl (pc_first2 (parseB (Lib.trimPrefix ((Lib.split ((Lib.split s [44, 32]).getD i []) [32]).getD 0 []) [62, 61])).2 (parseB (Lib.trimPrefix ((Lib.split ((Lib.split s [44, 32]).getD i []) [32]).getD ((Lib.split ((Lib.split s [44, 32]).getD i []) [32]).length - 1) []) [60])).2) ?_
                  refine S.pure tOk zOk rfl rfl rfl ?_
                  refine blockK_n ?_
                  refine thenK_n ?_
                  refine W.seq ?_
                  refine W.seq ?_
                  refine W.region ?_
                  refine S.pure tOk zOk rfl rfl rfl ?_
                  refine S.pure tOk zOk rfl rfl rfl ?_
                  refine thenK_n ?_
                  refine W.cond rfl (fun c13 => ?_) (fun c13 => ?_)
                  · skip
                    refine W.seq ?_
                    refine W.region ?_
                    refine S.pure tOk zOk rfl rfl rfl ?_
                    refine S.pure tOk zOk rfl rfl rfl ?_
                    refine S.store tOk rfl rfl rfl rfl rfl rfl rfl rfl ?_
                    refine S.pure tOk zOk rfl rfl rfl ?_
                    refine thenK_n ?_
                    refine W.ret ?_
                    refine thenK_r ?_
                    refine blockK_r ?_
                    refine thenK_r ?_
                    refine thenK_r ?_
                    refine blockK_r ?_
                    refine thenK_r ?_
                    exact ⟨_, rfl, rfl, le_rgNil ((rR_bad c1 c2 hi (by rw [tokE, htok]; exact (if_neg (Bool.eq_false_iff.1 c11)).trans (eq_of_beq c13))).trans (congrArg (Prod.mk []) (eq_of_beq c13).symm))⟩
                  · skip
                    have hx : (⟨true, true, (parseB (Lib.trimPrefix ((Lib.split ((Lib.split s [44, 32]).getD i []) [32]).getD 0 []) [62, 61])).1, (parseB (Lib.trimPrefix ((Lib.split ((Lib.split s [44, 32]).getD i []) [32]).getD ((Lib.split ((Lib.split s [44, 32]).getD i []) [32]).length - 1) []) [60])).1⟩ : Sp) = tokS ((Lib.split s [44, 32]).getD i []) := by rw [tokS, htok]
                    refine W.skip ?_
                    refine thenK_n ?_
                    refine W.seq ?_
                    refine W.region ?_
                    refine S.pure tOk zOk rfl rfl rfl ?_
                    refine S.pure tOk zOk rfl rfl rfl ?_
                    refine S.slice tOk rfl rfl ?_
                    refine S.call rfl rfl rfl rfl rfl (pc_first2 (firstNe (((Lib.split s [44, 32]).take i).map tokE)) (firstB (parseB (Lib.trimPrefix ((Lib.split ((Lib.split s [44, 32]).getD i []) [32]).getD 0 []) [62, 61])).2 (parseB (Lib.trimPrefix ((Lib.split ((Lib.split s [44, 32]).getD i []) [32]).getD ((Lib.split ((Lib.split s [44, 32]).getD i []) [32]).length - 1) []) [60])).2)) ?_
                    refine S.pure tOk zOk rfl rfl rfl ?_
                    refine thenK_n ?_
                    refine W.region ?_
                    refine S.pure tOk zOk rfl rfl rfl ?_
                    refine S.pure tOk zOk rfl rfl rfl ?_
                    refine S.pure tOk zOk rfl rfl rfl ?_
                    refine S.slice tOk rfl rfl ?_
                    refine S.append tOk rfl rfl rfl rfl rfl rfl rfl rfl rfl rfl rfl rfl (by show _ + 1 ≤ _; simp; omega) rfl (take_snoc3 (d := []) hx hi) rfl ?_
                    refine S.pure tOk zOk rfl rfl rfl ?_
                    refine S.store tOk rfl rfl rfl rfl rfl rfl rfl rfl ?_
                    refine blockK_n ?_
                    refine thenK_n ?_
                    refine W.region ?_
                    refine S.pure tOk zOk rfl rfl rfl ?_
                    refine S.pure tOk zOk rfl rfl rfl ?_
                    refine loop_n ((Lib.split s [44, 32]).length - (i + 1)) (by omega) ⟨i + 1, _, _, hi, any_take (d := []) hi f0_1 (by rw [tokE, htok]; simp only; rw [if_neg (Bool.eq_false_iff.1 c11)]; exact c13), rfl, _, _, _, _, rfl, rfl, rfl, congrArg (fun x => V.one (C.d (D.int .i64 x))) (show firstB (firstNe (((Lib.split s [44, 32]).take i).map tokE)) (firstB (parseB (Lib.trimPrefix ((Lib.split ((Lib.split s [44, 32]).getD i []) [32]).getD 0 []) [62, 61])).2 (parseB (Lib.trimPrefix ((Lib.split ((Lib.split s [44, 32]).getD i []) [32]).getD ((Lib.split ((Lib.split s [44, 32]).getD i []) [32]).length - 1) []) [60])).2) = firstNe (((Lib.split s [44, 32]).take (i + 1)).map tokE) from by rw [← tok_acc hi, tokE, htok]; simp only; rw [if_neg (Bool.eq_false_iff.1 c11)]), rfl, rfl, inc_i64 (by omega), trivial⟩
              · skip
                have htok := tok_5 (t := ((Lib.split s [44, 32]).getD i [])) (by have h := c4; rw [List.length_map] at h; exact h) (by have h := c6; rw [List.length_map] at h; exact h) (by have h := c8; rw [List.length_map] at h; exact h) (by have h := c10; rw [List.length_map] at h; exact h)
                refine W.region ?_
                refine S.pure tOk zOk rfl rfl rfl ?_
                refine blockK_n ?_
                refine thenK_n ?_
                refine W.seq ?_
                refine W.seq ?_
                refine W.region ?_
                refine S.pure tOk zOk rfl rfl rfl ?_
                refine S.pure tOk zOk rfl rfl rfl ?_
                refine thenK_n ?_
                refine W.condT rfl rfl ?_
                refine W.seq ?_
                refine W.region ?_
                refine S.pure tOk zOk rfl rfl rfl ?_
                refine S.pure tOk zOk rfl rfl rfl ?_
                refine S.store tOk rfl rfl rfl rfl rfl rfl rfl rfl ?_
                refine S.pure tOk zOk rfl rfl rfl ?_
                refine thenK_n ?_
                refine W.ret ?_
                refine thenK_r ?_
                refine blockK_r ?_
                refine thenK_r ?_
                refine thenK_r ?_
                refine blockK_r ?_
                refine thenK_r ?_
                exact ⟨_, rfl, rfl, le_rgNil (rR_bad c1 c2 hi (by rw [tokE, htok]))⟩
      · skip
        have hi := row_ge c3
        refine W.exit ?_
        refine thenK_e ?_
        refine thenK_e ?_
        refine blockK_x ?_
        refine thenK_n ?_
        refine W.seq ?_
        refine W.seq ?_
        refine W.freezeB (ri := 0) (q := ⟨_, _, _, _, _⟩) 1 0 rfl rfl rfl rfl ?_
        have hall := any_end hi f0_1
        have hts2 : (Lib.split s [44, 32]).take i = (Lib.split s [44, 32]) := List.take_of_length_le hi
        rw [hts2]
        have hsp : ∀ u ∈ (Lib.split s [44, 32]).map tokS, SpLen u := fun u hu => by
          obtain ⟨x, hx, rfl⟩ := List.mem_map.1 hu
          have h1 := tok_e x
          have h2 : x.length ≤ s.length := split_mem hx
          unfold SpLen; omega
        refine W.region ?_
        refine S.pure tOk zOk rfl rfl rfl ?_
        refine S.pure tOk zOk rfl rfl rfl ?_
        refine S.call rfl rfl rfl rfl rfl (pc_outref2_RangeError ((Lib.split s [44, 32]).map tokS) (by have := c1; simp at this ⊢; omega) hsp) ?_
        refine S.slice tOk rfl rfl ?_
        refine S.call rfl rfl rfl rfl rfl (pc_first2 (firstNe ((Lib.split s [44, 32]).map tokE)) (rangeE ((Lib.split s [44, 32]).map tokS))) ?_
        refine S.pure tOk zOk rfl rfl rfl ?_
        refine thenK_n ?_
        refine W.seq ?_
        refine W.region ?_
        refine S.pure tOk zOk rfl rfl rfl ?_
        refine S.pure tOk zOk rfl rfl rfl ?_
        refine thenK_n ?_
        refine W.cond rfl (fun c15 => ?_) (fun c15 => ?_)
        · skip
          refine W.seq ?_
          refine W.region ?_
          refine S.pure tOk zOk rfl rfl rfl ?_
          refine S.pure tOk zOk rfl rfl rfl ?_
          refine S.store tOk rfl rfl rfl rfl rfl rfl rfl rfl ?_
          refine S.pure tOk zOk rfl rfl rfl ?_
          refine thenK_n ?_
          refine W.ret ?_
          refine thenK_r ?_
          exact ⟨_, rfl, rfl, le_rgNil (rR_err c1 c2 hall c15)⟩
        · skip
          refine W.skip ?_
          refine thenK_n ?_
          refine W.seq ?_
          refine W.region ?_
          refine S.pure tOk zOk rfl rfl rfl ?_
          refine S.store tOk rfl rfl rfl rfl rfl rfl rfl rfl ?_
          refine S.pure tOk zOk rfl rfl rfl ?_
          refine thenK_n ?_
          refine W.ret ?_
          exact ⟨_, rfl, rfl, le_rg (rR_ok c1 c2 hall c15)⟩

end Go.Proofs.YtnphejkeflngcaaGreatDoor

/- Plain words: what the program reads as a range, the reference reads. -/
set_option linter.unusedVariables false
set_option linter.unusedSimpArgs false
namespace Go.Proofs.YtnphejkeflngcaaGreatDoor
open Go

theorem first_of {c : UInt8} {s : List UInt8} (h : c ∈ s) : ∃ x y, s = x ++ c :: y ∧ c ∉ x := by
  induction s with
  | nil => cases h
  | cons a s ih =>
    by_cases ha : a = c
    · subst ha; exact ⟨[], s, rfl, by simp⟩
    · have h' : c ∈ s := by rcases List.mem_cons.1 h with h | h; exact absurd h.symm ha; exact h
      obtain ⟨x, y, rfl, hx⟩ := ih h'
      exact ⟨a :: x, y, rfl, by simp [hx, Ne.symm ha]⟩
theorem contains_iff {c : UInt8} {s : List UInt8} : Lib.contains s [c] = decide (c ∈ s) := by
  unfold Lib.contains
  by_cases h : c ∈ s
  · obtain ⟨x, y, rfl, hx⟩ := first_of h
    rw [index_at hx]; simp
  · rw [index_none h]; simp [h]
theorem rowB_iff {s : List UInt8} : rowB s = decide ((32 : UInt8) ∉ s) := by rw [rowB, contains_iff]; simp
theorem parse_check {s : List UInt8} {v : Ver} (h : parseB s = (v, 0)) : v.check = 0 := by
  unfold parseB parseW at h
  split at h
  · simp at h
  · split at h
    · unfold threeB at h
      split at h
      · simp at h
      · split at h
        · simp at h
        · split at h
          · simp at h
          · split at h
            · rename_i hc
              simp only [Prod.mk.injEq] at h
              rw [h.2] at hc
              simp at hc
            · rename_i hc
              simp only [Prod.mk.injEq, and_true] at h
              rw [← h]
              simpa [Ver.check] using hc
    · simp at h
theorem check_codes (a b c : Int) (e : List UInt8) : checkB a b c e = 0 ∨ checkB a b c e = 2 ∨ checkB a b c e = 3 := by
  unfold checkB
  split
  · simp
  · split <;> simp
theorem nextOk_codes (x y z : Int) : (nextOk x y z).2 ≠ 8 := by
  unfold nextOk
  split <;> simp
theorem next_codes (v : Ver) (p : Int) : (nextB v p).2 ≠ 8 := by
  unfold nextB
  split
  · have := check_codes v.a v.b v.c v.e
    simp only [Ver.check]; omega
  · split
    · exact nextOk_codes _ _ _
    · split
      · exact nextOk_codes _ _ _
      · split
        · exact nextOk_codes _ _ _
        · split
          · simp
          · exact nextOk_codes _ _ _
theorem behind_codes (v : Ver) (g : Int) : (behindB v g).2 ≠ 8 := by
  unfold behindB
  split
  · have := check_codes v.a v.b v.c (v.e ++ [46, 48])
    simp only; omega
  · split
    · exact next_codes _ _
    · split <;> exact next_codes _ _
theorem check_a {v : Ver} (h : v.check = 0) : 0 ≤ v.a := by
  unfold Ver.check checkB at h
  split at h
  · cases h
  · rename_i h1
    simp [outsideN, outsideB] at h1
    omega
theorem behind_eq {v : Ver} (h : v.check = 0) (g : Int) : behindR' v g = behindB v g := by
  have ha := check_a h
  have e : decide (v.a > 0) = !(v.a == 0) := by
    by_cases h0 : v.a = 0
    · simp [h0]
    · have : v.a > 0 := by omega
      simp [h0, this]
  simp only [behindR', behindB, e]
theorem shortV_eq (k : Int) (w : List UInt8) (h42 : k ≠ 42) (h62 : k ≠ 62) (h60 : k ≠ 60) (h98 : k ≠ 98) : (shortV k w).2 = (spanB ⟨k, w, []⟩).2 ∧ ((shortV k w).2 = 0 → (shortV k w).1 = (spanB ⟨k, w, []⟩).1) ∧ ((shortV k w).2 = 8 ↔ (parseB w).2 = 8) := by
  rw [shortV_def]
  unfold spanB
  simp only [beq_iff_eq, h42, h62, h60, h98, if_false]
  by_cases hp : (parseB w).2 = 0
  · have hc := parse_check (s := w) (v := (parseB w).1) (by rw [← hp])
    simp only [hp, bne_self_eq_false, Bool.false_eq_true, if_false, behind_eq hc]
    refine ⟨?_, ?_, ?_⟩ <;> simp [behind_codes]
  · simp [hp]
theorem idx3 {c : UInt8} (h : Lib.indexByte [61, 94, 126] c ≥ 0) : c = 61 ∨ c = 94 ∨ c = 126 := by
  simp only [Lib.indexByte] at h
  by_cases h1 : (61 : UInt8) = c
  · exact .inl h1.symm
  · by_cases h2 : (94 : UInt8) = c
    · exact .inr (.inl h2.symm)
    · by_cases h3 : (126 : UInt8) = c
      · exact .inr (.inr h3.symm)
      · simp [h1, h2, h3] at h
theorem idx4 {c : UInt8} (h : c ≠ 60) : decide (Lib.indexByte [60, 61, 94, 126] c ≥ 0) = decide (Lib.indexByte [61, 94, 126] c ≥ 0) := by
  simp only [Lib.indexByte]
  by_cases h1 : (61 : UInt8) = c
  · subst h1; decide
  · by_cases h2 : (94 : UInt8) = c
    · subst h2; decide
    · by_cases h3 : (126 : UInt8) = c
      · subst h3; decide
      · simp [h1, h2, h3, Ne.symm h]
theorem byte_back (c : UInt8) : (bI c).toNat.toUInt8 = c := by simp [bI]
theorem pre2 {x : List UInt8} (h : Lib.hasPrefix x [62, 61] = true) : ∃ r, x = 62 :: 61 :: r := by
  unfold Lib.hasPrefix at h
  match x, h with
  | [], h => simp at h
  | [a], h => simp [List.isPrefixOf] at h
  | a :: b :: r, h =>
    simp [List.isPrefixOf] at h
    exact ⟨r, by rw [h.1, h.2]⟩
theorem pre1 {x : List UInt8} (h : Lib.hasPrefix x [60] = true) : ∃ r, x = 60 :: r := by
  unfold Lib.hasPrefix at h
  match x, h with
  | [], h => simp at h
  | a :: r, h =>
    simp [List.isPrefixOf] at h
    exact ⟨r, by rw [h]⟩
theorem trim2 (r : List UInt8) : Lib.trimPrefix (62 :: 61 :: r) [62, 61] = r := by simp [Lib.trimPrefix, Lib.hasPrefix, List.isPrefixOf]
theorem trim1 (r : List UInt8) : Lib.trimPrefix (60 :: r) [60] = r := by simp [Lib.trimPrefix, Lib.hasPrefix, List.isPrefixOf]
theorem has2 (r : List UInt8) : Lib.hasPrefix (62 :: 61 :: r) [62, 61] = true := by simp [Lib.hasPrefix, List.isPrefixOf]
theorem has1 (r : List UInt8) : Lib.hasPrefix (60 :: r) [60] = true := by simp [Lib.hasPrefix, List.isPrefixOf]

/-- What is told of a token by the program and by the reference. -/
def Same (t : List UInt8) : Prop := badB t = (tokE t == 8) ∧ (badB t = false → (spanB (itemB t).1).2 = tokE t ∧ (tokE t = 0 → (spanB (itemB t).1).1 = tokS t))

theorem same_from {r : List UInt8} (h : (32 : UInt8) ∉ r) : Same (62 :: 61 :: r) := by
  have hw : wordsR (62 :: 61 :: r) = [62 :: 61 :: r] := split_none (by simp [h])
  have hi : itemB (62 :: 61 :: r) = (⟨62, r, []⟩, true) := by
    unfold itemB
    rw [if_neg (by simp), if_pos (has2 r), trim2, cut_none h, if_neg (by simp), rowB_iff]
    simp [h]
  have ht : tokR (62 :: 61 :: r) = (⟨true, false, (parseB r).1, Ver.z⟩, (parseB r).2) := by
    rw [tok_1 (by rw [hw]; simp [has2])]
    rw [hw]; simp [trim2]
  unfold Same badB tokE tokS
  rw [hi, ht]
  refine ⟨by simp [wrongB], fun _ => ?_⟩
  unfold spanB
  by_cases hp : (parseB r).2 = 0 <;> simp [hp]
theorem same_to {r : List UInt8} (h : (32 : UInt8) ∉ r) : Same (60 :: r) := by
  have hw : wordsR (60 :: r) = [60 :: r] := split_none (by simp [h])
  have hi : itemB (60 :: r) = (⟨60, r, []⟩, true) := by
    unfold itemB
    rw [if_neg (by simp), if_neg (by simp [Lib.hasPrefix, List.isPrefixOf]), if_pos (by simp [byte_back]; decide), rowB_iff]
    simp [h, bI]
  have ht : tokR (60 :: r) = (⟨false, true, Ver.z, (parseB r).1⟩, (parseB r).2) := by
    rw [tok_2 (by rw [hw]; simp [Lib.hasPrefix, List.isPrefixOf]) (by rw [hw]; simp [has1])]
    rw [hw]; simp [trim1]
  unfold Same badB tokE tokS
  rw [hi, ht]
  refine ⟨by simp [wrongB], fun _ => ?_⟩
  unfold spanB
  by_cases hp : (parseB r).2 = 0 <;> simp [hp]
theorem same_short {t : List UInt8} (h : (32 : UInt8) ∉ t) (h1 : Lib.hasPrefix t [62, 61] = false) (h2 : Lib.hasPrefix t [60] = false) : Same t := by
  have hw : wordsR t = [t] := split_none h
  have ht : tokR t = shortB t := by
    rw [tok_3 (by rw [hw]; simp [h1]) (by rw [hw]; simp [h2]) (by rw [hw]; simp)]
    rw [hw]; simp
  by_cases hs : t = [42]
  · subst hs
    have hi : itemB [42] = (⟨42, [], []⟩, true) := rfl
    have hq : shortB [42] = (Sp.z, 0) := rfl
    unfold Same badB tokE tokS
    rw [hi, ht, hq]
    exact ⟨by simp, fun _ => ⟨rfl, fun _ => rfl⟩⟩
  · have key : ∀ (k : Int) (w : List UInt8), itemB t = (⟨k, w, []⟩, true) → shortB t = shortV k w → k ≠ 42 → k ≠ 62 → k ≠ 60 → k ≠ 98 → Same t := fun k w hi hq k1 k2 k3 k4 => by
      obtain ⟨q1, q2, q3⟩ := shortV_eq k w k1 k2 k3 k4
      unfold Same badB tokE tokS
      rw [hi, ht, hq]
      refine ⟨?_, fun _ => ⟨q1.symm, fun h0 => (q2 h0).symm⟩⟩
      have e : ((shortV k w).2 == 8) = ((parseB w).2 == 8) := by
        rw [Bool.eq_iff_iff]; simpa using q3
      have b1 : (k == 42) = false := by simpa using k1
      have b4 : (k == 98) = false := by simpa using k4
      simp only [wrongB, e, b1, b4]; simp
    by_cases hc : (!(t == []) && decide (Lib.indexByte [61, 94, 126] (bI (t.getD 0 0)).toNat.toUInt8 ≥ 0)) = true
    · obtain ⟨a, r, rfl⟩ : ∃ a r, t = a :: r := by
        cases t with
        | nil => simp at hc
        | cons a r => exact ⟨a, r, rfl⟩
      have hc' := hc
      simp only [byte_back] at hc'
      simp at hc'
      have h60 : a ≠ 60 := fun e => by subst e; simp [has1] at h2
      refine key (bI a) r ?_ ?_ ?_ ?_ ?_ ?_
      · unfold itemB
        rw [if_neg (by simpa using hs), if_neg (by simp [h1]), if_pos, rowB_iff]
        · simp at h; simp [h]
        · simp only [byte_back]
          have := idx4 h60
          simp at this ⊢
          rw [this]; exact hc'
      · unfold shortB
        rw [if_neg (by simpa using hs), if_pos hc]; simp
      all_goals
        rcases idx3 hc' with rfl | rfl | rfl <;> decide
    · refine key 94 t ?_ ?_ (by decide) (by decide) (by decide) (by decide)
      · unfold itemB
        rw [if_neg (by simpa using hs), if_neg (by simp [h1]), if_neg, rowB_iff]
        · simp [h]
        · intro hx
          apply hc
          cases t with
          | nil => simp at hx
          | cons a r =>
            have h60 : a ≠ 60 := fun e => by subst e; simp [has1] at h2
            have := idx4 h60
            simp only [byte_back] at hx ⊢
            simp at hx this ⊢
            rw [← this]; exact hx
      · unfold shortB
        rw [if_neg (by simpa using hs), if_neg hc]
theorem same_two {x y : List UInt8} (hx : (32 : UInt8) ∉ x) : Same (x ++ 32 :: y) := by
  have hw : wordsR (x ++ 32 :: y) = x :: Lib.split y [32] := split_cons hx
  have hlen : ((wordsR (x ++ 32 :: y)).length : Int) ≠ 1 := by
    rw [hw]; have := split_pos y [32]; simp only [List.length_cons]; omega
  have e1 : ∀ b, ((((wordsR (x ++ 32 :: y)).length : Int) == 1) && b) = false := fun b => by
    rw [show (((wordsR (x ++ 32 :: y)).length : Int) == 1) = false by simpa using hlen]; rfl
  have e0 : (((wordsR (x ++ 32 :: y)).length : Int) == 1) = false := by simpa using hlen
  have f0 : (wordsR (x ++ 32 :: y)).getD 0 [] = x := by rw [hw]; rfl
  have bad8 : ∀ (it : It), itemB (x ++ 32 :: y) = (it, false) → tokR (x ++ 32 :: y) = (Sp.z, 8) → Same (x ++ 32 :: y) := fun it hi ht => by
    unfold Same badB tokE
    rw [hi, ht]; simp
  by_cases hp : Lib.hasPrefix x [62, 61] = true
  · obtain ⟨r, rfl⟩ := pre2 hp
    have hr : (32 : UInt8) ∉ r := by simp at hx; exact hx
    have hcut : Lib.cut (r ++ 32 :: y) [32] = (r, y, true) := cut_at hr
    have hi : itemB (62 :: 61 :: r ++ 32 :: y) = (⟨98, r, Lib.trimPrefix y [60]⟩, (Lib.hasPrefix y [60] && rowB r) && rowB (Lib.trimPrefix y [60])) := by
      show itemB (62 :: 61 :: (r ++ 32 :: y)) = _
      unfold itemB
      rw [if_neg (by simp), if_pos (has2 _), trim2, hcut]
      rfl
    by_cases hy : (32 : UInt8) ∈ y
    · obtain ⟨y1, y2, rfl, hy1⟩ := first_of hy
      have hl3 : ((wordsR (62 :: 61 :: r ++ 32 :: (y1 ++ 32 :: y2))).length : Int) ≠ 2 := by
        rw [hw, split_cons hy1]; have := split_pos y2 [32]; simp only [List.length_cons]; omega
      have ht : tokR (62 :: 61 :: r ++ 32 :: (y1 ++ 32 :: y2)) = (Sp.z, 8) := by
        refine tok_5 (e1 _) (e1 _) e0 ?_
        rw [show (((wordsR (62 :: 61 :: r ++ 32 :: (y1 ++ 32 :: y2))).length : Int) == 2) = false by simpa using hl3]; rfl
      refine bad8 ⟨98, r, Lib.trimPrefix (y1 ++ 32 :: y2) [60]⟩ ?_ ht
      rw [hi]
      congr 1
      by_cases hq : Lib.hasPrefix (y1 ++ 32 :: y2) [60] = true
      · obtain ⟨q, hq'⟩ := pre1 hq
        have : (32 : UInt8) ∈ q := by
          have h3 : (32 : UInt8) ∈ y1 ++ 32 :: y2 := hy
          rw [hq'] at h3; simpa using h3
        rw [hq', trim1, rowB_iff (s := q)]; simp [this]
      · simp [hq]
    · have hws : wordsR (62 :: 61 :: r ++ 32 :: y) = [62 :: 61 :: r, y] := by rw [hw, split_none hy]
      by_cases hq : Lib.hasPrefix y [60] = true
      · obtain ⟨q, rfl⟩ := pre1 hq
        have hq32 : (32 : UInt8) ∉ q := by simp at hy; exact hy
        have ht := tok_4 (t := 62 :: 61 :: r ++ 32 :: (60 :: q)) (e1 _) (e1 _) e0 (by rw [hws]; simp [has2, has1])
        rw [hws] at ht
        simp only [List.getD_cons_zero, List.length_cons, List.length_nil, Nat.zero_add, Nat.add_sub_cancel, List.getD_cons_succ, trim2, trim1] at ht
        rw [trim1, has1] at hi
        have hi' : itemB (62 :: 61 :: r ++ 32 :: (60 :: q)) = (⟨98, r, q⟩, true) := by rw [hi, rowB_iff, rowB_iff]; simp [hr, hq32]
        unfold Same badB tokE tokS
        rw [hi', ht]
        by_cases hF : (parseB r).2 = 8
        · simp [wrongB, hF]
        · by_cases hT : (parseB q).2 = 8
          · simp [wrongB, hF, hT]
          · refine ⟨?_, fun _ => ?_⟩
            · have : firstB (parseB r).2 (parseB q).2 ≠ 8 := by unfold firstB; split <;> assumption
              have f1 : ((parseB r).2 == 8) = false := by simpa using hF
              have f2 : ((parseB q).2 == 8) = false := by simpa using hT
              have f3 : (firstB (parseB r).2 (parseB q).2 == 8) = false := by simpa using this
              simp [wrongB, f1, f2, f3]
            · unfold spanB
              by_cases hF0 : (parseB r).2 = 0
              · simp [hF0, hT, firstB]
              · simp [hF0, hF, hT, firstB]
      · have ht : tokR (62 :: 61 :: r ++ 32 :: y) = (Sp.z, 8) := tok_5 (e1 _) (e1 _) e0 (by rw [hws]; simp [hq])
        exact bad8 ⟨98, r, Lib.trimPrefix y [60]⟩ (by rw [hi]; simp [hq]) ht
  · have hp : Lib.hasPrefix x [62, 61] = false := by simpa using hp
    have ht : tokR (x ++ 32 :: y) = (Sp.z, 8) := tok_5 (e1 _) (e1 _) e0 (by rw [f0, hp]; simp)
    have hpt : Lib.hasPrefix (x ++ 32 :: y) [62, 61] = false := by
      match x, hp with
      | [], _ => simp [Lib.hasPrefix, List.isPrefixOf]
      | [a], _ => simp [Lib.hasPrefix, List.isPrefixOf]
      | a :: b :: x, hp => simpa [Lib.hasPrefix, List.isPrefixOf] using hp
    have hne : (x ++ 32 :: y == [42]) = false := by
      have : x ++ 32 :: y ≠ [42] := fun e => by
        have h3 : (32 : UInt8) ∈ x ++ 32 :: y := by simp
        rw [e] at h3; simp at h3
      simpa using this
    by_cases hc : (!(x ++ 32 :: y == []) && decide (Lib.indexByte [60, 61, 94, 126] (bI ((x ++ 32 :: y).getD 0 0)).toNat.toUInt8 ≥ 0)) = true
    · refine bad8 ⟨bI ((x ++ 32 :: y).getD 0 0), (x ++ 32 :: y).drop 1, []⟩ ?_ ht
      unfold itemB
      rw [if_neg (by simp [hne]), if_neg (by simp [hpt]), if_pos hc]
      congr 1
      match x, hc with
      | [], hc => simp [byte_back, Lib.indexByte] at hc
      | a :: x, _ => rw [rowB_iff]; simp
    · refine bad8 ⟨94, x ++ 32 :: y, []⟩ ?_ ht
      unfold itemB
      rw [if_neg (by simp [hne]), if_neg (by simp [hpt]), if_neg hc, rowB_iff]
      simp
theorem same_all (t : List UInt8) : Same t := by
  by_cases h : (32 : UInt8) ∈ t
  · obtain ⟨x, y, rfl, hx⟩ := first_of h
    exact same_two hx
  · by_cases h1 : Lib.hasPrefix t [62, 61] = true
    · obtain ⟨r, rfl⟩ := pre2 h1
      exact same_from (by simp at h; exact h)
    · by_cases h2 : Lib.hasPrefix t [60] = true
      · obtain ⟨r, rfl⟩ := pre1 h2
        exact same_to (by simp at h; exact h)
      · exact same_short h (by simpa using h1) (by simpa using h2)
theorem firstNe_zero : ∀ {l : List Int}, firstNe l = 0 → ∀ x ∈ l, x = 0
  | [], _, x, hx => by cases hx
  | a :: l, h, x, hx => by
    by_cases ha : a = 0
    · subst ha
      have h' : firstNe l = 0 := by simpa [firstNe] using h
      rcases List.mem_cons.1 hx with rfl | hx
      · rfl
      · exact firstNe_zero h' x hx
    · unfold firstNe at h
      rw [List.find?_cons, show (a != 0) = true by simpa using ha] at h
      exact absurd h ha
/-- **What the program reads as a range, the reference reads.** -/
theorem range_eq (s : List UInt8) : rangeB s = rangeR s := by
  unfold rangeB rangeR
  split
  · rfl
  · split
    · rfl
    · have hbad : (partsR s).any badB = (partsR s).any (fun t => tokE t == 8) := by
        congr 1; funext t; exact (same_all t).1
      rw [hbad]
      split
      · rfl
      · rename_i h8
        have hall : ∀ t ∈ partsR s, badB t = false := fun t ht => by
          rw [(same_all t).1]
          have := List.any_eq_false.1 (Bool.eq_false_iff.2 h8) t ht
          simpa using this
        have hcodes : ((partsR s).map fun t => (spanB (itemB t).1).2) = (partsR s).map tokE := List.map_congr_left fun t ht => ((same_all t).2 (hall t ht)).1
        rw [hcodes]
        by_cases h0 : firstNe ((partsR s).map tokE) = 0
        · have hsp : ((partsR s).map fun t => (spanB (itemB t).1).1) = (partsR s).map tokS := List.map_congr_left fun t ht =>
            ((same_all t).2 (hall t ht)).2 (firstNe_zero h0 _ (List.mem_map_of_mem ht))
          rw [hsp, h0]
          simp [firstB]
        · simp [h0, firstB]
end Go.Proofs.YtnphejkeflngcaaGreatDoor

/- Plain words: a range that is printed is read again. -/
set_option linter.unusedVariables false
set_option linter.unusedSimpArgs false
namespace Go.Proofs.YtnphejkeflngcaaGreatDoor
open Go

/-! ### Splitting at a separator of two bytes -/
theorem index2_none {c d : UInt8} : ∀ {s : List UInt8}, c ∉ s → Lib.index s [c, d] = -1
  | [], _ => rfl
  | b :: l, h => by
    have h1 : c ≠ b := fun e => h (e ▸ List.mem_cons_self ..)
    have h2 := index2_none (d := d) (s := l) (fun e => h (List.mem_cons_of_mem _ e))
    have hp : List.isPrefixOf [c, d] (b :: l) = false := by simp [List.isPrefixOf, h1]
    unfold Lib.index
    rw [hp, h2]; rfl
theorem index2_at {c d : UInt8} {y : List UInt8} : ∀ {x : List UInt8}, c ∉ x → Lib.index (x ++ c :: d :: y) [c, d] = x.length
  | [], _ => by
    have hp : List.isPrefixOf [c, d] (c :: d :: y) = true := by simp [List.isPrefixOf]
    show Lib.index (c :: d :: y) [c, d] = 0
    unfold Lib.index
    rw [hp]; rfl
  | b :: l, h => by
    have h1 : c ≠ b := fun e => h (e ▸ List.mem_cons_self ..)
    have h2 := index2_at (d := d) (x := l) (y := y) (fun e => h (List.mem_cons_of_mem _ e))
    have hp : List.isPrefixOf [c, d] (b :: (l ++ c :: d :: y)) = false := by simp [List.isPrefixOf, h1]
    show Lib.index (b :: (l ++ c :: d :: y)) [c, d] = _
    unfold Lib.index
    rw [hp, h2]
    simp only [List.length_cons, Bool.false_eq_true, if_false]
    rw [if_neg (by simp)]
    rfl
theorem split2_none {c d : UInt8} {s : List UInt8} (h : c ∉ s) : Lib.split s [c, d] = [s] := by
  have : Lib.count s [c, d] = 0 := by simp [Lib.count, Lib.countFrom, index2_none h]
  unfold Lib.split
  rw [this]; rfl
theorem split2_cons {c d : UInt8} {x y : List UInt8} (h : c ∉ x) : Lib.split (x ++ c :: d :: y) [c, d] = x :: Lib.split y [c, d] := by
  have hi := index2_at (d := d) (y := y) h
  have hm : ¬ (Lib.index (x ++ c :: d :: y) [c, d] == -1) = true := by rw [hi]; simp
  have e1 : ((x.length : Int)).toNat = x.length := by omega
  have hd : (x ++ c :: d :: y).drop (x.length + [c, d].length) = y := by
    have e2 : x.length + [c, d].length = (x ++ [c, d]).length := by simp
    have e3 : x ++ c :: d :: y = (x ++ [c, d]) ++ y := by simp
    rw [e2, e3, List.drop_left]
  have hc : Lib.count (x ++ c :: d :: y) [c, d] = Lib.count y [c, d] + 1 := by
    unfold Lib.count
    rw [Lib.countFrom, if_neg hm, hi, e1, hd, Nat.add_comm 1]
    rw [countFrom_fuel (by simp) _ (y.length + 1) y (by simp; omega) (by omega)]
  unfold Lib.split
  rw [hc, Lib.splitK, if_neg hm, hi, e1, hd]
  simp
theorem join_two {x y sep : List UInt8} {xs : List (List UInt8)} : Lib.join (x :: y :: xs) sep = x ++ sep ++ Lib.join (y :: xs) sep := by
  simp [Lib.join, List.intercalate, List.intersperse]
theorem split2_join {c d : UInt8} : ∀ {xs : List (List UInt8)}, xs ≠ [] → (∀ x ∈ xs, c ∉ x) → Lib.split (Lib.join xs [c, d]) [c, d] = xs
  | [], h, _ => absurd rfl h
  | [x], _, h => by rw [Lib.join_one]; exact split2_none (h x (List.mem_cons_self ..))
  | x :: y :: xs, _, h => by
    rw [join_two, show x ++ [c, d] ++ Lib.join (y :: xs) [c, d] = x ++ c :: d :: Lib.join (y :: xs) [c, d] by simp, split2_cons (h x (List.mem_cons_self ..)),
      split2_join (by simp) (fun z hz => h z (List.mem_cons_of_mem _ hz))]

/-! ### The bytes of a version's text -/
theorem split_bytes {c : UInt8} : ∀ (n : Nat) (s : List UInt8), s.length ≤ n → ∀ a ∈ s, a = c ∨ ∃ w ∈ Lib.split s [c], a ∈ w
  | 0, s, h, a, ha => by
    have : s = [] := List.length_eq_zero_iff.1 (by omega)
    subst this; cases ha
  | n + 1, s, h, a, ha => by
    by_cases hc : c ∈ s
    · obtain ⟨x, y, rfl, hx⟩ := first_of hc
      rw [split_cons hx]
      rcases List.mem_append.1 ha with h1 | h1
      · exact .inr ⟨x, List.mem_cons_self .., h1⟩
      · rcases List.mem_cons.1 h1 with h1 | h1
        · exact .inl h1
        · rcases split_bytes n y (by simp at h; omega) a h1 with h2 | ⟨w, h2, h3⟩
          · exact .inl h2
          · exact .inr ⟨w, List.mem_cons_of_mem _ h2, h3⟩
    · rw [split_none hc]; exact .inr ⟨s, List.mem_cons_self .., ha⟩
theorem word_bytes {w : List UInt8} (h : wordB w = true) : ∀ a ∈ w, earlyC (bI a) = true := by
  unfold wordB eachB at h
  simp only [Bool.and_eq_true, List.all_eq_true] at h
  exact h.1.1
theorem early_ne {a : UInt8} (h : earlyC (bI a) = true) : a ≠ 44 ∧ a ≠ 32 := by
  constructor <;> rintro rfl <;> revert h <;> decide
theorem text_clean {v : Ver} (h : v.check = 0) : ∀ a ∈ v.text, a ≠ 44 ∧ a ≠ 32 := by
  have h' := h
  unfold Ver.check checkB at h'
  split at h'
  · cases h'
  · rename_i ho
    have ho' : outsideN v.a = false ∧ outsideN v.b = false ∧ outsideN v.c = false := by
      cases ha : outsideN v.a <;> cases hb : outsideN v.b <;> cases hc : outsideN v.c <;> simp [ha, hb, hc] at ho ⊢
    have dig : ∀ n, outsideN n = false → ∀ a ∈ Lib.itoa n, a ≠ 44 ∧ a ≠ 32 := fun n hn a ha => by
      have h1 := (num_itoa hn).2 a ha
      constructor <;> rintro rfl <;> revert h1 <;> decide
    have he : ∀ a ∈ v.e, a ≠ 44 ∧ a ≠ 32 := fun a ha => by
      rcases check_early h with h1 | h1
      · rw [h1] at ha; cases ha
      · rcases split_bytes (c := 46) _ v.e (Nat.le_refl _) a ha with h2 | ⟨w, h2, h3⟩
        · subst h2; decide
        · exact early_ne (word_bytes (List.all_eq_true.1 h1 w h2) a h3)
    intro a ha
    unfold Ver.text textB at ha
    simp only [List.mem_append, List.mem_cons, List.not_mem_nil, or_false] at ha
    rcases ha with ((((ha | ha) | ha) | ha) | ha) | ha
    · exact dig _ ho'.1 a ha
    · subst ha; decide
    · exact dig _ ho'.2.1 a ha
    · subst ha; decide
    · exact dig _ ho'.2.2 a ha
    · split at ha
      · cases ha
      · simp only [List.mem_append, List.mem_cons, List.not_mem_nil, or_false] at ha
        rcases ha with ha | ha
        · subst ha; decide
        · exact he a ha
theorem parse_T {v : Ver} (h : v.check = 0) : parseB v.text = (v, 0) := parse_text h
theorem spanE_form {s : Sp} (h : spanE s = 0) : (s.hf = false → s.f = Ver.z) ∧ (s.ht = false → s.t = Ver.z) := by
  refine form_f ?_
  cases hx : ((!(s.f.eqb Ver.z) && !s.hf) || (!(s.t.eqb Ver.z) && !s.ht)) with
  | false => rfl
  | true => rw [spE_form hx] at h; cases h
theorem row_text {v : Ver} (h : v.check = 0) : rowB v.text = true := by
  rw [rowB_iff]
  simp only [decide_eq_true_eq]
  exact fun hm => (text_clean h _ hm).2 rfl
/-- A span's text is read as the span. -/
theorem item_text {s : Sp} (h : spanE s = 0) : badB (spT s) = false ∧ spanB (itemB (spT s)).1 = (s, 0) := by
  obtain ⟨hcf, hct⟩ := span_checks h
  obtain ⟨zf, zt⟩ := spanE_form h
  have pf := parse_T hcf
  have pt := parse_T hct
  have nf : (32 : UInt8) ∉ s.f.text := fun hm => (text_clean hcf _ hm).2 rfl
  obtain ⟨hf, ht, f, t⟩ := s
  simp only at *
  cases hf <;> cases ht
  · have e1 := zf rfl
    have e2 := zt rfl
    subst e1; subst e2
    have hi : itemB (spT ⟨false, false, Ver.z, Ver.z⟩) = (⟨42, [], []⟩, true) := rfl
    unfold badB
    rw [hi]
    exact ⟨by simp, rfl⟩
  · have e1 := zf rfl
    subst e1
    have hs : spT ⟨false, true, Ver.z, t⟩ = 60 :: t.text := by simp [spT]
    have hi : itemB (60 :: t.text) = (⟨60, t.text, []⟩, true) := by
      unfold itemB
      rw [if_neg (by simp), if_neg (by simp [Lib.hasPrefix, List.isPrefixOf]), if_pos (by simp [byte_back]; decide)]
      simp [row_text hct, bI]
    unfold badB
    rw [hs, hi]
    refine ⟨by simp [wrongB, pt], ?_⟩
    unfold spanB
    simp [pt]
  · have e1 := zt rfl
    subst e1
    have hs : spT ⟨true, false, f, Ver.z⟩ = 62 :: 61 :: f.text := by simp [spT]
    have hi : itemB (62 :: 61 :: f.text) = (⟨62, f.text, []⟩, true) := by
      unfold itemB
      rw [if_neg (by simp), if_pos (has2 _), trim2, cut_none nf, if_neg (by simp), row_text hcf]
    unfold badB
    rw [hs, hi]
    refine ⟨by simp [wrongB, pf], ?_⟩
    unfold spanB
    simp [pf]
  · have hs : spT ⟨true, true, f, t⟩ = 62 :: 61 :: (f.text ++ 32 :: (60 :: t.text)) := by simp [spT]
    have hi : itemB (62 :: 61 :: (f.text ++ 32 :: (60 :: t.text))) = (⟨98, f.text, t.text⟩, true) := by
      unfold itemB
      rw [if_neg (by simp), if_pos (has2 _), trim2, cut_at nf]
      simp [trim1, has1, row_text hcf, row_text hct]
    unfold badB
    rw [hs, hi]
    refine ⟨by simp [wrongB, pf, pt], ?_⟩
    unfold spanB
    simp [pf, pt]
theorem span_comma {s : Sp} (h : spanE s = 0) : (44 : UInt8) ∉ spT s := by
  obtain ⟨hcf, hct⟩ := span_checks h
  have cf : (44 : UInt8) ∉ s.f.text := fun hm => (text_clean hcf _ hm).1 rfl
  have ct : (44 : UInt8) ∉ s.t.text := fun hm => (text_clean hct _ hm).1 rfl
  unfold spT
  split
  · simp [cf, ct]
  · split
    · simp [cf]
    · split
      · simp [ct]
      · simp
theorem range_spans {ss : List Sp} (h : rangeE ss = 0) : ∀ s ∈ ss, spanE s = 0 := by
  unfold rangeE at h
  split at h
  · cases h
  · intro s hs
    obtain ⟨i, hi, rfl⟩ := List.getElem_of_mem hs
    have h1 := firstNe_zero h (spAt ss i) (List.mem_map.2 ⟨i, by simpa using hi, rfl⟩)
    have e : ss.getD i Sp.z = ss[i] := by simp [List.getD_eq_getElem?_getD, hi]
    unfold spAt at h1
    rw [e] at h1
    split at h1
    · rename_i hne; simp at hne; exact absurd h1 hne
    · rename_i hne; simpa using hne
/-- **What is printed is read again.** -/
theorem range_again {ss : List Sp} (h : rangeE ss = 0) (hl : (printR ss).1.length ≤ 1000) : rangeB (printR ss).1 = (ss, 0) := by
  have hsp := range_spans h
  have hp : printR ss = if (ss.length : Int) == 0 then ([110, 111, 110, 101], 0) else (Lib.join (ss.map spT) [44, 32], 0) := by
    unfold printR; rw [if_neg (by simp [h])]
  cases ss with
  | nil => rfl
  | cons s ss =>
    rw [if_neg (by simp; omega)] at hp
    rw [hp] at hl ⊢
    simp only at hl ⊢
    have hparts : partsR (Lib.join ((s :: ss).map spT) [44, 32]) = (s :: ss).map spT := split2_join (by simp) (fun x hx => by
      obtain ⟨u, hu, rfl⟩ := List.mem_map.1 hx
      exact span_comma (hsp u hu))
    have hnone : (Lib.join ((s :: ss).map spT) [44, 32] == [110, 111, 110, 101]) = false := by
      have : Lib.join ((s :: ss).map spT) [44, 32] ≠ [110, 111, 110, 101] := fun e => by
        have h1 : partsR (Lib.join ((s :: ss).map spT) [44, 32]) = [[110, 111, 110, 101]] := by rw [e]; rfl
        rw [hparts] at h1
        have h2 : spT s = [110, 111, 110, 101] := by simpa using congrArg (fun l => l.getD 0 []) h1
        unfold spT at h2
        split at h2
        · simp at h2
        · split at h2
          · simp at h2
          · split at h2 <;> simp at h2
      simpa using this
    have hmap : ((s :: ss).map spT).map (fun t => (spanB (itemB t).1).1) = s :: ss := by
      rw [List.map_map]
      refine (List.map_congr_left fun u hu => ?_).trans (List.map_id _)
      simp [(item_text (hsp u hu)).2]
    have hcodes : ((s :: ss).map spT).map (fun t => (spanB (itemB t).1).2) = (s :: ss).map fun _ => (0 : Int) := by
      rw [List.map_map]
      refine List.map_congr_left fun u hu => ?_
      simp [(item_text (hsp u hu)).2]
    have hz : firstNe ((s :: ss).map fun _ => (0 : Int)) = 0 := firstNe_none (i := (s :: ss).length) (by simp) (by
      rw [List.all_eq_true]
      intro x hx
      obtain ⟨_, _, rfl⟩ := List.mem_map.1 (List.mem_of_mem_take hx)
      rfl)
    unfold rangeB
    rw [if_neg (by simp only [decide_eq_true_eq]; omega), if_neg (by rw [hnone]; simp), hparts, if_neg, hcodes, hz, if_neg (by simp), hmap, h, if_neg (by simp)]
    rw [Bool.not_eq_true, List.any_eq_false]
    intro x hx
    obtain ⟨u, hu, rfl⟩ := List.mem_map.1 hx
    rw [(item_text (hsp u hu)).1]; simp
end Go.Proofs.YtnphejkeflngcaaGreatDoor

/- Plain words: the law on texts of ranges. -/
set_option linter.unusedVariables false
set_option linter.unusedSimpArgs false
namespace Go.Proofs.YtnphejkeflngcaaGreatDoor
open Go

theorem printR_2 (ss : List Sp) : (printR ss).2 = rangeE ss := by
  unfold printR
  split
  · rfl
  · rename_i h
    have h : rangeE ss = 0 := by simpa using h
    rw [h]; split <;> rfl
theorem rangeB_len (s : List UInt8) : (rangeB s).1.length ≤ 1002 := by
  have h := parts_many s
  unfold rangeB
  split
  · simp
  · rename_i h0
    simp only [decide_eq_true_eq] at h0
    split
    · simp
    · split
      · simp
      · split
        · simp
        · split
          · simp
          · simp only [List.length_map]; omega
theorem join_len (sep : List UInt8) (B : Nat) : ∀ (xs : List (List UInt8)), (∀ x ∈ xs, x.length ≤ B) → (Lib.join xs sep).length ≤ xs.length * (B + sep.length)
  | [], _ => by simp [Lib.join_nil]
  | [x], h => by rw [Lib.join_one]; have := h x (List.mem_cons_self ..); simp; omega
  | x :: y :: xs, h => by
    rw [join_two]
    have h1 := h x (List.mem_cons_self ..)
    have h2 := join_len sep B (y :: xs) (fun z hz => h z (List.mem_cons_of_mem _ hz))
    simp only [List.length_append, List.length_cons, Nat.add_mul, Nat.one_mul] at h2 ⊢
    omega
theorem ranges_len {ss : List Sp} (hl : ss.length ≤ 2000000) (hv : ∀ s ∈ ss, s.f.e.length < 2000000 ∧ s.t.e.length < 2000000) (ho : ∀ s ∈ ss, SpOk s) : (Lib.join (ss.map spT) [44, 32]).length ≤ 140737488355328 := by
  have h := join_len [44, 32] 4000150 (ss.map spT) (fun x hx => by
    obtain ⟨s, hs, rfl⟩ := List.mem_map.1 hx
    have h1 := spT_le (ho s hs)
    have h2 := hv s hs
    omega)
  refine Nat.le_trans h ?_
  simp only [List.length_map, List.length_cons, List.length_nil]
  have := Nat.mul_le_mul_right (4000150 + (0 + 1 + 1)) hl
  omega
theorem law_print (ss : List Sp) : ¬ ((((!true || !((printR ss).2 == rangeE ss)) || (!(rangeE ss == 0) && !((printR ss).1 == []))) || (rangeE ss == 0 && !((printR ss).1 == (if (ss.length : Int) == 0 then [110, 111, 110, 101] else Lib.join (ss.map spT) [44, 32]))))) = true := by
  rw [printR_2]
  by_cases h : rangeE ss = 0
  · have hp : (printR ss).1 = if (ss.length : Int) == 0 then [110, 111, 110, 101] else Lib.join (ss.map spT) [44, 32] := by
      unfold printR; rw [if_neg (by simp [h])]; split <;> rfl
    rw [hp]; simp [h]
  · have hp : (printR ss).1 = [] := by unfold printR; rw [if_pos (by simpa using h)]
    rw [hp]; simp [h]
theorem law_again {ss : List Sp} (h : (rangeE ss == 0 && decide (((printR ss).1.length : Int) ≤ 1000)) = true) : rangeB (printR ss).1 = (ss, 0) := by
  simp only [Bool.and_eq_true, beq_iff_eq, decide_eq_true_eq] at h
  exact range_again h.1 (by omega)
end Go.Proofs.YtnphejkeflngcaaGreatDoor

set_option linter.unusedVariables false
set_option linter.unusedSimpArgs false
set_option maxRecDepth 100000
set_option maxHeartbeats 4000000
namespace Go.Proofs.YtnphejkeflngcaaGreatDoor
open Go
open Go.RowKit
attribute [local irreducible] rangeB rangeR printR rangeE

theorem pc_outlaw2_RangesPrint (ss : List Sp) (s : List UInt8) (hl : ss.length ≤ 2000000) (hv : ∀ s ∈ ss, s.f.e.length < 2000000 ∧ s.t.e.length < 2000000) (ho : ∀ s ∈ ss, SpOk s) (hs : s.length < 4294967000) :
    PureCall Tryz.prog J 3 [rgV ss, .one (.d (.str s))] (.one (.d (.bool true))) := by
  have hj := ranges_len hl hv ho
  have hsp : ∀ u ∈ ss, SpLen u := fun u hu => by have := hv u hu; unfold SpLen; omega
  have hb := rangeB_len s
  refine PureCall.of_body tOk (fn := Tryz.f3) Tryz.func3 (by kernel_rfl) rfl (Nat.le_of_ble_eq_true rfl) (fun E => ?_)
  refine W.seq ?_
  refine W.region ?_
  refine S.box rfl rfl rfl rfl ?_
  refine S.pure tOk zOk rfl rfl rfl ?_
  refine thenK_n ?_
  refine W.seq ?_
  refine W.region ?_
  refine S.pure tOk zOk rfl rfl rfl ?_
  refine S.call rfl rfl rfl rfl rfl (pc_ver_PrintRange ss hl hv ho hj) ?_
  refine S.pure tOk zOk rfl rfl rfl ?_
  refine S.pure tOk zOk rfl rfl rfl ?_
  refine S.pure tOk zOk rfl rfl rfl ?_
  refine S.pure tOk zOk rfl rfl rfl ?_
  refine S.pure tOk zOk rfl rfl rfl ?_
  refine thenK_n ?_
  refine W.seq ?_
  refine W.region ?_
  refine S.pure tOk zOk rfl rfl rfl ?_
  refine S.call rfl rfl rfl rfl rfl (pc_outref2_RangeError ss (by omega) hsp) ?_
  refine S.pure tOk zOk rfl rfl rfl ?_
  refine thenK_n ?_
  refine W.seq ?_
  refine W.seq ?_
  refine W.region ?_
  refine S.call rfl rfl rfl rfl rfl (pc_outlaw2_versions) ?_
  refine S.pure tOk zOk rfl rfl rfl ?_
  refine S.pure tOk zOk rfl rfl rfl ?_
  refine S.pureG tOk zOk rfl rfl (by repeat first | exact allT_nil | refine allT_cons (fun h => h) ?_ | refine allT_cons (fun h => andl h) ?_ | refine allT_cons (fun h => andl (andl h)) ?_ | refine allT_cons (fun _ => rfl) ?_) (fun _ => rfl) rfl ?_
  refine S.pureG tOk zOk rfl rfl (by repeat first | exact allT_nil | refine allT_cons (fun h => h) ?_ | refine allT_cons (fun h => andl h) ?_ | refine allT_cons (fun h => andl (andl h)) ?_ | refine allT_cons (fun _ => rfl) ?_) (fun _ => rfl) rfl ?_
  refine S.pureG tOk zOk rfl rfl (by repeat first | exact allT_nil | refine allT_cons (fun h => h) ?_ | refine allT_cons (fun h => andl h) ?_ | refine allT_cons (fun h => andl (andl h)) ?_ | refine allT_cons (fun _ => rfl) ?_) (fun _ => rfl) rfl ?_
  refine S.pickOr tOk zOk rfl rfl (by repeat first | exact allT_nil | refine allT_cons (fun h => h) ?_ | refine allT_cons (fun h => andl h) ?_ | refine allT_cons (fun h => andl (andl h)) ?_ | refine allT_cons (fun _ => rfl) ?_) ?_
  refine S.pure tOk zOk rfl rfl rfl ?_
  refine S.pureG tOk zOk rfl rfl (by repeat first | exact allT_nil | refine allT_cons (fun h => h) ?_ | refine allT_cons (fun h => andl h) ?_ | refine allT_cons (fun h => andl (andl h)) ?_ | refine allT_cons (fun _ => rfl) ?_) (fun _ => rfl) rfl ?_
  refine S.pureG tOk zOk rfl rfl (by repeat first | exact allT_nil | refine allT_cons (fun h => h) ?_ | refine allT_cons (fun h => andl h) ?_ | refine allT_cons (fun h => andl (andl h)) ?_ | refine allT_cons (fun _ => rfl) ?_) (fun _ => rfl) rfl ?_
  refine S.pureG tOk zOk rfl rfl (by repeat first | exact allT_nil | refine allT_cons (fun h => h) ?_ | refine allT_cons (fun h => andl h) ?_ | refine allT_cons (fun h => andl (andl h)) ?_ | refine allT_cons (fun _ => rfl) ?_) (fun _ => rfl) rfl ?_
  refine S.pureG tOk zOk rfl rfl (by repeat first | exact allT_nil | refine allT_cons (fun h => h) ?_ | refine allT_cons (fun h => andl h) ?_ | refine allT_cons (fun h => andl (andl h)) ?_ | refine allT_cons (fun _ => rfl) ?_) (fun _ => rfl) rfl ?_
  refine S.pureG tOk zOk rfl rfl (by repeat first | exact allT_nil | refine allT_cons (fun h => h) ?_ | refine allT_cons (fun h => andl h) ?_ | refine allT_cons (fun h => andl (andl h)) ?_ | refine allT_cons (fun _ => rfl) ?_) (fun _ => rfl) rfl ?_
  refine S.pickAndG tOk zOk rfl rfl rfl (by repeat first | exact allT_nil | refine allT_cons (fun h => h) ?_ | refine allT_cons (fun h => andl h) ?_ | refine allT_cons (fun h => andl (andl h)) ?_ | refine allT_cons (fun _ => rfl) ?_) (by repeat first | exact allT_nil | refine allT_cons (fun h => h) ?_ | refine allT_cons (fun h => andl h) ?_ | refine allT_cons (fun h => andl (andl h)) ?_ | refine allT_cons (fun _ => rfl) ?_) ?_
  refine S.pickOr tOk zOk rfl rfl (by repeat first | exact allT_nil | refine allT_cons (fun h => h) ?_ | refine allT_cons (fun h => andl h) ?_ | refine allT_cons (fun h => andl (andl h)) ?_ | refine allT_cons (fun _ => rfl) ?_) ?_
  refine S.pure tOk zOk rfl rfl rfl ?_
  refine S.pureG tOk zOk rfl rfl (by repeat first | exact allT_nil | refine allT_cons (fun h => h) ?_ | refine allT_cons (fun h => andl h) ?_ | refine allT_cons (fun h => andl (andl h)) ?_ | refine allT_cons (fun _ => rfl) ?_) (fun _ => rfl) rfl ?_
  refine S.pureG tOk zOk rfl rfl (by repeat first | exact allT_nil | refine allT_cons (fun h => h) ?_ | refine allT_cons (fun h => andl h) ?_ | refine allT_cons (fun h => andl (andl h)) ?_ | refine allT_cons (fun _ => rfl) ?_) (fun _ => rfl) rfl ?_
  refine S.pureG tOk zOk rfl rfl (by repeat first | exact allT_nil | refine allT_cons (fun h => h) ?_ | refine allT_cons (fun h => andl h) ?_ | refine allT_cons (fun h => andl (andl h)) ?_ | refine allT_cons (fun _ => rfl) ?_) (fun _ => rfl) rfl ?_
  refine S.pureG tOk zOk rfl rfl (by repeat first | exact allT_nil | refine allT_cons (fun h => h) ?_ | refine allT_cons (fun h => andl h) ?_ | refine allT_cons (fun h => andl (andl h)) ?_ | refine allT_cons (fun _ => rfl) ?_) (fun _ => rfl) rfl ?_
  refine S.pureG tOk zOk rfl rfl (by repeat first | exact allT_nil | refine allT_cons (fun h => h) ?_ | refine allT_cons (fun h => andl h) ?_ | refine allT_cons (fun h => andl (andl h)) ?_ | refine allT_cons (fun _ => rfl) ?_) (fun _ => rfl) rfl ?_
  refine S.callG rfl rfl rfl rfl (by repeat first | exact allT_nil | refine allT_cons (fun h => h) ?_ | refine allT_cons (fun h => andl h) ?_ | refine allT_cons (fun h => andl (andl h)) ?_ | refine allT_cons (fun _ => rfl) ?_) rfl rfl (fun _ => pc_outref2_RangeText ss hl hv ho hj) ?_
  refine S.pureG tOk zOk rfl rfl (by repeat first | exact allT_nil | refine allT_cons (fun h => h) ?_ | refine allT_cons (fun h => andl h) ?_ | refine allT_cons (fun h => andl (andl h)) ?_ | refine allT_cons (fun _ => rfl) ?_) (fun _ => rfl) rfl ?_
  refine S.pickAndG tOk zOk rfl rfl rfl (by repeat first | exact allT_nil | refine allT_cons (fun h => h) ?_ | refine allT_cons (fun h => andl h) ?_ | refine allT_cons (fun h => andl (andl h)) ?_ | refine allT_cons (fun _ => rfl) ?_) (by repeat first | exact allT_nil | refine allT_cons (fun h => h) ?_ | refine allT_cons (fun h => andl h) ?_ | refine allT_cons (fun h => andl (andl h)) ?_ | refine allT_cons (fun _ => rfl) ?_) ?_
  refine S.pickOr tOk zOk rfl rfl (by repeat first | exact allT_nil | refine allT_cons (fun h => h) ?_ | refine allT_cons (fun h => andl h) ?_ | refine allT_cons (fun h => andl (andl h)) ?_ | refine allT_cons (fun _ => rfl) ?_) ?_
  refine thenK_n ?_
  refine W.cond rfl (fun c1 => ?_) (fun c1 => ?_)
  · exact absurd c1 (law_print ss)
  · skip
    refine W.skip ?_
    refine thenK_n ?_
    refine W.seq ?_
    refine W.seq ?_
    refine W.region ?_
    refine S.pure tOk zOk rfl rfl rfl ?_
    refine S.pure tOk zOk rfl rfl rfl ?_
    refine S.pure tOk zOk rfl rfl rfl ?_
    refine S.pureG tOk zOk rfl rfl (by repeat first | exact allT_nil | refine allT_cons (fun h => h) ?_ | refine allT_cons (fun h => andl h) ?_ | refine allT_cons (fun h => andl (andl h)) ?_ | refine allT_cons (fun _ => rfl) ?_) (fun _ => rfl) rfl ?_
    refine S.pureG tOk zOk rfl rfl (by repeat first | exact allT_nil | refine allT_cons (fun h => h) ?_ | refine allT_cons (fun h => andl h) ?_ | refine allT_cons (fun h => andl (andl h)) ?_ | refine allT_cons (fun _ => rfl) ?_) (fun _ => rfl) rfl ?_
    refine S.pureG tOk zOk rfl rfl (by repeat first | exact allT_nil | refine allT_cons (fun h => h) ?_ | refine allT_cons (fun h => andl h) ?_ | refine allT_cons (fun h => andl (andl h)) ?_ | refine allT_cons (fun _ => rfl) ?_) (fun _ => rfl) rfl ?_
    refine S.pickAnd tOk zOk rfl rfl (by repeat first | exact allT_nil | refine allT_cons (fun h => h) ?_ | refine allT_cons (fun h => andl h) ?_ | refine allT_cons (fun h => andl (andl h)) ?_ | refine allT_cons (fun _ => rfl) ?_) ?_
    refine thenK_n ?_
    refine W.cond rfl (fun c2 => ?_) (fun c2 => ?_)
    · skip
      refine W.seq ?_
      refine W.region ?_
      refine S.pure tOk zOk rfl rfl rfl ?_
      refine S.call rfl rfl rfl rfl rfl (pc_ver_ParseRange (printR ss).1 (by have := c2; simp at this; omega)) ?_
      refine S.pure tOk zOk rfl rfl rfl ?_
      refine S.pure tOk zOk rfl rfl rfl ?_
      refine S.pure tOk zOk rfl rfl rfl ?_
      refine S.alloc tOk rfl rfl rfl rfl ?_
      refine S.store tOk rfl rfl rfl rfl rfl rfl rfl rfl ?_
      refine S.pure tOk zOk rfl rfl rfl ?_
      refine thenK_n ?_
      refine W.seq ?_
      refine W.region ?_
      refine S.pure tOk zOk rfl rfl rfl ?_
      refine S.pure tOk zOk rfl rfl rfl ?_
      refine S.pure tOk zOk rfl rfl rfl ?_
      refine S.pureG tOk zOk rfl rfl (by repeat first | exact allT_nil | refine allT_cons (fun h => h) ?_ | refine allT_cons (fun h => andl h) ?_ | refine allT_cons (fun h => andl (andl h)) ?_ | refine allT_cons (fun _ => rfl) ?_) (fun _ => rfl) rfl ?_
      refine S.pureG tOk zOk rfl rfl (by repeat first | exact allT_nil | refine allT_cons (fun h => h) ?_ | refine allT_cons (fun h => andl h) ?_ | refine allT_cons (fun h => andl (andl h)) ?_ | refine allT_cons (fun _ => rfl) ?_) (fun _ => rfl) rfl ?_
      refine S.callG rfl rfl rfl rfl (by repeat first | exact allT_nil | refine allT_cons (fun h => h) ?_ | refine allT_cons (fun h => andl h) ?_ | refine allT_cons (fun h => andl (andl h)) ?_ | refine allT_cons (fun _ => rfl) ?_) rfl rfl (fun _ => pc_outlaw2_sameRange (rangeB (printR ss).1).1 ss (by have := rangeB_len (printR ss).1; omega)) ?_
      refine S.pureG tOk zOk rfl rfl (by repeat first | exact allT_nil | refine allT_cons (fun h => h) ?_ | refine allT_cons (fun h => andl h) ?_ | refine allT_cons (fun h => andl (andl h)) ?_ | refine allT_cons (fun _ => rfl) ?_) (fun _ => rfl) rfl ?_
      refine S.pickOr tOk zOk rfl rfl (by repeat first | exact allT_nil | refine allT_cons (fun h => h) ?_ | refine allT_cons (fun h => andl h) ?_ | refine allT_cons (fun h => andl (andl h)) ?_ | refine allT_cons (fun _ => rfl) ?_) ?_
      refine thenK_n ?_
      refine W.cond rfl (fun c3 => ?_) (fun c3 => ?_)
      · exact absurd c3 (by rw [law_again c2]; simp)
      · skip
        refine W.skip ?_
        refine thenK_n ?_
        refine W.seq ?_
        refine W.region ?_
        refine S.pure tOk zOk rfl rfl rfl ?_
        refine S.call rfl rfl rfl rfl rfl (pc_ver_ParseRange s hs) ?_
        refine S.pure tOk zOk rfl rfl rfl ?_
        refine S.pure tOk zOk rfl rfl rfl ?_
        refine S.pure tOk zOk rfl rfl rfl ?_
        refine S.alloc tOk rfl rfl rfl rfl ?_
        refine S.store tOk rfl rfl rfl rfl rfl rfl rfl rfl ?_
        refine S.pure tOk zOk rfl rfl rfl ?_
        refine thenK_n ?_
        refine W.seq ?_
        refine W.region ?_
        refine S.pure tOk zOk rfl rfl rfl ?_
        refine S.call rfl rfl rfl rfl rfl (pc_outref2_ReadRange s hs) ?_
        refine S.pure tOk zOk rfl rfl rfl ?_
        refine S.pure tOk zOk rfl rfl rfl ?_
        refine S.pure tOk zOk rfl rfl rfl ?_
        refine S.alloc tOk rfl rfl rfl rfl ?_
        refine S.store tOk rfl rfl rfl rfl rfl rfl rfl rfl ?_
        refine S.pure tOk zOk rfl rfl rfl ?_
        refine thenK_n ?_
        refine W.seq ?_
        refine W.region ?_
        refine S.pure tOk zOk rfl rfl rfl ?_
        refine S.pure tOk zOk rfl rfl rfl ?_
        refine S.pure tOk zOk rfl rfl rfl ?_
        refine S.pure tOk zOk rfl rfl rfl ?_
        refine S.pureG tOk zOk rfl rfl (by repeat first | exact allT_nil | refine allT_cons (fun h => h) ?_ | refine allT_cons (fun h => andl h) ?_ | refine allT_cons (fun h => andl (andl h)) ?_ | refine allT_cons (fun _ => rfl) ?_) (fun _ => rfl) rfl ?_
        refine S.pureG tOk zOk rfl rfl (by repeat first | exact allT_nil | refine allT_cons (fun h => h) ?_ | refine allT_cons (fun h => andl h) ?_ | refine allT_cons (fun h => andl (andl h)) ?_ | refine allT_cons (fun _ => rfl) ?_) (fun _ => rfl) rfl ?_
        refine S.callG rfl rfl rfl rfl (by repeat first | exact allT_nil | refine allT_cons (fun h => h) ?_ | refine allT_cons (fun h => andl h) ?_ | refine allT_cons (fun h => andl (andl h)) ?_ | refine allT_cons (fun _ => rfl) ?_) rfl rfl (fun _ => pc_outlaw2_sameRange (rangeB s).1 (rangeR s).1 (by omega)) ?_
        refine S.pickAnd tOk zOk rfl rfl (by repeat first | exact allT_nil | refine allT_cons (fun h => h) ?_ | refine allT_cons (fun h => andl h) ?_ | refine allT_cons (fun h => andl (andl h)) ?_ | refine allT_cons (fun _ => rfl) ?_) ?_
        refine S.pure tOk zOk rfl rfl rfl ?_
        refine thenK_n ?_
        refine W.ret ?_
        exact ⟨_, rfl, rfl, LeV.of_force rfl (by rw [range_eq]; simp)⟩
    · skip
      refine W.skip ?_
      refine thenK_n ?_
      refine W.seq ?_
      refine W.region ?_
      refine S.pure tOk zOk rfl rfl rfl ?_
      refine S.call rfl rfl rfl rfl rfl (pc_ver_ParseRange s hs) ?_
      refine S.pure tOk zOk rfl rfl rfl ?_
      refine S.pure tOk zOk rfl rfl rfl ?_
      refine S.pure tOk zOk rfl rfl rfl ?_
      refine S.alloc tOk rfl rfl rfl rfl ?_
      refine S.store tOk rfl rfl rfl rfl rfl rfl rfl rfl ?_
      refine S.pure tOk zOk rfl rfl rfl ?_
      refine thenK_n ?_
      refine W.seq ?_
      refine W.region ?_
      refine S.pure tOk zOk rfl rfl rfl ?_
      refine S.call rfl rfl rfl rfl rfl (pc_outref2_ReadRange s hs) ?_
      refine S.pure tOk zOk rfl rfl rfl ?_
      refine S.pure tOk zOk rfl rfl rfl ?_
      refine S.pure tOk zOk rfl rfl rfl ?_
      refine S.alloc tOk rfl rfl rfl rfl ?_
      refine S.store tOk rfl rfl rfl rfl rfl rfl rfl rfl ?_
      refine S.pure tOk zOk rfl rfl rfl ?_
      refine thenK_n ?_
      refine W.seq ?_
      refine W.region ?_
      refine S.pure tOk zOk rfl rfl rfl ?_
      refine S.pure tOk zOk rfl rfl rfl ?_
      refine S.pure tOk zOk rfl rfl rfl ?_
      refine S.pure tOk zOk rfl rfl rfl ?_
      refine S.pureG tOk zOk rfl rfl (by repeat first | exact allT_nil | refine allT_cons (fun h => h) ?_ | refine allT_cons (fun h => andl h) ?_ | refine allT_cons (fun h => andl (andl h)) ?_ | refine allT_cons (fun _ => rfl) ?_) (fun _ => rfl) rfl ?_
      refine S.pureG tOk zOk rfl rfl (by repeat first | exact allT_nil | refine allT_cons (fun h => h) ?_ | refine allT_cons (fun h => andl h) ?_ | refine allT_cons (fun h => andl (andl h)) ?_ | refine allT_cons (fun _ => rfl) ?_) (fun _ => rfl) rfl ?_
      refine S.callG rfl rfl rfl rfl (by repeat first | exact allT_nil | refine allT_cons (fun h => h) ?_ | refine allT_cons (fun h => andl h) ?_ | refine allT_cons (fun h => andl (andl h)) ?_ | refine allT_cons (fun _ => rfl) ?_) rfl rfl (fun _ => pc_outlaw2_sameRange (rangeB s).1 (rangeR s).1 (by omega)) ?_
      refine S.pickAnd tOk zOk rfl rfl (by repeat first | exact allT_nil | refine allT_cons (fun h => h) ?_ | refine allT_cons (fun h => andl h) ?_ | refine allT_cons (fun h => andl (andl h)) ?_ | refine allT_cons (fun _ => rfl) ?_) ?_
      refine S.pure tOk zOk rfl rfl rfl ?_
      refine thenK_n ?_
      refine W.ret ?_
      exact ⟨_, rfl, rfl, LeV.of_force rfl (by rw [range_eq]; simp)⟩

end Go.Proofs.YtnphejkeflngcaaGreatDoor

/- From a row's argument to pure data: decoders, put together type by type. -/
set_option linter.unusedVariables false
set_option linter.unusedSimpArgs false
namespace Go.Proofs.YtnphejkeflngcaaGreatDoor
open Go Go.RowKit Go.ChangeShapes

/-- Cells that hold these data, all blocks of the world being left as they are. -/
def RDs (w : World) (cs : List Value) (ds : List D) : Prop :=
  cs.length = ds.length ∧ ∀ (i : Nat) (c : Value) (d : D), cs[i]? = some c → ds[i]? = some d → RD (fun b => b < w.heap.size) w d c
theorem RDs.one {w : World} {c : Value} {d : D} (h : RD (fun b => b < w.heap.size) w d c) : RDs w [c] [d] :=
  ⟨rfl, fun i a b h1 h2 => by
    match i with
    | 0 => simp at h1 h2; subst h1; subst h2; exact h
    | i + 1 => simp at h1⟩
theorem RDs.append {w : World} {a b : List Value} {x y : List D} (h1 : RDs w a x) (h2 : RDs w b y) : RDs w (a ++ b) (x ++ y) := by
  refine ⟨by simp [h1.1, h2.1], fun i c d hc hd => ?_⟩
  by_cases hi : i < a.length
  · rw [List.getElem?_append_left hi] at hc
    rw [List.getElem?_append_left (by rw [← h1.1]; exact hi)] at hd
    exact h1.2 i c d hc hd
  · rw [List.getElem?_append_right (by omega)] at hc
    rw [List.getElem?_append_right (by rw [← h1.1]; omega)] at hd
    rw [← h1.1] at hd
    exact h2.2 _ c d hc hd

/-- A decoder of a type: the data that its cells hold; what is known of it, where the reading's bulk is N. -/
structure Dec (P : Program) (t : TypeId) (α : Type) where
  ds : α → List D
  wf : Nat → α → Prop
  up : ∀ (m n : Nat) (x : α), m ≤ n → wf m x → wf n x
  ok : ∀ {H : Type} {enc : TypeId × Value → H} {w : World} {fuel : Nat} {cs : List Value} {d : DataW H} {ps : List MemPlace}, DataW.trod enc P w 0 (fun _ => true) true fuel t cs = some (d, ps) →
    ∃ x : α, RDs w cs (ds x) ∧ wf (Rows.uptoBulk d) x

theorem trod_int {H : Type} {enc : TypeId × Value → H} {P : Program} {w : World} {fuel : Nat} {t : TypeId} {cs : List Value} {x : DataW H × List MemPlace} {k : IntKind} (ht : P.underlying t = some (.int k)) (h : DataW.trod enc P w 0 (fun _ => true) true fuel t cs = some x) :
    ∃ n, cs = [.int k n] ∧ (Lit.int k n).wf = true := by
  cases fuel with
  | zero => simp [DataW.trod] at h
  | succ fuel =>
    unfold DataW.trod at h
    rw [ht] at h
    split at h <;> first
      | (rename_i k1 k2 n he1 he2
         simp only [Option.some.injEq, TypeDesc.int.injEq] at he1
         subst he1
         split at h
         · rename_i hk; exact ⟨n, by rw [hk.1], hk.2⟩
         · cases h)
      | (simp_all; done)
theorem trod_bool' {H : Type} {enc : TypeId × Value → H} {P : Program} {w : World} {fuel : Nat} {t : TypeId} {cs : List Value} {x : DataW H × List MemPlace} (ht : P.underlying t = some .bool) (h : DataW.trod enc P w 0 (fun _ => true) true fuel t cs = some x) :
    ∃ b, cs = [.bool b] := by
  cases fuel with
  | zero => simp [DataW.trod] at h
  | succ fuel =>
    unfold DataW.trod at h
    rw [ht] at h
    split at h <;> first
      | exact ⟨_, rfl⟩
      | (simp_all; done)
theorem trod_str {H : Type} {enc : TypeId × Value → H} {P : Program} {w : World} {fuel : Nat} {t : TypeId} {cs : List Value} {x : DataW H × List MemPlace} (ht : P.underlying t = some .string) (h : DataW.trod enc P w 0 (fun _ => true) true fuel t cs = some x) :
    ∃ s : ByteArray, cs = [.string s] ∧ x.1 = .lit (.string s.data.toList) := by
  cases fuel with
  | zero => simp [DataW.trod] at h
  | succ fuel =>
    unfold DataW.trod at h
    rw [ht] at h
    split at h <;> first
      | (split at h
         · cases h; exact ⟨_, rfl, rfl⟩
         · cases h)
      | (simp_all; done)
def Dec.int {P : Program} {t : TypeId} (k : IntKind) (ht : P.underlying t = some (.int k)) : Dec P t Int where
  ds n := [.int k n]
  wf _ n := (Lit.int k n).wf = true
  up _ _ _ _ h := h
  ok h := by
    obtain ⟨n, rfl, hw⟩ := trod_int ht h
    exact ⟨n, .one (.int _ _), hw⟩
def Dec.bool {P : Program} {t : TypeId} (ht : P.underlying t = some .bool) : Dec P t Bool where
  ds n := [.bool n]
  wf _ n := True
  up _ _ _ _ h := h
  ok h := by
    obtain ⟨n, rfl⟩ := trod_bool' ht h
    exact ⟨n, .one (.bool _), trivial⟩
def Dec.str {P : Program} {t : TypeId} (ht : P.underlying t = some .string) : Dec P t (List UInt8) where
  ds s := [.str s]
  wf N s := s.length < N
  up _ _ _ h1 h := Nat.lt_of_lt_of_le h h1
  ok h := by
    obtain ⟨s, rfl, hx⟩ := trod_str ht h
    refine ⟨s.data.toList, .one (.str s.data.toList), ?_⟩
    simp only at hx
    rw [hx]
    simp [Rows.uptoBulk]

theorem mapM_len {α β : Type} {f : α → Option β} : ∀ {l : List α} {r : List β}, l.mapM f = some r → r.length = l.length
  | [], r, h => by simp at h; subst h; rfl
  | a :: l, r, h => by
    simp only [List.mapM_cons, Option.bind_eq_bind, Option.bind_eq_some_iff, Option.pure_def, Option.some.injEq] at h
    obtain ⟨b, hb, r', hr', rfl⟩ := h
    simp [mapM_len hr']
/-- The fields of a struct, one behind the other. -/
structure DecF (P : Program) (fs : List Field) (off tot : Nat) (α : Type) where
  ds : α → List D
  wf : Nat → α → Prop
  up : ∀ (m n : Nat) (x : α), m ≤ n → wf m x → wf n x
  ok : ∀ {H : Type} {enc : TypeId × Value → H} {w : World} {fuel : Nat} {cs : List Value} {xs : List (DataW H × List MemPlace)}, cs.length = tot →
    fs.mapM (fun f => DataW.trod enc P w 0 (fun _ => true) true fuel f.type ((cs.drop f.offset).take (P.cellsOf f.type))) = some xs →
    ∃ x : α, RDs w (cs.drop off) (ds x) ∧ wf (Rows.uptoBulkAll (xs.map (·.1))) x
def DecF.nil {P : Program} (tot : Nat) : DecF P [] tot tot Unit where
  ds _ := []
  wf _ _ := True
  up _ _ _ _ h := h
  ok hl h := ⟨(), ⟨by simp [hl], fun i c d h1 h2 => by simp at h2⟩, trivial⟩
def DecF.cons {P : Program} {f : Field} {fs : List Field} {off tot n : Nat} {α β : Type} (de : Dec P f.type α) (ho : f.offset = off) (hn : P.cellsOf f.type = n) (r : DecF P fs (off + n) tot β) : DecF P (f :: fs) off tot (α × β) where
  ds x := de.ds x.1 ++ r.ds x.2
  wf N x := de.wf N x.1 ∧ r.wf N x.2
  up m n x h hx := ⟨de.up m n x.1 h hx.1, r.up m n x.2 h hx.2⟩
  ok {H enc w fuel cs xs} hl h := by
    simp only [List.mapM_cons, Option.bind_eq_bind, Option.bind_eq_some_iff, Option.pure_def, Option.some.injEq] at h
    obtain ⟨b, hb, r', hr', rfl⟩ := h
    obtain ⟨x, h1, h2⟩ := de.ok (d := b.1) (ps := b.2) hb
    obtain ⟨y, h3, h4⟩ := r.ok hl hr'
    refine ⟨(x, y), ?_, de.up _ _ _ ?_ h2, r.up _ _ _ ?_ h4⟩
    · have e : cs.drop off = (cs.drop f.offset).take (P.cellsOf f.type) ++ cs.drop (off + n) := by
        rw [ho, hn, ← List.drop_drop, List.take_append_drop]
      rw [e]; exact h1.append h3
    · simp only [List.map_cons, Rows.uptoBulkAll]; omega
    · simp only [List.map_cons, Rows.uptoBulkAll]; omega
def Dec.struct {P : Program} {t : TypeId} {fs : Array Field} {tot : Nat} {α : Type} (ht : P.underlying t = some (.struct fs)) (hc : P.cellsOf t = tot) (r : DecF P fs.toList 0 tot α) : Dec P t α where
  ds := r.ds
  wf := r.wf
  up := r.up
  ok {H enc w fuel cs d ps} h := by
    cases fuel with
    | zero => simp [DataW.trod] at h
    | succ fuel =>
      unfold DataW.trod at h
      rw [ht] at h
      split at h <;> first
        | (rename_i he1
           simp only [Option.some.injEq, TypeDesc.struct.injEq] at he1
           subst he1
           split at h
           · rename_i hl
             simp only [Option.map_eq_some_iff] at h
             obtain ⟨xs, hx, he⟩ := h
             obtain ⟨x, h1, h2⟩ := r.ok (hl.trans hc) hx
             cases he
             exact ⟨x, h1, r.up _ _ _ (by simp only [Rows.uptoBulk]; omega) h2⟩
           · cases h)
        | (simp_all; done)
def Dec.iso {P : Program} {t : TypeId} {α β : Type} (d : Dec P t α) (f : α → β) (ds : β → List D) (wf : Nat → β → Prop) (up : ∀ (m n : Nat) (x : β), m ≤ n → wf m x → wf n x) (hd : ∀ a, d.ds a = ds (f a)) (hw : ∀ N a, d.wf N a → wf N (f a)) : Dec P t β where
  ds := ds
  wf := wf
  up := up
  ok h := by
    obtain ⟨x, h1, h2⟩ := d.ok h
    exact ⟨f x, hd x ▸ h1, hw _ _ h2⟩

theorem choose_list {α : Type} {Q : Nat → α → Prop} : ∀ (n : Nat), (∀ i, i < n → ∃ x, Q i x) → ∃ xs : List α, xs.length = n ∧ ∀ i x, xs[i]? = some x → Q i x
  | 0, _ => ⟨[], rfl, fun i x h => by simp at h⟩
  | n + 1, h => by
    obtain ⟨xs, h1, h2⟩ := choose_list n (fun i hi => h i (by omega))
    obtain ⟨x, hx⟩ := h n (by omega)
    refine ⟨xs ++ [x], by simp [h1], fun i y hy => ?_⟩
    by_cases hi : i < xs.length
    · rw [List.getElem?_append_left hi] at hy; exact h2 i y hy
    · rw [List.getElem?_append_right (by omega)] at hy
      have e : i = n := by
        apply Decidable.byContradiction; intro hne
        rw [List.getElem?_eq_none (by simp; omega)] at hy; cases hy
      subst e
      rw [h1] at hy
      simp at hy; subst hy; exact hx
theorem cells_at {w : World} {a : Addr} {n : Nat} {cs : List Value} (h : w.cells? 0 a n = some cs) : cs.length = n ∧ ∀ j, j < n → w.cell? (a.add j) = cs[j]? := by
  unfold World.cells? at h
  rw [if_pos (Nat.zero_le _)] at h
  have hl := mapM_len h
  simp at hl
  refine ⟨hl, fun j hj => ?_⟩
  obtain ⟨b, h1, h2⟩ := Lib.mapM_at h j j (by simp [hj])
  rw [h1, h2]
theorem spot_none {w : World} {a : Addr} {v : Value} (h : w.cell? a = some v) : a.spot = none := by
  unfold World.cell? at h
  split at h
  · split at h
    · cases h
    · rename_i hs; simpa using hs
  · cases h
theorem bulk_mem {H : Type} {x : DataW H} : ∀ {l : List (DataW H)}, x ∈ l → Rows.uptoBulk x ≤ Rows.uptoBulkAll l
  | [], h => by cases h
  | a :: l, h => by
    simp only [Rows.uptoBulkAll]
    rcases List.mem_cons.1 h with rfl | h
    · omega
    · have := bulk_mem h; omega
theorem bulk_pos {H : Type} (d : DataW H) : 1 ≤ Rows.uptoBulk d := by
  cases d with
  | lit l => cases l <;> simp [Rows.uptoBulk]
  | _ => simp [Rows.uptoBulk]
theorem bulk_len {H : Type} : ∀ (l : List (DataW H)), l.length ≤ Rows.uptoBulkAll l
  | [] => by simp
  | a :: l => by
    have h1 := bulk_pos a
    have h2 := bulk_len l
    simp only [Rows.uptoBulkAll, List.length_cons]; omega

def Dec.slice {P : Program} {t e : TypeId} {sz : Nat} {α : Type} (ht : P.underlying t = some (.slice e)) (hc : P.cellsOf e = sz) (h0 : 0 < sz) (de : Dec P e α) : Dec P t (List α) where
  ds xs := [.vec sz (xs.map de.ds)]
  wf N xs := xs.length < N ∧ ∀ x ∈ xs, de.wf N x
  up m n xs h hx := ⟨by omega, fun x hm => de.up m n x h (hx.2 x hm)⟩
  ok {H enc w fuel cs d ps} h := by
    rcases DataW.trod_slice ht h with h1 | ⟨a, len, cap, elems, rest, n, _, rfl, hx, hb, hl, hm, hlen, hel, hsp, hns⟩
    · obtain ⟨rfl, h2⟩ := h1
      cases h2
      exact ⟨[], .one (.empty _ _ _), by simp [Rows.uptoBulk], by simp⟩
    · have key : ∀ i, i < len → ∃ x, ∃ cs' : List Value, ∃ y, elems[i]? = some y ∧ w.cells? 0 (a.add (i * sz)) sz = some cs' ∧ RDs w cs' (de.ds x) ∧ de.wf (Rows.uptoBulk y.1) x := fun i hi => by
        have h1 := hel i hi
        have h2 : elems[i]? = some (elems[i]'(by omega)) := List.getElem?_eq_getElem _
        rw [h2, hc, Option.bind_eq_some_iff] at h1
        obtain ⟨cs', h3, h4⟩ := h1
        obtain ⟨x, h5, h6⟩ := de.ok (d := (elems[i]'(by omega)).1) (ps := (elems[i]'(by omega)).2) h4
        exact ⟨x, cs', _, h2, h3, h5, h6⟩
      obtain ⟨xs, hxl, hxs⟩ := choose_list len key
      cases hx
      refine ⟨xs, .one ?_, ?_, fun x hx => ?_⟩
      · by_cases hne : xs = []
        · subst hne
          simp at hxl
          rw [← hxl]
          exact .empty _ _ _
        · have hpos : 0 < len := by
            cases xs with
            | nil => exact absurd rfl hne
            | cons x l => rw [← hxl]; simp
          have hs : a.spot = none := by
            obtain ⟨x, cs', y, _, h3, _⟩ := key 0 hpos
            obtain ⟨h4, h5⟩ := cells_at h3
            have h6 := h5 0 h0
            have h7 : cs'[0]? = some (cs'[0]'(by omega)) := List.getElem?_eq_getElem _
            rw [h7] at h6
            simp only [Addr.add, Nat.zero_mul, if_true] at h6
            exact spot_none h6
          have hadd : ∀ i j, (a.add (i * sz)).add j = ⟨a.block, a.off + i * sz + j, none⟩ := fun i j => by
            cases a with
            | mk b o s =>
              simp only at hs; subst hs
              unfold Addr.add
              by_cases h1 : i * sz = 0 <;> by_cases h2 : j = 0 <;> simp [h1, h2]
          have hat : ∀ (i j : Nat) (x : List D) (d : D), (xs.map de.ds)[i]? = some x → x[j]? = some d → ∃ v, w.cell? ⟨a.block, a.off + i * sz + j, none⟩ = some v ∧ RD (fun b => b < w.heap.size) w d v := fun i j x d h1 h2 => by
            simp only [List.getElem?_map, Option.map_eq_some_iff] at h1
            obtain ⟨x', h1, rfl⟩ := h1
            obtain ⟨cs', y, _, h3, h4, _⟩ := hxs i x' h1
            obtain ⟨h5, h6⟩ := cells_at h3
            have hj : j < sz := by
              have := (List.getElem?_eq_some_iff.1 h2).1
              rw [← h4.1, h5] at this; exact this
            have h7 : cs'[j]? = some (cs'[j]'(by omega)) := List.getElem?_eq_getElem _
            have h8 := h6 j hj
            rw [hadd, h7] at h8
            exact ⟨_, h8, h4.2 j _ d h7 h2⟩
          have hal : a = ⟨a.block, a.off, none⟩ := by cases a; simp only at hs; subst hs; rfl
          have hlen' : len = (xs.map de.ds).length := by simp [hxl]
          rw [hal, hlen']
          refine RD.vec sz (xs.map de.ds) a.block a.off cap (fun i j => (w.cell? ⟨a.block, a.off + i * sz + j, none⟩).getD undef) (by simpa using hne) (by rw [← hlen']; exact hl) ?_ ?_ ?_ ?_
          · obtain ⟨x, cs', y, _, h3, _⟩ := key 0 hpos
            obtain ⟨h4, h5⟩ := cells_at h3
            have h6 := h5 0 h0
            have h7 : cs'[0]? = some (cs'[0]'(by omega)) := List.getElem?_eq_getElem _
            rw [h7, hadd] at h6
            apply Decidable.byContradiction; intro hn
            unfold World.cell? at h6
            rw [Array.getElem?_eq_none (by simp only at hn ⊢; omega)] at h6
            cases h6
          · intro x hx
            simp only [List.mem_map] at hx
            obtain ⟨x', hx', rfl⟩ := hx
            obtain ⟨i, hi⟩ := List.getElem?_of_mem hx'
            obtain ⟨cs', y, _, h3, h4, _⟩ := hxs i x' hi
            rw [← h4.1]; exact (cells_at h3).1
          · intro i j x d h1 h2
            obtain ⟨v, h3, _⟩ := hat i j x d h1 h2
            rw [h3]; rfl
          · intro i j x d h1 h2
            obtain ⟨v, h3, h4⟩ := hat i j x d h1 h2
            simp only [h3, Option.getD_some]; exact h4
      · have h1 := bulk_len (elems.map (·.1))
        simp only [Rows.uptoBulk, List.length_map] at h1 ⊢; omega
      · obtain ⟨i, hi⟩ := List.getElem?_of_mem hx
        obtain ⟨cs', y, h2, _, _, h4⟩ := hxs i x hi
        refine de.up _ _ _ ?_ h4
        have := bulk_mem (x := y.1) (l := elems.map (·.1)) (List.mem_map.2 ⟨y, List.mem_of_getElem? h2, rfl⟩)
        simp only [Rows.uptoBulk]; omega
end Go.Proofs.YtnphejkeflngcaaGreatDoor

/- From a pure call to a row's statement. -/
set_option linter.unusedVariables false
set_option linter.unusedSimpArgs false
namespace Go.Proofs.YtnphejkeflngcaaGreatDoor
open Go Go.RowKit Go.ChangeShapes Go.WideShapes Go.ChangeAt

theorem Below.trodAll {H : Type} {enc : TypeId × Value → H} {P : Program} (hl : laidOutB P = true) {W W' : World} (hb : Below W.heap.size W W') : ∀ {ts : List TypeId} {vs : List Value} {ds : List (DataW H)} {ps : List MemPlace},
    ts.all (fun t => P.readableRec t && decide (t < P.types.size)) = true → DataW.TrodAll enc P W 0 (fun _ => true) true ts vs ds ps → (∀ x ∈ ps, x.block < W.heap.size) → DataW.TrodAll enc P W' 0 (fun b => decide (b < W.heap.size)) true ts vs ds ps
  | [], [], [], _, _, h, _ => h
  | [], [], _ :: _, _, _, h, _ => h.elim
  | [], _ :: _, _, _, _, h, _ => h.elim
  | _ :: _, [], _, _, _, h, _ => h.elim
  | _ :: _, _ :: _, [], _, _, h, _ => h.elim
  | t :: ts, v :: vs, d :: ds, ps, ha, h, hp => by
    simp only [List.all_cons, Bool.and_eq_true, decide_eq_true_eq] at ha
    obtain ⟨p, q, h1, h2, rfl⟩ := h
    exact ⟨p, q, Below.trod hl ha.1.1 ha.1.2 h1 hb (fun x hx => hp x (List.mem_append.2 (.inl hx))), Below.trodAll hl hb (by simpa using ha.2) h2 (fun x hx => hp x (List.mem_append.2 (.inr hx))), rfl⟩

theorem law_post {P : Program} {J : Inv} {f : FuncId} {fn : Func} {s : ChangeSpec} {tb : TypeId} (hl : laidOutB P = true) (hts : fn.params.toList.all (fun t => P.readableRec t && decide (t < P.types.size)) = true)
    (hv : s.vars = []) (hres : fn.resultTypes = #[tb]) (htb : P.underlying tb = some .bool) {H : Type} {enc : TypeId × Value → H} {W : World} {args : Array Value} {ds gs : List (DataW H)} {before : List MemPlace}
    (hW : DataW.Whole enc P fn.params.toList s.vars false W args.toList ds gs before) (hs : (s.fn H (ds ++ gs)).results = [.lit (.bool true)] ∧ (s.fn H (ds ++ gs)).args = ds ∧ (s.fn H (ds ++ gs)).vars = [])
    {us : List V} (pc : PureCall P J f us (.one (.d (.bool true)))) (hJ : J.I W) (hn : args.size = us.length) (hx : ∀ (i : Nat) (u : V) (v : Value), us[i]? = some u → args[i]? = some v → RV (noGh fun b => b < W.heap.size) noSh W u v) :
    Calls P f args W fun e W' => ∃ v, e = .returned v ∧ s.post enc P fn false true false false W args v W' := by
  have h := pc.calls (fun b => b < W.heap.size) W args.toList hJ (fun b hb => hb) (by simpa using hn) (fun i u v h1 h2 => hx i u v h1 (by simpa using h2))
  have h' : Calls P f args W _ := h
  refine h'.mono fun e W' ⟨v, im', he, hB, _, _, _, hr⟩ => ⟨v, he, ?_⟩
  obtain rfl : v = .bool true := by
    cases hr with | one _ _ h => cases h with | d _ _ h => cases h with | bool => rfl
  have hlt : ∀ x ∈ before, x.block < W.heap.size := fun x hx => by simpa using hW.lt x hx
  have hW' := hW
  obtain ⟨p, q, hA, hV, rfl, _, _⟩ := hW
  rw [hv] at hV
  have hgs : gs = [] ∧ q = [] := by
    cases gs with
    | nil => exact ⟨rfl, hV⟩
    | cons g gs => exact hV.elim
  obtain ⟨rfl, rfl⟩ := hgs
  refine ⟨ds, [], p ++ [], [], p, [], hW', ?_, ?_, ?_, hB.frame _, fun h => by cases h⟩
  · rw [hs.1, hres]
    exact trodAll_cons_mk (shut_bool htb true) trodAll_mk0
  · rw [hs.2.1]
    exact Below.trodAll hl hB hts hA (fun x hx => hlt x (by simp [hx]))
  · rw [hs.2.2, hv]; rfl

/-- An argument that is a struct or an array; one that is not. -/
theorem arg_agg {P : Program} {t : TypeId} {α : Type} (de : Dec P t α) {W : World} {r : Reach} {base : Nat} {v : Value} (ht : (match P.underlying t with | some (.struct _) | some (.array _ _) => true | _ => false) = true) (hv : Value.okWide P W r base t v)
    {H : Type} {enc : TypeId × Value → H} {d : DataW H} {ps : List MemPlace} (h : DataW.Trod enc P W 0 (fun _ => true) true t v d ps) : ∃ x : α, RV (noGh fun b => b < W.heap.size) noSh W (.agg ((de.ds x).map .d)) v ∧ de.wf (Rows.uptoBulk d) x := by
  obtain ⟨fuel, h⟩ := h
  obtain ⟨x, h1, h2⟩ := de.ok h
  refine ⟨x, ?_, h2⟩
  have hc : ∃ cs, v = .agg cs := by
    unfold Value.okWide at hv
    split at hv
    · exact ⟨_, hv.choose_spec.1⟩
    · exact ⟨_, hv.choose_spec.1⟩
    · rename_i h3 h4
      split at ht
      · rename_i fs h5; exact absurd h5 (h3 _)
      · rename_i n e h5; exact absurd h5 (h4 _ _)
      · cases ht
  obtain ⟨cs, rfl⟩ := hc
  have h3 : RDs W cs.toList (de.ds x) := h1
  have := RV.agg (g := noGh fun b => b < W.heap.size) (h := noSh) (w := W) ((de.ds x).map .d) cs.toList (by simp [h3.1]) (fun i c v hc hv => by
    simp only [List.getElem?_map, Option.map_eq_some_iff] at hc
    obtain ⟨d, hd, rfl⟩ := hc
    exact .d _ _ (h3.2 i v d hv hd))
  simpa using this
theorem arg_one {P : Program} {t : TypeId} {α : Type} (de : Dec P t α) {W : World} {r : Reach} {base : Nat} {v : Value} (ht : (match P.underlying t with | some .bool | some (.int _) | some .string | some (.slice _) | some (.pointer _) | some (.map _ _) => true | _ => false) = true) (hv : Value.okWide P W r base t v)
    {H : Type} {enc : TypeId × Value → H} {d : DataW H} {ps : List MemPlace} (h : DataW.Trod enc P W 0 (fun _ => true) true t v d ps) : ∃ x : α, (∀ e, de.ds x = [e] → RV (noGh fun b => b < W.heap.size) noSh W (.one (.d e)) v) ∧ de.wf (Rows.uptoBulk d) x := by
  obtain ⟨fuel, h⟩ := h
  obtain ⟨x, h1, h2⟩ := de.ok h
  refine ⟨x, fun e he => ?_, h2⟩
  have hc : v.cells.toList = [v] := by
    cases v with
    | agg cs =>
      exfalso
      unfold Value.okWide Cell.okWide Cell.ok at hv
      split at ht <;> simp_all
    | _ => rfl
  rw [hc, he] at h1
  exact .one _ _ (.d _ _ (h1.2 0 v e rfl rfl))
end Go.Proofs.YtnphejkeflngcaaGreatDoor

/- The world in which a row's call begins: what the listed variables give; a world for the witness. -/
set_option linter.unusedVariables false
set_option linter.unusedSimpArgs false
set_option maxRecDepth 100000
namespace Go.Proofs.YtnphejkeflngcaaGreatDoor
open Go Go.RowKit Go.ChangeShapes Go.WideShapes Go.ChangeAt

theorem trod_iface {H : Type} {enc : TypeId × Value → H} {P : Program} {w : World} {fuel : Nat} {t : TypeId} {cs : List Value} {nm : String} {x : DataW H} {p : List MemPlace} {ms : Array (String × TypeId)} (ht : P.underlying t = some (.interface ms))
    (h : DataW.trod enc P w 0 (fun _ => true) false fuel t cs = some (.iface nm x, p)) : ∃ u v, cs = [.iface u v] := by
  cases fuel with
  | zero => simp [DataW.trod] at h
  | succ fuel =>
    unfold DataW.trod at h
    rw [ht] at h
    split at h <;> first
      | exact ⟨_, _, rfl⟩
      | (simp_all; done)
theorem err_of {P : Program} {W : World} {n : String} {nm : String} {d : DataW Unit} {g : Nat} {t : TypeId} {ms : Array (String × TypeId)} (hg : P.globalNamed n = some g) (hty : (P.globals[g]?).map (·.type) = some t) (ht : P.underlying t = some (.interface ms))
    (h : Lib.VarReads P W n (.iface nm d)) : ∃ t p, W.var? P n = some #[.iface t p] := by
  obtain ⟨g', t', cs, fuel, p, hg', ht', hvar, hd⟩ := h
  obtain rfl := Option.some.inj (hg.symm.trans hg')
  obtain rfl := Option.some.inj (hty.symm.trans ht')
  obtain ⟨u, v, hc⟩ := trod_iface ht hd
  exact ⟨u, v, by rw [hvar]; congr 1; exact Array.ext' (by simpa using hc)⟩
theorem pow_of {W : World} (h : Lib.VarReads Tryz.prog W "internal/strconv.uint64pow10" Rows.laid_internal_strconv_uint64pow10) : Lib.TabIs Tryz.prog W "internal/strconv.uint64pow10" .u64 Lib.pow10Tab := by
  obtain ⟨g', t', cs, fuel, p, hg', ht', hvar, hd⟩ := h
  obtain rfl := Option.some.inj ((show Tryz.prog.globalNamed "internal/strconv.uint64pow10" = some 3 by kernel_rfl).symm.trans hg')
  obtain rfl := Option.some.inj ((show (Tryz.prog.globals[3]?).map (·.type) = some 310 by kernel_rfl).symm.trans ht')
  unfold Lib.TabIs
  rw [hvar, ← Lib.cells_of_tab (k := .u64) (zs := Lib.pow10Tab) Tryz.underlying310 Tryz.underlying252 (by kernel_rfl) (by kernel_rfl) hd]
theorem base_of {W : World} {l : List (String × DataW Unit)} (hl : laidMet Tryz.prog l W) (h1 : ("internal/strconv.uint64pow10", Rows.laid_internal_strconv_uint64pow10) ∈ l) (h2 : ("strconv.ErrSyntax", Rows.laid_strconv_ErrSyntax) ∈ l)
    (h3 : ("strconv.ErrRange", Rows.laid_strconv_ErrRange) ∈ l) (hS : W.ShapedOpen Tryz.prog) : J.I W where
  max := cell_of_shapedOpen_int (t := 3) (zero := #[.int .i64 0]) hS (of_decide_eq_true (by kernel_rfl)) (by kernel_rfl) rfl (by kernel_rfl) (by kernel_rfl) Tryz.underlying3
  pow := pow_of (Lib.laidMet.reads hl h1)
  esyn := err_of (g := 1) (by kernel_rfl) (by kernel_rfl) Tryz.underlying138 (Lib.laidMet.reads hl h2)
  eran := err_of (g := 2) (by kernel_rfl) (by kernel_rfl) Tryz.underlying138 (Lib.laidMet.reads hl h3)

mutual
def dcells : DataW Unit → List Value
  | .lit (.int k n) => [.int k n]
  | .agg ds => dcellsL ds
  | _ => []
def dcellsL : List (DataW Unit) → List Value
  | [] => []
  | d :: ds => dcells d ++ dcellsL ds
end
def putCs (cs : List Value) : Obj → Obj
  | .cells _ t fr => .cells cs.toArray t fr
  | o => o
def errText : DataW Unit → ByteArray
  | .iface _ (.ptr (.agg [.lit (.string s)])) => ⟨s.toArray⟩
  | _ => ByteArray.empty
def errCell (b : Nat) : List Value := [.iface 301 (.pointer (some ⟨b, 0, none⟩))]
/-- The settled world, the listed variables holding what their initialisers lay. -/
noncomputable def laidWorld (os : Os) : World :=
  { World.holding Tryz.prog os ⟨#[], #[], []⟩ with heap :=
    let h := (World.holding Tryz.prog os ⟨#[], #[], []⟩).heap
    let h := h.modify 3 (putCs (dcells Rows.laid_internal_strconv_uint64pow10))
    let h := h.modify 4 (putCs (dcells Rows.laid_unicode_utf8_first))
    let h := h.modify 5 (putCs (dcells Rows.laid_unicode_utf8_acceptRanges))
    let h := h.modify 6 (putCs (dcells Rows.laid_math_bits_deBruijn32tab))
    let h := h.modify 7 (putCs (dcells Rows.laid_math_bits_deBruijn64tab))
    let n := h.size
    let h := h.modify 1 (putCs (errCell n))
    let h := h.modify 2 (putCs (errCell (n + 1)))
    (h.push (.cells #[.string (errText Rows.laid_strconv_ErrSyntax)] 303 (0, 0))).push (.cells #[.string (errText Rows.laid_strconv_ErrRange)] 303 (0, 0)) }
end Go.Proofs.YtnphejkeflngcaaGreatDoor

/- Decoders of the seat's types. -/
set_option linter.unusedVariables false
namespace Go.Proofs.YtnphejkeflngcaaGreatDoor
open Go Go.RowKit
def decVer : Dec Tryz.prog 43 Ver :=
  Dec.iso (Dec.struct Tryz.underlying43 (tot := 4) (by kernel_rfl)
    (DecF.cons (Dec.int .i64 Tryz.underlying3) rfl (n := 1) (by kernel_rfl) (DecF.cons (Dec.int .i64 Tryz.underlying3) rfl (n := 1) (by kernel_rfl) (DecF.cons (Dec.int .i64 Tryz.underlying3) rfl (n := 1) (by kernel_rfl) (DecF.cons (Dec.str Tryz.underlying9) rfl (n := 1) (by kernel_rfl) (DecF.nil 4))))))
    (fun x => (⟨x.1, x.2.1, x.2.2.1, x.2.2.2.1⟩ : Ver)) verD (fun N v => VerOk v ∧ v.e.length < N) (fun m n v h hv => ⟨hv.1, Nat.lt_of_lt_of_le hv.2 h⟩) (fun _ => rfl)
    (fun N x hx => by
      obtain ⟨h1, h2, h3, h4, _⟩ := hx
      have b1 := bounds_i64 h1
      have b2 := bounds_i64 h2
      have b3 := bounds_i64 h3
      exact ⟨⟨b1.1, b1.2, b2.1, b2.2, b3.1, b3.2⟩, h4⟩)
end Go.Proofs.YtnphejkeflngcaaGreatDoor

/- Decoders of spans and ranges. -/
set_option linter.unusedVariables false
namespace Go.Proofs.YtnphejkeflngcaaGreatDoor
open Go Go.RowKit
def decSp : Dec Tryz.prog 81 Sp :=
  Dec.iso (Dec.struct Tryz.underlying81 (tot := 10) (by kernel_rfl)
    (DecF.cons (Dec.bool Tryz.underlying4) rfl (n := 1) (by kernel_rfl) (DecF.cons (Dec.bool Tryz.underlying4) rfl (n := 1) (by kernel_rfl) (DecF.cons decVer rfl (n := 4) (by kernel_rfl) (DecF.cons decVer rfl (n := 4) (by kernel_rfl) (DecF.nil 10))))))
    (fun x => (⟨x.1, x.2.1, x.2.2.1, x.2.2.2.1⟩ : Sp)) spD (fun N s => SpOk s ∧ s.f.e.length < N ∧ s.t.e.length < N) (fun m n s h hs => ⟨hs.1, Nat.lt_of_lt_of_le hs.2.1 h, Nat.lt_of_lt_of_le hs.2.2 h⟩) (fun _ => rfl)
    (fun N x hx => ⟨⟨hx.2.2.1.1, hx.2.2.2.1.1⟩, hx.2.2.1.2, hx.2.2.2.1.2⟩)
def decRg : Dec Tryz.prog 24 (List Sp) :=
  Dec.iso (Dec.struct Tryz.underlying24 (tot := 1) (by kernel_rfl) (DecF.cons (Dec.slice Tryz.underlying22 (sz := 10) (by kernel_rfl) (by decide) decSp) rfl (n := 1) (by kernel_rfl) (DecF.nil 1)))
    (fun x => x.1) (fun ss => [.vec 10 (ss.map spD)]) (fun N ss => ss.length < N ∧ ∀ s ∈ ss, SpOk s ∧ s.f.e.length < N ∧ s.t.e.length < N)
    (fun m n ss h hs => ⟨Nat.lt_of_lt_of_le hs.1 h, fun s hm => ⟨(hs.2 s hm).1, Nat.lt_of_lt_of_le (hs.2 s hm).2.1 h, Nat.lt_of_lt_of_le (hs.2 s hm).2.2 h⟩⟩) (fun _ => rfl) (fun N x hx => hx.1)
end Go.Proofs.YtnphejkeflngcaaGreatDoor

/- RangesPrint: the contract of its row. -/
set_option linter.unusedVariables false
set_option linter.unusedSimpArgs false
set_option maxRecDepth 100000
set_option maxHeartbeats 4000000
namespace Go.Proofs.YtnphejkeflngcaaGreatDoor.fnRangesPrint
open Go Go.RowKit Go.ChangeShapes Go.WideShapes Go.ChangeAt

theorem contract (H : Type) (enc : TypeId × Value → H) (W : World) (base : Nat) (args : Array Value) (ds gs : List (DataW H)) (before : List MemPlace)
    (hval : ∀ (j : Nat) t v, Tryz.f3.params[j]? = some t → args[j]? = some v → Value.okWide Tryz.prog W .any base t v)
    (hW : DataW.Whole enc Tryz.prog Tryz.f3.params.toList Rows.rangesPrintSpec.vars false W args.toList ds gs before) (hc : Rows.uptoSmall H (ds ++ gs) = true)
    (hL : laidMetH Tryz.prog Rows.rangesPrintUptoRow.laid W) (hS : W.ShapedOpen Tryz.prog) :
    Calls Tryz.prog 3 args W fun e W' => ∃ v, e = .returned v ∧ Rows.rangesPrintSpec.post enc Tryz.prog Tryz.f3 false true false false W args v W' := by
  have hW' := hW
  obtain ⟨p, q, hA0, hV, rfl, hfz, hnd⟩ := hW
  have hA : DataW.TrodAll enc Tryz.prog W 0 (fun _ => true) true Tryz.f3.params.toList args.toList ds p := hA0
  rw [Tryz.params3] at hA hval
  obtain ⟨v0, vs0, d0, ds0, p0, q0, hargs, rfl, rfl, h0, r0⟩ := trodAll_cons hA
  obtain ⟨v1, vs1, d1, ds1, p1, q1, rfl, rfl, rfl, h1, r1⟩ := trodAll_cons r0
  obtain ⟨rfl, rfl, rfl⟩ := trodAll_nil r1
  obtain rfl : args = #[v0, v1] := Array.ext' (by simpa using hargs)
  obtain ⟨rfl, rfl⟩ := trodVars_none hV
  obtain ⟨ss, e0, w0⟩ := arg_agg decRg (by kernel_rfl) (hval 0 24 v0 rfl rfl) h0
  obtain ⟨s, e1, w1⟩ := arg_one (Dec.str Tryz.underlying9) (by kernel_rfl) (hval 1 9 v1 rfl rfl) h1
  have hbulk : Rows.uptoBulkAll ([d0, d1] ++ []) ≤ 1048576 := of_decide_eq_true hc
  simp only [List.append_nil, Rows.uptoBulkAll] at hbulk
  have h0 : ss.length < Rows.uptoBulk d0 ∧ ∀ u ∈ ss, SpOk u ∧ u.f.e.length < Rows.uptoBulk d0 ∧ u.t.e.length < Rows.uptoBulk d0 := w0
  have h1 : s.length < Rows.uptoBulk d1 := w1
  have pc := pc_outlaw2_RangesPrint ss s (by omega) (fun u hu => by have := h0.2 u hu; omega) (fun u hu => (h0.2 u hu).1) (by omega)
  refine law_post (by kernel_rfl) (by kernel_rfl) rfl rfl Tryz.underlying4 hW' ⟨rfl, rfl, rfl⟩ pc (base_of (l := Rows.rangesPrintUptoRow.laid) hL (.tail _ (.tail _ (.head _))) (.tail _ (.tail _ (.tail _ (.tail _ (.tail _ (.head _)))))) (.tail _ (.tail _ (.tail _ (.tail _ (.head _))))) hS) rfl (fun i u v hu hv => ?_)
  match i with
  | 0 => simp at hu hv; subst hu; subst hv; exact e0
  | 1 => simp at hu hv; subst hu; subst hv; exact e1 _ rfl
  | i + 2 => simp at hu

end Go.Proofs.YtnphejkeflngcaaGreatDoor.fnRangesPrint

/- RangesPrint: where what it reads is of bulk at most 1048576, it returns true, and what it was given reads as it did. -/
set_option linter.unusedVariables false
set_option linter.unusedSimpArgs false
namespace Go.Proofs.YtnphejkeflngcaaGreatDoor.fnRangesPrint
open Go Go.RowKit Go.ChangeShapes Go.WideShapes Go.ChangeAt

def zargs : Array Value := #[.agg #[.slice none 0 0], .string ⟨#[]⟩]
set_option maxRecDepth 100000 in
theorem laid_met (os : Os) : laidMet Tryz.prog Rows.rangesPrintUptoRow.laid ((laidWorld os).forCall (fun _ _ => 0) ⟨#[], zargs, []⟩).memory :=
  laidMet_of_run' 8 (by kernel_rfl) (by kernel_rfl)
set_option maxRecDepth 100000 in
theorem reads (os : Os) {H : Type} (enc : TypeId × Value → H) : ∃ ds places, DataW.whole enc Tryz.prog ((laidWorld os).forCall (fun _ _ => 0) ⟨#[], zargs, []⟩).memory Tryz.f3.params.toList Rows.rangesPrintSpec.vars false zargs.toList 8 = some (ds, [], places) ∧ Rows.uptoSmall H (ds ++ []) = true :=
  ⟨[.agg [.nil], .lit (.string [])], [], by kernel_rfl, by kernel_rfl⟩
theorem own : ownKnob Tryz.prog.godebug = none := by kernel_rfl

set_option maxRecDepth 100000 in
theorem liftedUpto (os : Os) (started : os.Started) (H : Type) (enc : TypeId × Value → H) (F : Stop.Interp) :
    ReturnsInHanded {} Tryz.checked os 3 .any ((Rows.OpenSpec.upto Rows.rangesPrintSpec).preRow enc Tryz.prog Tryz.f3 Rows.rangesPrintUptoRow.domain false Rows.rangesPrintUptoRow.laid) (((Rows.OpenSpec.upto Rows.rangesPrintSpec).at F).post enc Tryz.prog Tryz.f3 false true false false) := by
  obtain ⟨ds, places, hx, hsm⟩ := reads os enc
  refine returnsInHanded_of_row (C := Tryz.checked) (s := Rows.OpenSpec.upto Rows.rangesPrintSpec) own started (by kernel_rfl) Tryz.func3
    (witness_row_at (enc := enc) (C := Tryz.checked) false (laidWorld os) zargs rfl (by kernel_rfl) (by kernel_rfl) (by kernel_rfl)
      (OpenSpec.preRow_of_cond 8 hx (by kernel_rfl) (fun k hk => by cases hk; exact hsm) (by kernel_rfl) (laid_met os))) ?_
  intro W base args ds gs before hval hW _ hcond _ hL hS _
  exact contract H enc W base args ds gs before hval hW (hcond _ rfl) hL hS

theorem band {a b : Bool} (ha : a = true) (hb : b = true) : (a && b) = true := by rw [ha, hb]; rfl
set_option maxRecDepth 100000 in
theorem closed : joinedFacts Tryz.pinned.checked.prog 3 Tryz.f3 (Rows.OpenSpec.upto Rows.rangesPrintSpec).bare Rows.rangesPrintUptoRow = true := by
  unfold joinedFacts
  refine band (band (band (band (band (band (band (band (band (band (band (band (band (band (band (band (band (band (band (band (band (band (band (band (band (band (band (band (band (band (band ?_ ?_) ?_) ?_) ?_) ?_) ?_) ?_) ?_) ?_) ?_) ?_) ?_) ?_) ?_) ?_) ?_) ?_) ?_) ?_) ?_) ?_) ?_) ?_) ?_) ?_) ?_) ?_) ?_) ?_) ?_) ?_
  all_goals (as_aux_lemma => kernel_rfl)
theorem saidUpto : Rows.RangesPrintUptoSaid :=
  OpenClaim.holds_of_cond 3 Tryz.f3 rfl rfl rfl rfl rfl rfl rfl ⟨rfl, rfl, rfl, rfl, rfl⟩ rfl rfl rfl rfl rfl (by as_aux_lemma => kernel_rfl) Tryz.func3 closed
    (of_decide_eq_true (by kernel_rfl)) (by unfold Func.isWrapper; first | (rw [if_pos (by decide +kernel)]; kernel_rfl) | (rw [if_neg (by decide +kernel)]; exact ⟨rfl, rfl⟩))
    (fun os started H enc _ F => by rw [OpenClaim.pre_eq_preRow]; exact liftedUpto os started H enc F)

theorem plain (f : FuncId) (fn : Func) (hf : Tryz.pinned.checked.prog.funcNamed "outfitter/outlaw2.RangesPrint" = some f) (hfn : Tryz.pinned.checked.prog.funcs[f]? = some fn) :
    true = Tryz.pinned.checked.prog.looks [] ∧ ∀ (j : Nat) t, fn.params[j]? = some t → Tryz.pinned.checked.prog.wantsStandIn t = false := by
  obtain rfl : f = 3 := Option.some.inj ((show Tryz.prog.funcNamed "outfitter/outlaw2.RangesPrint" = some 3 by kernel_rfl).symm.trans hf) |>.symm
  obtain rfl : fn = Tryz.f3 := (Option.some.inj (Tryz.func3.symm.trans hfn)).symm
  refine ⟨by kernel_rfl, fun j t ht => ?_⟩
  rw [Tryz.params3] at ht
  have hm : t = 24 ∨ t = 9 := by
    have := Array.mem_of_getElem? ht
    simp at this; omega
  rcases hm with rfl | rfl
  · exact (show Tryz.prog.wantsStandIn 24 = false by kernel_rfl)
  · exact (show Tryz.prog.wantsStandIn 9 = false by kernel_rfl)

theorem cardUpto : Rows.RangesPrintUptoCardSaid :=
  Claim7.holds_tied_plain_at .later [] _ _ _ _ saidUpto (fun _ h => by cases h) (by kernel_rfl) (fun _ h => by cases h) rangesPrintUpto_row_tie rfl ⟨rfl, rfl⟩ (by kernel_rfl) rfl plain (by kernel_rfl)
end Go.Proofs.YtnphejkeflngcaaGreatDoor.fnRangesPrint
