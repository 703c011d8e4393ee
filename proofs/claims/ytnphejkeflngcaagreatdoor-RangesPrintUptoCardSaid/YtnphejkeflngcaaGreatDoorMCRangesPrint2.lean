/- Part 2 of a proof: W2, V3, W3, P1, V4, W4, V5, W5, V6, L3, W6, W7, V7. -/
import Derived.Lib.ItoaLen
import Derived.Lib.SlTrimSet
import Derived.Lib.IndexMore
import Derived.Lib.AtoiTie
import Derived.Lib.Join
import Derived.Test.YtnphejkeflngcaaGreatDoorMCRangesPrint1
set_option linter.unusedVariables false
set_option linter.unusedSimpArgs false
set_option maxRecDepth 100000
set_option maxHeartbeats 4000000
namespace Go.Proofs.YtnphejkeflngcaaGreatDoor
open Go
open Go.RowKit

theorem pc_ver_Check (v : Ver) (he : v.e.length < 4294967281) :
    PureCall Tryz.prog J 63 [verV v] (.one (.d (.int .i64 v.check))) := by
  refine PureCall.of_body tOk (fn := Tryz.f63) Tryz.func63 (by kernel_rfl) rfl (Nat.le_of_ble_eq_true rfl) (fun E => ?_)
  refine W.seq ?_
  refine W.region ?_
  refine S.box rfl rfl rfl rfl ?_
  refine S.pure tOk zOk rfl rfl rfl ?_
  refine thenK_n ?_
  refine W.seq ?_
  refine W.seq ?_
  refine W.region ?_
  refine S.pure tOk zOk rfl rfl rfl ?_
  refine S.pure tOk zOk rfl rfl rfl ?_
  refine S.pure tOk zOk rfl rfl rfl ?_
  refine S.pure tOk zOk rfl rfl rfl ?_
  refine S.pure tOk zOk rfl rfl rfl ?_
  refine S.pure tOk zOk rfl rfl rfl ?_
  refine S.pure tOk zOk rfl rfl rfl ?_
  refine S.pure tOk zOk rfl rfl rfl ?_
  refine thenK_n ?_
  refine W.block ?_
  refine W.rounds 4 ?_
  refine WR.succ ?_
  refine W.seq ?_
  refine W.region ?_
  refine S.pure tOk zOk rfl rfl rfl ?_
  refine thenK_n ?_
  refine W.seq ?_
  refine W.condT rfl rfl ?_
  refine W.skip ?_
  refine thenK_n ?_
  refine W.seq ?_
  refine W.block ?_
  refine W.seq ?_
  refine W.region ?_
  refine S.pure tOk zOk rfl (by first | rfl | exact idx_ok (by omega) (by omega)) rfl ?_
  refine S.pure tOk zOk rfl rfl rfl ?_
  refine thenK_n ?_
  refine W.seq ?_
  refine W.region ?_
  refine S.pure tOk zOk rfl rfl rfl ?_
  refine S.call rfl rfl rfl rfl rfl (pc_ver_outside _ _ _) ?_
  refine thenK_n ?_
  refine W.cond rfl (fun c2 => ?_) (fun c2 => ?_)
  · skip
    refine W.seq ?_
    refine W.region ?_
    refine S.pure tOk zOk rfl rfl rfl ?_
    refine thenK_n ?_
    refine W.ret ?_
    refine blockK_r ?_
    refine thenK_r ?_
    refine thenK_r ?_
    refine blockK_r ?_
    refine thenK_r ?_
    exact ⟨_, rfl, rfl, LeV.of_force rfl (by simp_all [Ver.check, checkB, outsideN])⟩
  · skip
    refine W.skip ?_
    refine blockK_n ?_
    refine thenK_n ?_
    refine W.region ?_
    refine S.pure tOk zOk rfl rfl rfl ?_
    refine S.pure tOk zOk rfl rfl rfl ?_
    refine thenK_n ?_
    refine WR.succ ?_
    refine W.seq ?_
    refine W.region ?_
    refine S.pure tOk zOk rfl rfl rfl ?_
    refine thenK_n ?_
    refine W.seq ?_
    refine W.condT rfl rfl ?_
    refine W.skip ?_
    refine thenK_n ?_
    refine W.seq ?_
    refine W.block ?_
    refine W.seq ?_
    refine W.region ?_
    refine S.pure tOk zOk rfl (by first | rfl | exact idx_ok (by omega) (by omega)) rfl ?_
    refine S.pure tOk zOk rfl rfl rfl ?_
    refine thenK_n ?_
    refine W.seq ?_
    refine W.region ?_
    refine S.pure tOk zOk rfl rfl rfl ?_
    refine S.call rfl rfl rfl rfl rfl (pc_ver_outside _ _ _) ?_
    refine thenK_n ?_
    refine W.cond rfl (fun c4 => ?_) (fun c4 => ?_)
    · skip
      refine W.seq ?_
      refine W.region ?_
      refine S.pure tOk zOk rfl rfl rfl ?_
      refine thenK_n ?_
      refine W.ret ?_
      refine blockK_r ?_
      refine thenK_r ?_
      refine thenK_r ?_
      refine blockK_r ?_
      refine thenK_r ?_
      exact ⟨_, rfl, rfl, LeV.of_force rfl (by simp_all [Ver.check, checkB, outsideN])⟩
    · skip
      refine W.skip ?_
      refine blockK_n ?_
      refine thenK_n ?_
      refine W.region ?_
      refine S.pure tOk zOk rfl rfl rfl ?_
      refine S.pure tOk zOk rfl rfl rfl ?_
      refine thenK_n ?_
      refine WR.succ ?_
      refine W.seq ?_
      refine W.region ?_
      refine S.pure tOk zOk rfl rfl rfl ?_
      refine thenK_n ?_
      refine W.seq ?_
      refine W.condT rfl rfl ?_
      refine W.skip ?_
      refine thenK_n ?_
      refine W.seq ?_
      refine W.block ?_
      refine W.seq ?_
      refine W.region ?_
      refine S.pure tOk zOk rfl (by first | rfl | exact idx_ok (by omega) (by omega)) rfl ?_
      refine S.pure tOk zOk rfl rfl rfl ?_
      refine thenK_n ?_
      refine W.seq ?_
      refine W.region ?_
      refine S.pure tOk zOk rfl rfl rfl ?_
      refine S.call rfl rfl rfl rfl rfl (pc_ver_outside _ _ _) ?_
      refine thenK_n ?_
      refine W.cond rfl (fun c6 => ?_) (fun c6 => ?_)
      · skip
        refine W.seq ?_
        refine W.region ?_
        refine S.pure tOk zOk rfl rfl rfl ?_
        refine thenK_n ?_
        refine W.ret ?_
        refine blockK_r ?_
        refine thenK_r ?_
        refine thenK_r ?_
        refine blockK_r ?_
        refine thenK_r ?_
        exact ⟨_, rfl, rfl, LeV.of_force rfl (by simp_all [Ver.check, checkB, outsideN])⟩
      · skip
        refine W.skip ?_
        refine blockK_n ?_
        refine thenK_n ?_
        refine W.region ?_
        refine S.pure tOk zOk rfl rfl rfl ?_
        refine S.pure tOk zOk rfl rfl rfl ?_
        refine thenK_n ?_
        refine WR.succ ?_
        refine W.seq ?_
        refine W.region ?_
        refine S.pure tOk zOk rfl rfl rfl ?_
        refine thenK_n ?_
        refine W.seq ?_
        refine W.condF rfl rfl ?_
        refine W.exit ?_
        refine thenK_e ?_
        refine thenK_e ?_
        refine blockK_x ?_
        refine thenK_n ?_
        refine W.seq ?_
        refine W.seq ?_
        refine W.region ?_
        refine S.pure tOk zOk rfl rfl rfl ?_
        refine S.pure tOk zOk rfl rfl rfl ?_
        refine S.pure tOk zOk rfl rfl rfl ?_
        refine S.pure tOk zOk rfl rfl rfl ?_
        refine S.pureG tOk zOk rfl rfl (by repeat first | exact allT_nil | refine allT_cons (fun h => h) ?_ | refine allT_cons (fun h => andl h) ?_ | refine allT_cons (fun h => andl (andl h)) ?_ | refine allT_cons (fun _ => rfl) ?_) (fun _ => rfl) rfl ?_
        refine S.pureG tOk zOk rfl rfl (by repeat first | exact allT_nil | refine allT_cons (fun h => h) ?_ | refine allT_cons (fun h => andl h) ?_ | refine allT_cons (fun h => andl (andl h)) ?_ | refine allT_cons (fun _ => rfl) ?_) (fun _ => rfl) rfl ?_
        refine S.callG rfl rfl rfl rfl (by repeat first | exact allT_nil | refine allT_cons (fun h => h) ?_ | refine allT_cons (fun h => andl h) ?_ | refine allT_cons (fun h => andl (andl h)) ?_ | refine allT_cons (fun _ => rfl) ?_) rfl rfl (fun _ => pc_ver_isEarly _ (by omega)) ?_
        refine S.pureG tOk zOk rfl rfl (by repeat first | exact allT_nil | refine allT_cons (fun h => h) ?_ | refine allT_cons (fun h => andl h) ?_ | refine allT_cons (fun h => andl (andl h)) ?_ | refine allT_cons (fun _ => rfl) ?_) (fun _ => rfl) rfl ?_
        refine S.pickAnd tOk zOk rfl rfl (by repeat first | exact allT_nil | refine allT_cons (fun h => h) ?_ | refine allT_cons (fun h => andl h) ?_ | refine allT_cons (fun h => andl (andl h)) ?_ | refine allT_cons (fun _ => rfl) ?_) ?_
        refine thenK_n ?_
        refine W.cond rfl (fun c8 => ?_) (fun c8 => ?_)
        · skip
          refine W.seq ?_
          refine W.region ?_
          refine S.pure tOk zOk rfl rfl rfl ?_
          refine thenK_n ?_
          refine W.ret ?_
          refine thenK_r ?_
          exact ⟨_, rfl, rfl, LeV.of_force rfl (by simp_all [Ver.check, checkB, outsideN])⟩
        · skip
          refine W.skip ?_
          refine thenK_n ?_
          refine W.seq ?_
          refine W.region ?_
          refine S.pure tOk zOk rfl rfl rfl ?_
          refine thenK_n ?_
          refine W.ret ?_
          exact ⟨_, rfl, rfl, LeV.of_force rfl (by simp_all [Ver.check, checkB, outsideN])⟩

theorem pc_ver_text (v : Ver) (he : v.e.length < 4294967281) (ho : VerOk v) :
    PureCall Tryz.prog J 117 [verV v] (.one (.d (.str (textB v.a v.b v.c v.e)))) := by
  have h1 := Lib.itoa_length_le v.a ho.1 ho.2.1
  have h2 := Lib.itoa_length_le v.b ho.2.2.1 ho.2.2.2.1
  have h3 := Lib.itoa_length_le v.c ho.2.2.2.2.1 ho.2.2.2.2.2
  refine PureCall.of_body tOk (fn := Tryz.f117) Tryz.func117 (by kernel_rfl) rfl (Nat.le_of_ble_eq_true rfl) (fun E => ?_)
  refine W.seq ?_
  refine W.region ?_
  refine S.box rfl rfl rfl rfl ?_
  refine S.pure tOk zOk rfl rfl rfl ?_
  refine thenK_n ?_
  refine W.seq ?_
  refine W.regionD mixed (by kernel_rfl) ?_
  refine D.pure tOk zOk rfl rfl rfl rfl ?_
  refine D.pure tOk zOk rfl rfl rfl rfl ?_
  refine D.call rfl rfl rfl rfl rfl (pc_Itoa _ ho.1 ho.2.1) ?_
  refine D.pure tOk zOk rfl rfl (cat_ok (by simp [-List.getD_eq_getElem?_getD]; omega)) rfl ?_
  refine D.pure tOk zOk rfl rfl rfl rfl ?_
  refine D.pure tOk zOk rfl rfl rfl rfl ?_
  refine D.call rfl rfl rfl rfl rfl (pc_Itoa _ ho.2.2.1 ho.2.2.2.1) ?_
  refine D.pure tOk zOk rfl rfl (cat_ok (by simp [-List.getD_eq_getElem?_getD]; omega)) rfl ?_
  refine D.pure tOk zOk rfl rfl (cat_ok (by simp [-List.getD_eq_getElem?_getD]; omega)) rfl ?_
  refine D.pure tOk zOk rfl rfl rfl rfl ?_
  refine D.pure tOk zOk rfl rfl rfl rfl ?_
  refine D.call rfl rfl rfl rfl rfl (pc_Itoa _ ho.2.2.2.2.1 ho.2.2.2.2.2) ?_
  refine D.pure tOk zOk rfl rfl (cat_ok (by simp [-List.getD_eq_getElem?_getD]; omega)) rfl ?_
  refine D.pure tOk zOk rfl rfl rfl rfl ?_
  refine thenK_n ?_
  refine W.seq ?_
  refine W.seq ?_
  refine W.region ?_
  refine S.pure tOk zOk rfl rfl rfl ?_
  refine S.pure tOk zOk rfl rfl rfl ?_
  refine S.pure tOk zOk rfl rfl rfl ?_
  refine thenK_n ?_
  refine W.cond rfl (fun c1 => ?_) (fun c1 => ?_)
  · skip
    refine W.region ?_
    refine S.pure tOk zOk rfl rfl rfl ?_
    refine S.pure tOk zOk rfl rfl rfl ?_
    refine S.pure tOk zOk rfl rfl rfl ?_
    refine S.pure tOk zOk rfl (cat_ok (by simp [-List.getD_eq_getElem?_getD]; omega)) rfl ?_
    refine S.pure tOk zOk rfl (cat_ok (by simp [-List.getD_eq_getElem?_getD]; omega)) rfl ?_
    refine S.pure tOk zOk rfl rfl rfl ?_
    refine thenK_n ?_
    refine W.seq ?_
    refine W.region ?_
    refine S.pure tOk zOk rfl rfl rfl ?_
    refine S.pure tOk zOk rfl rfl rfl ?_
    refine thenK_n ?_
    refine W.ret ?_
    exact ⟨_, rfl, rfl, LeV.of_force rfl (by simp_all [textB])⟩
  · skip
    refine W.skip ?_
    refine thenK_n ?_
    refine W.seq ?_
    refine W.region ?_
    refine S.pure tOk zOk rfl rfl rfl ?_
    refine S.pure tOk zOk rfl rfl rfl ?_
    refine thenK_n ?_
    refine W.ret ?_
    exact ⟨_, rfl, rfl, LeV.of_force rfl (by simp_all [textB])⟩

theorem pc_ver_Print (v : Ver) (he : v.e.length < 4294967281) (ho : VerOk v) :
    PureCall Tryz.prog J 46 [verV v] (.tup [.one (.d (.str (printB v).1)), .one (.d (.int .i64 (printB v).2))]) := by
  refine PureCall.of_body tOk (fn := Tryz.f46) Tryz.func46 (by kernel_rfl) rfl (Nat.le_of_ble_eq_true rfl) (fun E => ?_)
  refine W.seq ?_
  refine W.region ?_
  refine S.box rfl rfl rfl rfl ?_
  refine S.pure tOk zOk rfl rfl rfl ?_
  refine S.pure tOk zOk rfl rfl rfl ?_
  refine thenK_n ?_
  refine W.seq ?_
  refine W.seq ?_
  refine W.region ?_
  refine S.pure tOk zOk rfl rfl rfl ?_
  refine S.call rfl rfl rfl rfl rfl (pc_ver_Check _ he) ?_
  refine S.pure tOk zOk rfl rfl rfl ?_
  refine thenK_n ?_
  refine W.seq ?_
  refine W.region ?_
  refine S.pure tOk zOk rfl rfl rfl ?_
  refine S.pure tOk zOk rfl rfl rfl ?_
  refine thenK_n ?_
  refine W.cond rfl (fun c1 => ?_) (fun c1 => ?_)
  · skip
    refine W.seq ?_
    refine W.region ?_
    refine S.pure tOk zOk rfl rfl rfl ?_
    refine S.pure tOk zOk rfl rfl rfl ?_
    refine S.pure tOk zOk rfl rfl rfl ?_
    refine thenK_n ?_
    refine W.ret ?_
    refine thenK_r ?_
    exact ⟨_, rfl, rfl, LeV.of_force rfl (by simp_all [printB])⟩
  · skip
    refine W.skip ?_
    refine thenK_n ?_
    refine W.seq ?_
    refine W.region ?_
    refine S.pure tOk zOk rfl rfl rfl ?_
    refine S.call rfl rfl rfl rfl rfl (pc_ver_text _ he ho) ?_
    refine S.pure tOk zOk rfl rfl rfl ?_
    refine S.pure tOk zOk rfl rfl rfl ?_
    refine thenK_n ?_
    refine W.ret ?_
    exact ⟨_, rfl, rfl, LeV.of_force rfl (by simp_all [printB])⟩

theorem pc_ver_number (s : List UInt8) (hs : s.length < 4294967281) :
    PureCall Tryz.prog J 189 [.one (.d (.str s))] (.tup [.one (.d (.int .i64 (numB s).1)), .one (.d (.bool (numB s).2))]) := by
  refine PureCall.of_body tOk (fn := Tryz.f189) Tryz.func189 (by kernel_rfl) rfl (Nat.le_of_ble_eq_true rfl) (fun E => ?_)
  refine W.seq ?_
  refine W.region ?_
  refine S.pure tOk zOk rfl rfl rfl ?_
  refine S.pure tOk zOk rfl rfl rfl ?_
  refine thenK_n ?_
  refine W.seq ?_
  refine W.seq ?_
  refine W.region ?_
  refine S.pure tOk zOk rfl rfl rfl ?_
  refine S.call rfl rfl rfl rfl rfl (pc_ver_each _ _ _ _ (by omega) (fun c => pc_ver_isDigit c)) ?_
  refine S.pure tOk zOk rfl rfl rfl ?_
  refine S.pure tOk zOk rfl rfl rfl ?_
  refine S.pureG tOk zOk rfl rfl (by repeat first | exact allT_nil | refine allT_cons (fun h => h) ?_ | refine allT_cons (fun h => andl h) ?_ | refine allT_cons (fun h => andl (andl h)) ?_ | refine allT_cons (fun _ => rfl) ?_) (fun _ => rfl) rfl ?_
  refine S.pureG tOk zOk rfl rfl (by repeat first | exact allT_nil | refine allT_cons (fun h => h) ?_ | refine allT_cons (fun h => andl h) ?_ | refine allT_cons (fun h => andl (andl h)) ?_ | refine allT_cons (fun _ => rfl) ?_) (fun h => idx_ok (Int.le_refl _) (eachB_pos (by simpa using h))) rfl ?_
  refine S.pureG tOk zOk rfl rfl (by repeat first | exact allT_nil | refine allT_cons (fun h => h) ?_ | refine allT_cons (fun h => andl h) ?_ | refine allT_cons (fun h => andl (andl h)) ?_ | refine allT_cons (fun _ => rfl) ?_) (fun _ => rfl) rfl ?_
  refine S.pureG tOk zOk rfl rfl (by repeat first | exact allT_nil | refine allT_cons (fun h => h) ?_ | refine allT_cons (fun h => andl h) ?_ | refine allT_cons (fun h => andl (andl h)) ?_ | refine allT_cons (fun _ => rfl) ?_) (fun _ => rfl) rfl ?_
  refine S.pureG tOk zOk rfl rfl (by repeat first | exact allT_nil | refine allT_cons (fun h => h) ?_ | refine allT_cons (fun h => andl h) ?_ | refine allT_cons (fun h => andl (andl h)) ?_ | refine allT_cons (fun _ => rfl) ?_) (fun _ => rfl) rfl ?_
  refine S.pureG tOk zOk rfl rfl (by repeat first | exact allT_nil | refine allT_cons (fun h => h) ?_ | refine allT_cons (fun h => andl h) ?_ | refine allT_cons (fun h => andl (andl h)) ?_ | refine allT_cons (fun _ => rfl) ?_) (fun _ => rfl) rfl ?_
  refine S.pickAndG tOk zOk rfl rfl rfl (by repeat first | exact allT_nil | refine allT_cons (fun h => h) ?_ | refine allT_cons (fun h => andl h) ?_ | refine allT_cons (fun h => andl (andl h)) ?_ | refine allT_cons (fun _ => rfl) ?_) (by repeat first | exact allT_nil | refine allT_cons (fun h => h) ?_ | refine allT_cons (fun h => andl h) ?_ | refine allT_cons (fun h => andl (andl h)) ?_ | refine allT_cons (fun _ => rfl) ?_) ?_
  refine S.pickOr tOk zOk rfl rfl (by repeat first | exact allT_nil | refine allT_cons (fun h => h) ?_ | refine allT_cons (fun h => andl h) ?_ | refine allT_cons (fun h => andl (andl h)) ?_ | refine allT_cons (fun _ => rfl) ?_) ?_
  refine thenK_n ?_
  refine W.cond rfl (fun c1 => ?_) (fun c1 => ?_)
  · skip
    refine W.seq ?_
    refine W.region ?_
    refine S.pure tOk zOk rfl rfl rfl ?_
    refine S.pure tOk zOk rfl rfl rfl ?_
    refine thenK_n ?_
    refine W.ret ?_
    refine thenK_r ?_
    exact ⟨_, rfl, rfl, LeV.of_force rfl (by rw [show numB s = (0, false) from if_pos c1]; rfl)⟩
  · skip
    refine W.skip ?_
    refine thenK_n ?_
    refine W.seq ?_
    refine W.region ?_
    refine S.pure tOk zOk rfl rfl rfl ?_
    refine S.call rfl rfl rfl rfl rfl (pc_Atoi _ (by omega)) ?_
    refine S.pure tOk zOk rfl rfl rfl ?_
    refine S.pure tOk zOk rfl rfl rfl ?_
    refine S.pure tOk zOk rfl rfl rfl ?_
    refine S.pure tOk zOk rfl rfl rfl ?_
    refine S.pure tOk zOk rfl rfl rfl ?_
    refine thenK_n ?_
    refine W.seq ?_
    refine W.regionD mixed (by kernel_rfl) ?_
    refine D.pure tOk zOk rfl rfl rfl rfl ?_
    refine D.pure tOk zOk rfl rfl rfl rfl ?_
    refine D.pure tOk zOk rfl rfl rfl rfl ?_
    refine D.pure tOk zOk rfl rfl rfl rfl ?_
    refine D.pure tOk zOk rfl rfl rfl rfl ?_
    refine thenK_n ?_
    refine W.ret ?_
    exact ⟨_, rfl, rfl, LeV.of_force rfl (by rw [show numB s = (atoiV s, atoiOk s) from if_neg (Bool.eq_false_iff.1 c1)])⟩

theorem pc_cmp_Or_int_ (xs : List Int) (hl : xs.length ≤ 1000000) :
    PureCall Tryz.prog J 77 [.one (.d (.vec 1 (xs.map fun x => [.int .i64 x])))] (.one (.d (.int .i64 (firstNe xs)))) := by
  refine PureCall.of_body tOk (fn := Tryz.f77) Tryz.func77 (by kernel_rfl) rfl (Nat.le_of_ble_eq_true rfl) (fun E => ?_)
  refine W.seq ?_
  refine W.region ?_
  refine S.pure tOk zOk rfl rfl rfl ?_
  refine thenK_n ?_
  refine W.seq ?_
  refine W.region ?_
  refine S.pure tOk zOk rfl rfl rfl ?_
  refine thenK_n ?_
  refine W.seq ?_
  refine W.seq ?_
  refine W.region ?_
  refine S.pure tOk zOk rfl rfl rfl ?_
  refine S.pure tOk zOk rfl rfl rfl ?_
  refine S.pure tOk zOk rfl rfl rfl ?_
  refine thenK_n ?_
  refine W.block ?_
  refine W.loop (fun k st => ∃ i : Nat, i ≤ xs.length ∧ (xs.take i).all (· == 0) = true ∧ k = xs.length - i ∧ ∃ t b2 r2 m2, st = ⟨t, [] ++ b2, [] ++ r2, [] ++ m2⟩ ∧ holdsL t [(3, .one (.d (.int .i64 0))), (6, .one (.d (.vec 1 (xs.map fun x => [.int .i64 x])))), (7, .one (.d (.int .i64 ((xs.map fun x => ([.int .i64 x] : List D)).length : Int)))), (8, .one (.d (.int .i64 (i : Int))))]) (xs.length) ⟨0, Nat.zero_le _, by simp, rfl, _, _, _, _, rfl, rfl, rfl, rfl, rfl, trivial⟩ ?_
  rintro k0 _ ⟨i, f0_0, f0_1, rfl, t0, bb0, rr0, mm0, rfl, hh0⟩
  refine W.keepR _ _ _ _ _ _ _ hh0 rfl ?_
  refine W.seq ?_
  refine W.region ?_
  refine S.pure tOk zOk rfl rfl rfl ?_
  refine thenK_n ?_
  refine W.seq ?_
  refine W.cond rfl (fun c1 => ?_) (fun c1 => ?_)
  · skip
    have hi := row_lt c1
    refine W.skip ?_
    refine thenK_n ?_
    refine W.seq ?_
    refine W.block ?_
    refine W.seq ?_
    refine W.region ?_
    refine S.pureE tOk zOk rfl (row_ok hi) (row_at 0 hi) rfl ?_
    refine S.pure tOk zOk rfl rfl rfl ?_
    refine S.pure tOk zOk rfl rfl rfl ?_
    refine thenK_n ?_
    refine W.seq ?_
    refine W.region ?_
    refine S.pure tOk zOk rfl rfl rfl ?_
    refine S.pure tOk zOk rfl rfl rfl ?_
    refine S.pure tOk zOk rfl rfl rfl ?_
    refine thenK_n ?_
    refine W.cond rfl (fun c2 => ?_) (fun c2 => ?_)
    · skip
      refine W.seq ?_
      refine W.region ?_
      refine S.pure tOk zOk rfl rfl rfl ?_
      refine S.pure tOk zOk rfl rfl rfl ?_
      refine thenK_n ?_
      refine W.ret ?_
      refine blockK_r ?_
      refine thenK_r ?_
      refine thenK_r ?_
      refine blockK_r ?_
      refine thenK_r ?_
      exact ⟨_, rfl, rfl, LeV.of_force rfl (by rw [firstNe_hit hi f0_1 (by simpa using c2)])⟩
    · skip
      refine W.skip ?_
      refine blockK_n ?_
      refine thenK_n ?_
      refine W.region ?_
      refine S.pure tOk zOk rfl rfl rfl ?_
      refine S.pure tOk zOk rfl rfl rfl ?_
      refine loop_n (xs.length - (i + 1)) (by omega) ⟨i + 1, hi, all_take_succ (d := 0) hi f0_1 (by simpa using c2), rfl, _, _, _, _, rfl, rfl, rfl, rfl, inc_i64 (by omega), trivial⟩
  · skip
    have hi := row_ge c1
    refine W.exit ?_
    refine thenK_e ?_
    refine thenK_e ?_
    refine blockK_x ?_
    refine thenK_n ?_
    refine W.seq ?_
    refine W.region ?_
    refine S.pure tOk zOk rfl rfl rfl ?_
    refine S.pure tOk zOk rfl rfl rfl ?_
    refine thenK_n ?_
    refine W.ret ?_
    exact ⟨_, rfl, rfl, LeV.of_force rfl (by rw [firstNe_none hi f0_1])⟩

theorem pc_ver_compareWords (a b : List UInt8) (ha : a.length < 4294967281) (hb : b.length < 4294967281) :
    PureCall Tryz.prog J 202 [.one (.d (.str a)), .one (.d (.str b))] (.one (.d (.int .i64 (cwB a b)))) := by
  refine PureCall.of_body tOk (fn := Tryz.f202) Tryz.func202 (by kernel_rfl) rfl (Nat.le_of_ble_eq_true rfl) (fun E => ?_)
  refine W.seq ?_
  refine W.region ?_
  refine S.pure tOk zOk rfl rfl rfl ?_
  refine thenK_n ?_
  refine W.seq ?_
  refine W.region ?_
  refine S.pure tOk zOk rfl rfl rfl ?_
  refine S.call rfl rfl rfl rfl rfl (pc_ver_isNumeral _ (by omega)) ?_
  refine S.pure tOk zOk rfl rfl rfl ?_
  refine S.call rfl rfl rfl rfl rfl (pc_ver_isNumeral _ (by omega)) ?_
  refine S.pure tOk zOk rfl rfl rfl ?_
  refine S.pure tOk zOk rfl rfl rfl ?_
  refine thenK_n ?_
  refine W.seq ?_
  refine W.block ?_
  refine W.seq ?_
  refine W.region ?_
  refine S.pure tOk zOk rfl rfl rfl ?_
  refine S.pure tOk zOk rfl rfl rfl ?_
  refine S.pureG tOk zOk rfl rfl (by repeat first | exact allT_nil | refine allT_cons (fun h => h) ?_ | refine allT_cons (fun h => andl h) ?_ | refine allT_cons (fun h => andl (andl h)) ?_ | refine allT_cons (fun _ => rfl) ?_) (fun _ => rfl) rfl ?_
  refine S.pickAnd tOk zOk rfl rfl (by repeat first | exact allT_nil | refine allT_cons (fun h => h) ?_ | refine allT_cons (fun h => andl h) ?_ | refine allT_cons (fun h => andl (andl h)) ?_ | refine allT_cons (fun _ => rfl) ?_) ?_
  refine S.pure tOk zOk rfl rfl rfl ?_
  refine thenK_n ?_
  refine W.cond rfl (fun c1 => ?_) (fun c1 => ?_)
  · skip
    refine W.seq ?_
    refine W.region ?_
    refine S.pure tOk zOk rfl rfl rfl ?_
    refine S.pure tOk zOk rfl rfl rfl ?_
    refine S.pure tOk zOk rfl rfl rfl ?_
    refine S.pure tOk zOk rfl rfl rfl ?_
    refine S.pure tOk zOk rfl rfl rfl ?_
    refine thenK_n ?_
    refine W.cond rfl (fun c2 => ?_) (fun c2 => ?_)
    · skip
      refine W.seq ?_
      refine W.region ?_
      refine S.pure tOk zOk rfl rfl rfl ?_
      refine S.pure tOk zOk rfl rfl rfl ?_
      refine S.pure tOk zOk rfl rfl rfl ?_
      refine S.pure tOk zOk rfl rfl rfl ?_
      refine S.call rfl rfl rfl rfl rfl (pc_cmpInt _ _) ?_
      refine S.pure tOk zOk rfl rfl rfl ?_
      refine thenK_n ?_
      refine W.ret ?_
      refine blockK_r ?_
      refine thenK_r ?_
      exact ⟨_, rfl, rfl, LeV.of_force rfl (by simp_all [cwB])⟩
    · skip
      refine W.skip ?_
      refine blockK_n ?_
      refine thenK_n ?_
      refine W.seq ?_
      refine W.region ?_
      refine S.pure tOk zOk rfl rfl rfl ?_
      refine S.pure tOk zOk rfl rfl rfl ?_
      refine S.call rfl rfl rfl rfl rfl (pc_Compare _ _) ?_
      refine S.pure tOk zOk rfl rfl rfl ?_
      refine thenK_n ?_
      refine W.ret ?_
      exact ⟨_, rfl, rfl, LeV.of_force rfl (by simp_all [cwB])⟩
  · skip
    refine W.seq ?_
    refine W.region ?_
    refine S.pure tOk zOk rfl rfl rfl ?_
    refine S.pure tOk zOk rfl rfl rfl ?_
    refine thenK_n ?_
    refine W.cond rfl (fun c3 => ?_) (fun c3 => ?_)
    · skip
      refine W.seq ?_
      refine W.region ?_
      refine S.pure tOk zOk rfl rfl rfl ?_
      refine thenK_n ?_
      refine W.ret ?_
      refine blockK_r ?_
      refine thenK_r ?_
      exact ⟨_, rfl, rfl, LeV.of_force rfl (by simp_all [cwB])⟩
    · skip
      refine W.seq ?_
      refine W.region ?_
      refine S.pure tOk zOk rfl rfl rfl ?_
      refine S.pure tOk zOk rfl rfl rfl ?_
      refine thenK_n ?_
      refine W.cond rfl (fun c4 => ?_) (fun c4 => ?_)
      · skip
        refine W.seq ?_
        refine W.region ?_
        refine S.pure tOk zOk rfl rfl rfl ?_
        refine thenK_n ?_
        refine W.ret ?_
        refine blockK_r ?_
        refine thenK_r ?_
        exact ⟨_, rfl, rfl, LeV.of_force rfl (by simp_all [cwB])⟩
      · skip
        refine W.skip ?_
        refine blockK_n ?_
        refine thenK_n ?_
        refine W.seq ?_
        refine W.region ?_
        refine S.pure tOk zOk rfl rfl rfl ?_
        refine S.pure tOk zOk rfl rfl rfl ?_
        refine S.call rfl rfl rfl rfl rfl (pc_Compare _ _) ?_
        refine S.pure tOk zOk rfl rfl rfl ?_
        refine thenK_n ?_
        refine W.ret ?_
        exact ⟨_, rfl, rfl, LeV.of_force rfl (by simp_all [cwB])⟩

theorem pc_ver_compareEarly (a b : List UInt8) (ha : a.length < 4294967281) (hb : b.length < 4294967281) :
    PureCall Tryz.prog J 147 [.one (.d (.str a)), .one (.d (.str b))] (.one (.d (.int .i64 (ceB a b)))) := by
  have hl := split_le a [46]
  have hl2 := split_le b [46]
  refine PureCall.of_body tOk (fn := Tryz.f147) Tryz.func147 (by kernel_rfl) rfl (Nat.le_of_ble_eq_true rfl) (fun E => ?_)
  refine W.seq ?_
  refine W.region ?_
  refine S.pure tOk zOk rfl rfl rfl ?_
  refine thenK_n ?_
  refine W.seq ?_
  refine W.block ?_
  refine W.seq ?_
  refine W.region ?_
  refine S.pure tOk zOk rfl rfl rfl ?_
  refine S.pure tOk zOk rfl rfl rfl ?_
  refine S.pure tOk zOk rfl rfl rfl ?_
  refine S.pure tOk zOk rfl rfl rfl ?_
  refine thenK_n ?_
  refine W.cond rfl (fun c1 => ?_) (fun c1 => ?_)
  · skip
    refine W.seq ?_
    refine W.region ?_
    refine S.pure tOk zOk rfl rfl rfl ?_
    refine thenK_n ?_
    refine W.ret ?_
    refine blockK_r ?_
    refine thenK_r ?_
    exact ⟨_, rfl, rfl, LeV.of_force rfl (by simp_all [ceB])⟩
  · skip
    refine W.seq ?_
    refine W.region ?_
    refine S.pure tOk zOk rfl rfl rfl ?_
    refine S.pure tOk zOk rfl rfl rfl ?_
    refine S.pure tOk zOk rfl rfl rfl ?_
    refine thenK_n ?_
    refine W.cond rfl (fun c2 => ?_) (fun c2 => ?_)
    · skip
      refine W.seq ?_
      refine W.region ?_
      refine S.pure tOk zOk rfl rfl rfl ?_
      refine thenK_n ?_
      refine W.ret ?_
      refine blockK_r ?_
      refine thenK_r ?_
      exact ⟨_, rfl, rfl, LeV.of_force rfl (by simp_all [ceB])⟩
    · skip
      refine W.seq ?_
      refine W.region ?_
      refine S.pure tOk zOk rfl rfl rfl ?_
      refine S.pure tOk zOk rfl rfl rfl ?_
      refine S.pure tOk zOk rfl rfl rfl ?_
      refine thenK_n ?_
      refine W.cond rfl (fun c3 => ?_) (fun c3 => ?_)
      · skip
        refine W.seq ?_
        refine W.region ?_
        refine S.pure tOk zOk rfl rfl rfl ?_
        refine thenK_n ?_
        refine W.ret ?_
        refine blockK_r ?_
        refine thenK_r ?_
        exact ⟨_, rfl, rfl, LeV.of_force rfl (by simp_all [ceB])⟩
      · skip
        refine W.skip ?_
        refine blockK_n ?_
        refine thenK_n ?_
        refine W.seq ?_
        refine W.region ?_
        refine S.pure tOk zOk rfl rfl rfl ?_
        refine S.call rfl rfl rfl rfl rfl (pc_Split _ _ ha (by decide)) ?_
        refine S.pure tOk zOk rfl rfl rfl ?_
        refine S.call rfl rfl rfl rfl rfl (pc_Split _ _ hb (by decide)) ?_
        refine S.pure tOk zOk rfl rfl rfl ?_
        refine S.pure tOk zOk rfl rfl rfl ?_
        refine thenK_n ?_
        refine W.seq ?_
        refine W.seq ?_
        refine W.region ?_
        refine S.pure tOk zOk rfl rfl rfl ?_
        refine S.pure tOk zOk rfl rfl rfl ?_
        refine S.pure tOk zOk rfl rfl rfl ?_
        refine S.pure tOk zOk rfl rfl rfl ?_
        refine S.pure tOk zOk rfl rfl rfl ?_
        refine S.pure tOk zOk rfl rfl rfl ?_
        refine thenK_n ?_
        refine W.block ?_
        refine W.loop (fun k st => ∃ i : Nat, i ≤ (Lib.split a [46]).length ∧ ((List.zipWith cwB (Lib.split a [46]) (Lib.split b [46])).take i).all (· == 0) = true ∧ k = (Lib.split a [46]).length - i ∧ ∃ t b2 r2 m2, st = ⟨t, [] ++ b2, [] ++ r2, [] ++ m2⟩ ∧ holdsL t [(5, .one (.d (.vec 1 ((Lib.split a [46]).map fun x => [.str x])))), (6, .one (.d (.vec 1 ((Lib.split b [46]).map fun x => [.str x])))), (27, .one (.d (.int .i64 (if (((Lib.split b [46]).map fun x => [D.str x]).length : Int) < (((Lib.split a [46]).map fun x => [D.str x]).length : Int) then (((Lib.split b [46]).map fun x => [D.str x]).length : Int) else (((Lib.split a [46]).map fun x => [D.str x]).length : Int))))), (28, .one (.d (.int .i64 (i : Int))))]) ((Lib.split a [46]).length) ⟨0, Nat.zero_le _, by simp, rfl, _, _, _, _, rfl, rfl, rfl, rfl, rfl, trivial⟩ ?_
        rintro k1 _ ⟨i, f1_0, f1_1, rfl, t1, bb1, rr1, mm1, rfl, hh1⟩
        refine W.keepR _ _ _ _ _ _ _ hh1 rfl ?_
        refine W.seq ?_
        refine W.region ?_
        refine S.pure tOk zOk rfl rfl rfl ?_
        refine thenK_n ?_
        refine W.seq ?_
        refine W.cond rfl (fun c4 => ?_) (fun c4 => ?_)
        · skip
          have hi := min_lt (xs := Lib.split a [46]) (ys := Lib.split b [46]) (by simp) (by simp) c4
          refine W.skip ?_
          refine thenK_n ?_
          refine W.seq ?_
          refine W.block ?_
          refine W.seq ?_
          refine W.region ?_
          refine S.pure tOk zOk rfl rfl rfl ?_
          refine S.pure tOk zOk rfl rfl rfl ?_
          refine thenK_n ?_
          refine W.seq ?_
          refine W.regionD mixed (by kernel_rfl) ?_
          refine D.pure tOk zOk rfl rfl rfl rfl ?_
          refine D.pure tOk zOk rfl rfl rfl rfl ?_
          refine D.pureE tOk zOk rfl rfl (row_ok hi.1) (row_at [] hi.1) rfl ?_
          refine D.pure tOk zOk rfl rfl rfl rfl ?_
          refine D.pure tOk zOk rfl rfl rfl rfl ?_
          refine D.pure tOk zOk rfl rfl rfl rfl ?_
          refine D.pureE tOk zOk rfl rfl (row_ok hi.2) (row_at [] hi.2) rfl ?_
          refine D.pure tOk zOk rfl rfl rfl rfl ?_
          refine D.call rfl rfl rfl rfl rfl (pc_ver_compareWords _ _ (by have := @split_at a [46] i; omega) (by have := @split_at b [46] i; omega)) ?_
          refine D.pure tOk zOk rfl rfl rfl rfl ?_
          refine thenK_n ?_
          refine W.seq ?_
          refine W.region ?_
          refine S.pure tOk zOk rfl rfl rfl ?_
          refine S.pure tOk zOk rfl rfl rfl ?_
          refine thenK_n ?_
          refine W.cond rfl (fun c5 => ?_) (fun c5 => ?_)
          · skip
            refine W.seq ?_
            refine W.region ?_
            refine S.pure tOk zOk rfl rfl rfl ?_
            refine S.pure tOk zOk rfl rfl rfl ?_
            refine thenK_n ?_
            refine W.ret ?_
            refine blockK_r ?_
            refine thenK_r ?_
            refine thenK_r ?_
            refine blockK_r ?_
            refine thenK_r ?_
            exact ⟨_, rfl, rfl, LeV.of_force rfl (by
      have hz := zip_at (f := cwB) [] [] hi.1 hi.2
      have hc : cwB ((Lib.split a [46]).getD i []) ((Lib.split b [46]).getD i []) ≠ 0 := by simpa using c5
      have hh := firstNe_hit (by simp; omega) f1_1 (by rw [hz]; exact hc); rw [hz] at hh; rw [ceB, rowsB, hh]; simp_all)⟩
          · skip
            refine W.skip ?_
            refine blockK_n ?_
            refine thenK_n ?_
            refine W.region ?_
            refine S.pure tOk zOk rfl rfl rfl ?_
            refine S.pure tOk zOk rfl rfl rfl ?_
            refine loop_n ((Lib.split a [46]).length - (i + 1)) (by omega) ⟨i + 1, by omega, all_take_succ (d := 0) (by simp; omega) f1_1 (by rw [zip_at [] [] hi.1 hi.2]; simpa using c5), rfl, _, _, _, _, rfl, rfl, rfl, rfl, inc_i64 (by omega), trivial⟩
        · skip
          have hi := min_ge (xs := Lib.split a [46]) (ys := Lib.split b [46]) (by simp) (by simp) c4
          refine W.exit ?_
          refine thenK_e ?_
          refine thenK_e ?_
          refine blockK_x ?_
          refine thenK_n ?_
          refine W.seq ?_
          refine W.region ?_
          refine S.pure tOk zOk rfl rfl rfl ?_
          refine S.pure tOk zOk rfl rfl rfl ?_
          refine S.pure tOk zOk rfl rfl rfl ?_
          refine S.pure tOk zOk rfl rfl rfl ?_
          refine S.call rfl rfl rfl rfl rfl (pc_cmpInt _ _) ?_
          refine S.pure tOk zOk rfl rfl rfl ?_
          refine thenK_n ?_
          refine W.ret ?_
          exact ⟨_, rfl, rfl, LeV.of_force rfl (by have hh := firstNe_none (l := List.zipWith cwB (Lib.split a [46]) (Lib.split b [46])) (by simp; omega) f1_1; rw [ceB, rowsB, hh]; simp_all)⟩

theorem pc_ver_Order (v w : Ver) (hv : v.e.length < 4294967281) (hw : w.e.length < 4294967281) :
    PureCall Tryz.prog J 68 [verV v, verV w] (.one (.d (.int .i64 (orderB v w)))) := by
  refine PureCall.of_body tOk (fn := Tryz.f68) Tryz.func68 (by kernel_rfl) rfl (Nat.le_of_ble_eq_true rfl) (fun E => ?_)
  refine W.seq ?_
  refine W.region ?_
  refine S.box rfl rfl rfl rfl ?_
  refine S.box rfl rfl rfl rfl ?_
  refine S.pure tOk zOk rfl rfl rfl ?_
  refine thenK_n ?_
  refine W.seq ?_
  refine W.regionD mixed (by kernel_rfl) ?_
  refine D.pure tOk zOk rfl rfl rfl rfl ?_
  refine D.pure tOk zOk rfl rfl rfl rfl ?_
  refine D.pure tOk zOk rfl rfl rfl rfl ?_
  refine D.pure tOk zOk rfl rfl rfl rfl ?_
  refine D.call rfl rfl rfl rfl rfl (pc_cmpInt _ _) ?_
  refine D.pure tOk zOk rfl rfl rfl rfl ?_
  refine D.pure tOk zOk rfl rfl rfl rfl ?_
  refine D.pure tOk zOk rfl rfl rfl rfl ?_
  refine D.pure tOk zOk rfl rfl rfl rfl ?_
  refine D.call rfl rfl rfl rfl rfl (pc_cmpInt _ _) ?_
  refine D.pure tOk zOk rfl rfl rfl rfl ?_
  refine D.pure tOk zOk rfl rfl rfl rfl ?_
  refine D.pure tOk zOk rfl rfl rfl rfl ?_
  refine D.pure tOk zOk rfl rfl rfl rfl ?_
  refine D.call rfl rfl rfl rfl rfl (pc_cmpInt _ _) ?_
  refine D.pure tOk zOk rfl rfl rfl rfl ?_
  refine D.pure tOk zOk rfl rfl rfl rfl ?_
  refine D.pure tOk zOk rfl rfl rfl rfl ?_
  refine D.pure tOk zOk rfl rfl rfl rfl ?_
  refine D.call rfl rfl rfl rfl rfl (pc_ver_compareEarly _ _ (by omega) (by omega)) ?_
  refine D.slice tOk rfl rfl ?_
  refine D.call rfl rfl rfl rfl rfl (pc_cmp_Or_int_ [_, _, _, _] (by simp)) ?_
  refine D.pure tOk zOk rfl rfl rfl rfl ?_
  refine thenK_n ?_
  refine W.ret ?_
  exact ⟨_, rfl, rfl, LeV.refl _⟩

theorem pc_ver_Next (v : Ver) (he : v.e.length < 4294967281) (p : Int) :
    PureCall Tryz.prog J 190 [verV v, .one (.d (.int .i64 p))] (.tup [verV (nextB v p).1, .one (.d (.int .i64 (nextB v p).2))]) := by
  refine PureCall.of_body tOk (fn := Tryz.f190) Tryz.func190 (by kernel_rfl) rfl (Nat.le_of_ble_eq_true rfl) (fun E => ?_)
  refine W.seq ?_
  refine W.region ?_
  refine S.box rfl rfl rfl rfl ?_
  refine S.alloc tOk rfl rfl rfl rfl ?_
  refine S.pure tOk zOk rfl rfl rfl ?_
  refine thenK_n ?_
  refine W.seq ?_
  refine W.seq ?_
  refine W.region ?_
  refine S.pure tOk zOk rfl rfl rfl ?_
  refine S.call rfl rfl rfl rfl rfl (pc_ver_Check v he) ?_
  refine S.pure tOk zOk rfl rfl rfl ?_
  refine thenK_n ?_
  refine W.seq ?_
  refine W.region ?_
  refine S.pure tOk zOk rfl rfl rfl ?_
  refine S.pure tOk zOk rfl rfl rfl ?_
  refine thenK_n ?_
  refine W.cond rfl (fun c1 => ?_) (fun c1 => ?_)
  · skip
    refine W.seq ?_
    refine W.region ?_
    refine S.pure tOk zOk rfl rfl rfl ?_
    refine S.pure tOk zOk rfl rfl rfl ?_
    refine S.store tOk rfl rfl rfl rfl rfl rfl rfl rfl ?_
    refine S.pure tOk zOk rfl rfl rfl ?_
    refine thenK_n ?_
    refine W.ret ?_
    refine thenK_r ?_
    exact ⟨_, rfl, rfl, LeV.of_force rfl (by simp_all [nextB, nextOk, Ver.check, Ver.z, w1, verV])⟩
  · skip
    refine W.skip ?_
    refine thenK_n ?_
    refine W.seq ?_
    refine W.region ?_
    refine S.pure tOk zOk rfl rfl rfl ?_
    refine S.pure tOk zOk rfl rfl rfl ?_
    refine S.pure tOk zOk rfl rfl rfl ?_
    refine S.pure tOk zOk rfl rfl rfl ?_
    refine S.pure tOk zOk rfl rfl rfl ?_
    refine S.pure tOk zOk rfl rfl rfl ?_
    refine S.pure tOk zOk rfl rfl rfl ?_
    refine S.alloc tOk rfl rfl rfl rfl ?_
    refine S.store tOk rfl rfl rfl rfl rfl rfl rfl rfl ?_
    refine thenK_n ?_
    refine W.seq ?_
    refine W.block ?_
    refine W.seq ?_
    refine W.region ?_
    refine S.pure tOk zOk rfl rfl rfl ?_
    refine S.pure tOk zOk rfl rfl rfl ?_
    refine S.pure tOk zOk rfl rfl rfl ?_
    refine thenK_n ?_
    refine W.cond rfl (fun c2 => ?_) (fun c2 => ?_)
    · skip
      refine W.region ?_
      refine S.pure tOk zOk rfl rfl rfl ?_
      refine S.pure tOk zOk rfl rfl rfl ?_
      refine S.pure tOk zOk rfl rfl rfl ?_
      refine S.pure tOk zOk rfl rfl rfl ?_
      refine S.store tOk rfl rfl rfl rfl rfl rfl rfl rfl ?_
      refine blockK_n ?_
      refine thenK_n ?_
      refine W.seq ?_
      refine W.seq ?_
      refine W.region ?_
      refine S.pure tOk zOk rfl rfl rfl ?_
      refine S.call rfl rfl rfl rfl rfl (pc_ver_Check ⟨w1 v.a, 0, 0, []⟩ (by decide : ([] : List UInt8).length < _)) ?_
      refine S.pure tOk zOk rfl rfl rfl ?_
      refine thenK_n ?_
      refine W.cond rfl (fun c3 => ?_) (fun c3 => ?_)
      · skip
        refine W.seq ?_
        refine W.region ?_
        refine S.pure tOk zOk rfl rfl rfl ?_
        refine S.store tOk rfl rfl rfl rfl rfl rfl rfl rfl ?_
        refine S.pure tOk zOk rfl rfl rfl ?_
        refine thenK_n ?_
        refine W.ret ?_
        refine thenK_r ?_
        exact ⟨_, rfl, rfl, LeV.of_force rfl (by simp_all [nextB, nextOk, Ver.check, Ver.z, w1, verV])⟩
      · skip
        refine W.skip ?_
        refine thenK_n ?_
        refine W.seq ?_
        refine W.region ?_
        refine S.pure tOk zOk rfl rfl rfl ?_
        refine S.store tOk rfl rfl rfl rfl rfl rfl rfl rfl ?_
        refine S.pure tOk zOk rfl rfl rfl ?_
        refine thenK_n ?_
        refine W.ret ?_
        exact ⟨_, rfl, rfl, LeV.of_force rfl (by simp_all [nextB, nextOk, Ver.check, Ver.z, w1, verV])⟩
    · skip
      refine W.seq ?_
      refine W.region ?_
      refine S.pure tOk zOk rfl rfl rfl ?_
      refine S.pure tOk zOk rfl rfl rfl ?_
      refine S.pure tOk zOk rfl rfl rfl ?_
      refine thenK_n ?_
      refine W.cond rfl (fun c4 => ?_) (fun c4 => ?_)
      · skip
        refine W.region ?_
        refine S.pure tOk zOk rfl rfl rfl ?_
        refine S.pure tOk zOk rfl rfl rfl ?_
        refine S.pure tOk zOk rfl rfl rfl ?_
        refine S.pure tOk zOk rfl rfl rfl ?_
        refine S.store tOk rfl rfl rfl rfl rfl rfl rfl rfl ?_
        refine S.pure tOk zOk rfl rfl rfl ?_
        refine S.store tOk rfl rfl rfl rfl rfl rfl rfl rfl ?_
        refine blockK_n ?_
        refine thenK_n ?_
        refine W.seq ?_
        refine W.seq ?_
        refine W.region ?_
        refine S.pure tOk zOk rfl rfl rfl ?_
        refine S.call rfl rfl rfl rfl rfl (pc_ver_Check ⟨v.a, w1 v.b, 0, []⟩ (by decide : ([] : List UInt8).length < _)) ?_
        refine S.pure tOk zOk rfl rfl rfl ?_
        refine thenK_n ?_
        refine W.cond rfl (fun c5 => ?_) (fun c5 => ?_)
        · skip
          refine W.seq ?_
          refine W.region ?_
          refine S.pure tOk zOk rfl rfl rfl ?_
          refine S.store tOk rfl rfl rfl rfl rfl rfl rfl rfl ?_
          refine S.pure tOk zOk rfl rfl rfl ?_
          refine thenK_n ?_
          refine W.ret ?_
          refine thenK_r ?_
          exact ⟨_, rfl, rfl, LeV.of_force rfl (by simp_all [nextB, nextOk, Ver.check, Ver.z, w1, verV])⟩
        · skip
          refine W.skip ?_
          refine thenK_n ?_
          refine W.seq ?_
          refine W.region ?_
          refine S.pure tOk zOk rfl rfl rfl ?_
          refine S.store tOk rfl rfl rfl rfl rfl rfl rfl rfl ?_
          refine S.pure tOk zOk rfl rfl rfl ?_
          refine thenK_n ?_
          refine W.ret ?_
          exact ⟨_, rfl, rfl, LeV.of_force rfl (by simp_all [nextB, nextOk, Ver.check, Ver.z, w1, verV])⟩
      · skip
        refine W.seq ?_
        refine W.region ?_
        refine S.pure tOk zOk rfl rfl rfl ?_
        refine S.pure tOk zOk rfl rfl rfl ?_
        refine S.pure tOk zOk rfl rfl rfl ?_
        refine S.pureG tOk zOk rfl rfl (by repeat first | exact allT_nil | refine allT_cons (fun h => h) ?_ | refine allT_cons (fun h => andl h) ?_ | refine allT_cons (fun h => andl (andl h)) ?_ | refine allT_cons (fun _ => rfl) ?_) (fun _ => rfl) rfl ?_
        refine S.pureG tOk zOk rfl rfl (by repeat first | exact allT_nil | refine allT_cons (fun h => h) ?_ | refine allT_cons (fun h => andl h) ?_ | refine allT_cons (fun h => andl (andl h)) ?_ | refine allT_cons (fun _ => rfl) ?_) (fun _ => rfl) rfl ?_
        refine S.pureG tOk zOk rfl rfl (by repeat first | exact allT_nil | refine allT_cons (fun h => h) ?_ | refine allT_cons (fun h => andl h) ?_ | refine allT_cons (fun h => andl (andl h)) ?_ | refine allT_cons (fun _ => rfl) ?_) (fun _ => rfl) rfl ?_
        refine S.pickAnd tOk zOk rfl rfl (by repeat first | exact allT_nil | refine allT_cons (fun h => h) ?_ | refine allT_cons (fun h => andl h) ?_ | refine allT_cons (fun h => andl (andl h)) ?_ | refine allT_cons (fun _ => rfl) ?_) ?_
        refine S.pure tOk zOk rfl rfl rfl ?_
        refine thenK_n ?_
        refine W.cond rfl (fun c6 => ?_) (fun c6 => ?_)
        · skip
          refine W.region ?_
          refine S.pure tOk zOk rfl rfl rfl ?_
          refine S.pure tOk zOk rfl rfl rfl ?_
          refine S.pure tOk zOk rfl rfl rfl ?_
          refine S.pure tOk zOk rfl rfl rfl ?_
          refine S.store tOk rfl rfl rfl rfl rfl rfl rfl rfl ?_
          refine blockK_n ?_
          refine thenK_n ?_
          refine W.seq ?_
          refine W.seq ?_
          refine W.region ?_
          refine S.pure tOk zOk rfl rfl rfl ?_
          refine S.call rfl rfl rfl rfl rfl (pc_ver_Check ⟨v.a, v.b, w1 v.c, []⟩ (by decide : ([] : List UInt8).length < _)) ?_
          refine S.pure tOk zOk rfl rfl rfl ?_
          refine thenK_n ?_
          refine W.cond rfl (fun c7 => ?_) (fun c7 => ?_)
          · skip
            refine W.seq ?_
            refine W.region ?_
            refine S.pure tOk zOk rfl rfl rfl ?_
            refine S.store tOk rfl rfl rfl rfl rfl rfl rfl rfl ?_
            refine S.pure tOk zOk rfl rfl rfl ?_
            refine thenK_n ?_
            refine W.ret ?_
            refine thenK_r ?_
            exact ⟨_, rfl, rfl, LeV.of_force rfl (by simp_all [nextB, nextOk, Ver.check, Ver.z, w1, verV])⟩
          · skip
            refine W.skip ?_
            refine thenK_n ?_
            refine W.seq ?_
            refine W.region ?_
            refine S.pure tOk zOk rfl rfl rfl ?_
            refine S.store tOk rfl rfl rfl rfl rfl rfl rfl rfl ?_
            refine S.pure tOk zOk rfl rfl rfl ?_
            refine thenK_n ?_
            refine W.ret ?_
            exact ⟨_, rfl, rfl, LeV.of_force rfl (by simp_all [nextB, nextOk, Ver.check, Ver.z, w1, verV])⟩
        · skip
          refine W.seq ?_
          refine W.region ?_
          refine S.pure tOk zOk rfl rfl rfl ?_
          refine S.pure tOk zOk rfl rfl rfl ?_
          refine S.pure tOk zOk rfl rfl rfl ?_
          refine thenK_n ?_
          refine W.cond rfl (fun c8 => ?_) (fun c8 => ?_)
          · skip
            refine W.seq ?_
            refine W.region ?_
            refine S.pure tOk zOk rfl rfl rfl ?_
            refine S.store tOk rfl rfl rfl rfl rfl rfl rfl rfl ?_
            refine S.pure tOk zOk rfl rfl rfl ?_
            refine thenK_n ?_
            refine W.ret ?_
            refine blockK_r ?_
            refine thenK_r ?_
            exact ⟨_, rfl, rfl, LeV.of_force rfl (by simp_all [nextB, nextOk, Ver.check, Ver.z, w1, verV])⟩
          · skip
            refine W.skip ?_
            refine blockK_n ?_
            refine thenK_n ?_
            refine W.seq ?_
            refine W.seq ?_
            refine W.region ?_
            refine S.pure tOk zOk rfl rfl rfl ?_
            refine S.call rfl rfl rfl rfl rfl (pc_ver_Check ⟨v.a, v.b, v.c, []⟩ (by decide : ([] : List UInt8).length < _)) ?_
            refine S.pure tOk zOk rfl rfl rfl ?_
            refine thenK_n ?_
            refine W.cond rfl (fun c9 => ?_) (fun c9 => ?_)
            · skip
              refine W.seq ?_
              refine W.region ?_
              refine S.pure tOk zOk rfl rfl rfl ?_
              refine S.store tOk rfl rfl rfl rfl rfl rfl rfl rfl ?_
              refine S.pure tOk zOk rfl rfl rfl ?_
              refine thenK_n ?_
              refine W.ret ?_
              refine thenK_r ?_
              exact ⟨_, rfl, rfl, LeV.of_force rfl (by simp_all [nextB, nextOk, Ver.check, Ver.z, w1, verV])⟩
            · skip
              refine W.skip ?_
              refine thenK_n ?_
              refine W.seq ?_
              refine W.region ?_
              refine S.pure tOk zOk rfl rfl rfl ?_
              refine S.store tOk rfl rfl rfl rfl rfl rfl rfl rfl ?_
              refine S.pure tOk zOk rfl rfl rfl ?_
              refine thenK_n ?_
              refine W.ret ?_
              exact ⟨_, rfl, rfl, LeV.of_force rfl (by simp_all [nextB, nextOk, Ver.check, Ver.z, w1, verV])⟩

theorem pc_ver_Parse (s : List UInt8) (hs : s.length < 4294967281) :
    PureCall Tryz.prog J 126 [.one (.d (.str s))] (.tup [verV (parseB s).1, .one (.d (.int .i64 (parseB s).2))]) := by
  have hc := cut_le s [45]
  have hm := fun i => @split_at (Lib.cut s [45]).1 [46] i
  have hsp := pc_Split (Lib.cut s [45]).1 [46] (by omega) (by decide)
  unfold parseB
  generalize hws : Lib.split (Lib.cut s [45]).1 [46] = ws at hm hsp ⊢
  refine PureCall.of_body tOk (fn := Tryz.f126) Tryz.func126 (by kernel_rfl) rfl (Nat.le_of_ble_eq_true rfl) (fun E => ?_)
  refine W.seq ?_
  refine W.region ?_
  refine S.alloc tOk rfl rfl rfl rfl ?_
  refine S.pure tOk zOk rfl rfl rfl ?_
  refine thenK_n ?_
  refine W.seq ?_
  refine W.region ?_
  refine S.pure tOk zOk rfl rfl rfl ?_
  refine S.call rfl rfl rfl rfl rfl (pc_Cut _ _ hs) ?_
  refine S.pure tOk zOk rfl rfl rfl ?_
  refine S.pure tOk zOk rfl rfl rfl ?_
  refine S.pure tOk zOk rfl rfl rfl ?_
  refine S.pure tOk zOk rfl rfl rfl ?_
  refine S.pure tOk zOk rfl rfl rfl ?_
  refine S.pure tOk zOk rfl rfl rfl ?_
  refine S.pure tOk zOk rfl rfl rfl ?_
  refine thenK_n ?_
  refine W.seq ?_
  refine W.region ?_
  refine S.pure tOk zOk rfl rfl rfl ?_
  refine S.call rfl rfl rfl rfl rfl (hsp) ?_
  refine S.pure tOk zOk rfl rfl rfl ?_
  refine thenK_n ?_
  refine W.seq ?_
  refine W.seq ?_
  refine W.region ?_
  refine S.pure tOk zOk rfl rfl rfl ?_
  refine S.pure tOk zOk rfl rfl rfl ?_
  refine S.pure tOk zOk rfl rfl rfl ?_
  refine S.pure tOk zOk rfl rfl rfl ?_
  refine S.pureG tOk zOk rfl rfl (by repeat first | exact allT_nil | refine allT_cons (fun h => h) ?_ | refine allT_cons (fun h => andl h) ?_ | refine allT_cons (fun h => andl (andl h)) ?_ | refine allT_cons (fun _ => rfl) ?_) (fun _ => rfl) rfl ?_
  refine S.pureG tOk zOk rfl rfl (by repeat first | exact allT_nil | refine allT_cons (fun h => h) ?_ | refine allT_cons (fun h => andl h) ?_ | refine allT_cons (fun h => andl (andl h)) ?_ | refine allT_cons (fun _ => rfl) ?_) (fun _ => rfl) rfl ?_
  refine S.pureG tOk zOk rfl rfl (by repeat first | exact allT_nil | refine allT_cons (fun h => h) ?_ | refine allT_cons (fun h => andl h) ?_ | refine allT_cons (fun h => andl (andl h)) ?_ | refine allT_cons (fun _ => rfl) ?_) (fun _ => rfl) rfl ?_
  refine S.pureG tOk zOk rfl rfl (by repeat first | exact allT_nil | refine allT_cons (fun h => h) ?_ | refine allT_cons (fun h => andl h) ?_ | refine allT_cons (fun h => andl (andl h)) ?_ | refine allT_cons (fun _ => rfl) ?_) (fun _ => rfl) rfl ?_
  refine S.pickAndG tOk zOk rfl rfl rfl (by repeat first | exact allT_nil | refine allT_cons (fun h => h) ?_ | refine allT_cons (fun h => andl h) ?_ | refine allT_cons (fun h => andl (andl h)) ?_ | refine allT_cons (fun _ => rfl) ?_) (by repeat first | exact allT_nil | refine allT_cons (fun h => h) ?_ | refine allT_cons (fun h => andl h) ?_ | refine allT_cons (fun h => andl (andl h)) ?_ | refine allT_cons (fun _ => rfl) ?_) ?_
  refine S.pickOr tOk zOk rfl rfl (by repeat first | exact allT_nil | refine allT_cons (fun h => h) ?_ | refine allT_cons (fun h => andl h) ?_ | refine allT_cons (fun h => andl (andl h)) ?_ | refine allT_cons (fun _ => rfl) ?_) ?_
  refine thenK_n ?_
  refine W.cond rfl (fun c1 => ?_) (fun c1 => ?_)
  · skip
    refine W.seq ?_
    refine W.region ?_
    refine S.pure tOk zOk rfl rfl rfl ?_
    refine S.store tOk rfl rfl rfl rfl rfl rfl rfl rfl ?_
    refine S.pure tOk zOk rfl rfl rfl ?_
    refine thenK_n ?_
    refine W.ret ?_
    refine thenK_r ?_
    exact ⟨_, rfl, rfl, LeV.of_force rfl (by simp_all [parseW, verV, Ver.z])⟩
  · skip
    have h3 : ws.length = 3 := by simp at c1; omega
    obtain ⟨p, q, r, rfl⟩ := three h3
    refine W.skip ?_
    refine thenK_n ?_
    refine W.seq ?_
    refine W.region ?_
    refine S.alloc tOk rfl rfl rfl rfl ?_
    refine thenK_n ?_
    refine W.seq ?_
    refine W.seq ?_
    refine W.region ?_
    refine S.pure tOk zOk rfl rfl rfl ?_
    refine S.pure tOk zOk rfl rfl rfl ?_
    refine S.pure tOk zOk rfl rfl rfl ?_
    refine thenK_n ?_
    refine W.block ?_
    refine W.rounds 4 ?_
    refine WR.succ ?_
    refine W.seq ?_
    refine W.region ?_
    refine S.pure tOk zOk rfl rfl rfl ?_
    refine thenK_n ?_
    refine W.seq ?_
    refine W.condT rfl rfl ?_
    refine W.skip ?_
    refine thenK_n ?_
    refine W.seq ?_
    refine W.block ?_
    refine W.seq ?_
    refine W.region ?_
    refine S.pure tOk zOk rfl rfl rfl ?_
    refine S.pure tOk zOk rfl (by first | rfl | exact idx_ok (by omega) (by omega)) rfl ?_
    refine S.pure tOk zOk rfl rfl rfl ?_
    refine S.pure tOk zOk rfl rfl rfl ?_
    refine S.pure tOk zOk rfl rfl rfl ?_
    refine thenK_n ?_
    refine W.seq ?_
    refine W.region ?_
    refine S.pure tOk zOk rfl rfl rfl ?_
    refine S.call rfl rfl rfl rfl rfl (pc_ver_number _ (by first | (have := hm 0; simp at this; omega) | (have := hm 1; simp at this; omega) | (have := hm 2; simp at this; omega))) ?_
    refine S.pure tOk zOk rfl rfl rfl ?_
    refine S.pure tOk zOk rfl rfl rfl ?_
    refine S.pure tOk zOk rfl rfl rfl ?_
    refine S.pure tOk zOk rfl rfl rfl ?_
    refine S.pure tOk zOk rfl rfl rfl ?_
    refine thenK_n ?_
    refine W.seq ?_
    refine W.seq ?_
    refine W.region ?_
    refine S.pure tOk zOk rfl rfl rfl ?_
    refine S.pure tOk zOk rfl rfl rfl ?_
    refine thenK_n ?_
    refine W.cond rfl (fun c3 => ?_) (fun c3 => ?_)
    · skip
      refine W.seq ?_
      refine W.region ?_
      refine S.pure tOk zOk rfl rfl rfl ?_
      refine S.store tOk rfl rfl rfl rfl rfl rfl rfl rfl ?_
      refine S.pure tOk zOk rfl rfl rfl ?_
      refine thenK_n ?_
      refine W.ret ?_
      refine thenK_r ?_
      refine blockK_r ?_
      refine thenK_r ?_
      refine thenK_r ?_
      refine blockK_r ?_
      refine thenK_r ?_
      exact ⟨_, rfl, rfl, LeV.of_force rfl (by rw [parse_ok c1]; clear c1; simp_all [threeB, verV, Ver.z, Ver.check])⟩
    · skip
      refine W.skip ?_
      refine thenK_n ?_
      refine W.region ?_
      refine S.pure tOk zOk rfl rfl rfl ?_
      refine S.pure tOk zOk rfl rfl rfl ?_
      refine S.pure tOk zOk rfl (by first | rfl | exact idx_ok (by omega) (by omega)) rfl ?_
      refine S.store tOk rfl rfl rfl rfl rfl rfl rfl rfl ?_
      refine blockK_n ?_
      refine thenK_n ?_
      refine W.region ?_
      refine S.pure tOk zOk rfl rfl rfl ?_
      refine S.pure tOk zOk rfl rfl rfl ?_
      refine thenK_n ?_
      refine WR.succ ?_
      refine W.seq ?_
      refine W.region ?_
      refine S.pure tOk zOk rfl rfl rfl ?_
      refine thenK_n ?_
      refine W.seq ?_
      refine W.condT rfl rfl ?_
      refine W.skip ?_
      refine thenK_n ?_
      refine W.seq ?_
      refine W.block ?_
      refine W.seq ?_
      refine W.region ?_
      refine S.pure tOk zOk rfl rfl rfl ?_
      refine S.pure tOk zOk rfl (by first | rfl | exact idx_ok (by omega) (by omega)) rfl ?_
      refine S.pure tOk zOk rfl rfl rfl ?_
      refine S.pure tOk zOk rfl rfl rfl ?_
      refine S.pure tOk zOk rfl rfl rfl ?_
      refine thenK_n ?_
      refine W.seq ?_
      refine W.region ?_
      refine S.pure tOk zOk rfl rfl rfl ?_
      refine S.call rfl rfl rfl rfl rfl (pc_ver_number _ (by first | (have := hm 0; simp at this; omega) | (have := hm 1; simp at this; omega) | (have := hm 2; simp at this; omega))) ?_
      refine S.pure tOk zOk rfl rfl rfl ?_
      refine S.pure tOk zOk rfl rfl rfl ?_
      refine S.pure tOk zOk rfl rfl rfl ?_
      refine S.pure tOk zOk rfl rfl rfl ?_
      refine S.pure tOk zOk rfl rfl rfl ?_
      refine thenK_n ?_
      refine W.seq ?_
      refine W.seq ?_
      refine W.region ?_
      refine S.pure tOk zOk rfl rfl rfl ?_
      refine S.pure tOk zOk rfl rfl rfl ?_
      refine thenK_n ?_
      refine W.cond rfl (fun c5 => ?_) (fun c5 => ?_)
      · skip
        refine W.seq ?_
        refine W.region ?_
        refine S.pure tOk zOk rfl rfl rfl ?_
        refine S.store tOk rfl rfl rfl rfl rfl rfl rfl rfl ?_
        refine S.pure tOk zOk rfl rfl rfl ?_
        refine thenK_n ?_
        refine W.ret ?_
        refine thenK_r ?_
        refine blockK_r ?_
        refine thenK_r ?_
        refine thenK_r ?_
        refine blockK_r ?_
        refine thenK_r ?_
        exact ⟨_, rfl, rfl, LeV.of_force rfl (by rw [parse_ok c1]; clear c1; simp_all [threeB, verV, Ver.z, Ver.check])⟩
      · skip
        refine W.skip ?_
        refine thenK_n ?_
        refine W.region ?_
        refine S.pure tOk zOk rfl rfl rfl ?_
        refine S.pure tOk zOk rfl rfl rfl ?_
        refine S.pure tOk zOk rfl (by first | rfl | exact idx_ok (by omega) (by omega)) rfl ?_
        refine S.store tOk rfl rfl rfl rfl rfl rfl rfl rfl ?_
        refine blockK_n ?_
        refine thenK_n ?_
        refine W.region ?_
        refine S.pure tOk zOk rfl rfl rfl ?_
        refine S.pure tOk zOk rfl rfl rfl ?_
        refine thenK_n ?_
        refine WR.succ ?_
        refine W.seq ?_
        refine W.region ?_
        refine S.pure tOk zOk rfl rfl rfl ?_
        refine thenK_n ?_
        refine W.seq ?_
        refine W.condT rfl rfl ?_
        refine W.skip ?_
        refine thenK_n ?_
        refine W.seq ?_
        refine W.block ?_
        refine W.seq ?_
        refine W.region ?_
        refine S.pure tOk zOk rfl rfl rfl ?_
        refine S.pure tOk zOk rfl (by first | rfl | exact idx_ok (by omega) (by omega)) rfl ?_
        refine S.pure tOk zOk rfl rfl rfl ?_
        refine S.pure tOk zOk rfl rfl rfl ?_
        refine S.pure tOk zOk rfl rfl rfl ?_
        refine thenK_n ?_
        refine W.seq ?_
        refine W.region ?_
        refine S.pure tOk zOk rfl rfl rfl ?_
        refine S.call rfl rfl rfl rfl rfl (pc_ver_number _ (by first | (have := hm 0; simp at this; omega) | (have := hm 1; simp at this; omega) | (have := hm 2; simp at this; omega))) ?_
        refine S.pure tOk zOk rfl rfl rfl ?_
        refine S.pure tOk zOk rfl rfl rfl ?_
        refine S.pure tOk zOk rfl rfl rfl ?_
        refine S.pure tOk zOk rfl rfl rfl ?_
        refine S.pure tOk zOk rfl rfl rfl ?_
        refine thenK_n ?_
        refine W.seq ?_
        refine W.seq ?_
        refine W.region ?_
        refine S.pure tOk zOk rfl rfl rfl ?_
        refine S.pure tOk zOk rfl rfl rfl ?_
        refine thenK_n ?_
        refine W.cond rfl (fun c7 => ?_) (fun c7 => ?_)
        · skip
          refine W.seq ?_
          refine W.region ?_
          refine S.pure tOk zOk rfl rfl rfl ?_
          refine S.store tOk rfl rfl rfl rfl rfl rfl rfl rfl ?_
          refine S.pure tOk zOk rfl rfl rfl ?_
          refine thenK_n ?_
          refine W.ret ?_
          refine thenK_r ?_
          refine blockK_r ?_
          refine thenK_r ?_
          refine thenK_r ?_
          refine blockK_r ?_
          refine thenK_r ?_
          exact ⟨_, rfl, rfl, LeV.of_force rfl (by rw [parse_ok c1]; clear c1; simp_all [threeB, verV, Ver.z, Ver.check])⟩
        · skip
          refine W.skip ?_
          refine thenK_n ?_
          refine W.region ?_
          refine S.pure tOk zOk rfl rfl rfl ?_
          refine S.pure tOk zOk rfl rfl rfl ?_
          refine S.pure tOk zOk rfl (by first | rfl | exact idx_ok (by omega) (by omega)) rfl ?_
          refine S.store tOk rfl rfl rfl rfl rfl rfl rfl rfl ?_
          refine blockK_n ?_
          refine thenK_n ?_
          refine W.region ?_
          refine S.pure tOk zOk rfl rfl rfl ?_
          refine S.pure tOk zOk rfl rfl rfl ?_
          refine thenK_n ?_
          refine WR.succ ?_
          refine W.seq ?_
          refine W.region ?_
          refine S.pure tOk zOk rfl rfl rfl ?_
          refine thenK_n ?_
          refine W.seq ?_
          refine W.condF rfl rfl ?_
          refine W.exit ?_
          refine thenK_e ?_
          refine thenK_e ?_
          refine blockK_x ?_
          refine thenK_n ?_
          refine W.seq ?_
          refine W.region ?_
          refine S.pure tOk zOk rfl (by first | rfl | exact idx_ok (by omega) (by omega)) rfl ?_
          refine S.pure tOk zOk rfl rfl rfl ?_
          refine S.pure tOk zOk rfl (by first | rfl | exact idx_ok (by omega) (by omega)) rfl ?_
          refine S.pure tOk zOk rfl rfl rfl ?_
          refine S.pure tOk zOk rfl (by first | rfl | exact idx_ok (by omega) (by omega)) rfl ?_
          refine S.pure tOk zOk rfl rfl rfl ?_
          refine S.pure tOk zOk rfl rfl rfl ?_
          refine S.pure tOk zOk rfl rfl rfl ?_
          refine S.alloc tOk rfl rfl rfl rfl ?_
          refine S.store tOk rfl rfl rfl rfl rfl rfl rfl rfl ?_
          refine thenK_n ?_
          refine W.seq ?_
          refine W.seq ?_
          refine W.region ?_
          refine S.pure tOk zOk rfl rfl rfl ?_
          refine S.call rfl rfl rfl rfl rfl (pc_ver_Check ⟨(numB p).1, (numB q).1, (numB r).1, (Lib.cut s [45]).2.1⟩ (by show (Lib.cut s [45]).2.1.length < _; omega)) ?_
          refine S.pure tOk zOk rfl rfl rfl ?_
          refine thenK_n ?_
          refine W.seq ?_
          refine W.region ?_
          refine S.pure tOk zOk rfl rfl rfl ?_
          refine S.pure tOk zOk rfl rfl rfl ?_
          refine thenK_n ?_
          refine W.cond rfl (fun c9 => ?_) (fun c9 => ?_)
          · skip
            refine W.seq ?_
            refine W.region ?_
            refine S.pure tOk zOk rfl rfl rfl ?_
            refine S.pure tOk zOk rfl rfl rfl ?_
            refine S.store tOk rfl rfl rfl rfl rfl rfl rfl rfl ?_
            refine S.pure tOk zOk rfl rfl rfl ?_
            refine thenK_n ?_
            refine W.ret ?_
            refine thenK_r ?_
            exact ⟨_, rfl, rfl, LeV.of_force rfl (by rw [parse_ok c1]; clear c1; simp_all [threeB, verV, Ver.z, Ver.check])⟩
          · skip
            refine W.skip ?_
            refine thenK_n ?_
            refine W.seq ?_
            refine W.region ?_
            refine S.pure tOk zOk rfl rfl rfl ?_
            refine S.store tOk rfl rfl rfl rfl rfl rfl rfl rfl ?_
            refine S.pure tOk zOk rfl rfl rfl ?_
            refine thenK_n ?_
            refine W.ret ?_
            exact ⟨_, rfl, rfl, LeV.of_force rfl (by rw [parse_ok c1]; clear c1; simp_all [threeB, verV, Ver.z, Ver.check])⟩

end Go.Proofs.YtnphejkeflngcaaGreatDoor

/- Plain words on versions, as the reference says them. -/
set_option linter.unusedVariables false
set_option linter.unusedSimpArgs false
namespace Go.Proofs.YtnphejkeflngcaaGreatDoor
open Go

theorem byte_all {p : UInt8 → Bool} (h : (List.range 256).all (fun n => p (UInt8.ofNat n)) = true) (c : UInt8) : p c = true := by
  have := List.all_eq_true.1 h c.toNat (List.mem_range.2 c.toNat_lt)
  simpa using this
def smallS : List UInt8 := [97, 98, 99, 100, 101, 102, 103, 104, 105, 106, 107, 108, 109, 110, 111, 112, 113, 114, 115, 116, 117, 118, 119, 120, 121, 122]
def digitS : List UInt8 := [48, 49, 50, 51, 52, 53, 54, 55, 56, 57]
def smallDigitS : List UInt8 := [97, 98, 99, 100, 101, 102, 103, 104, 105, 106, 107, 108, 109, 110, 111, 112, 113, 114, 115, 116, 117, 118, 119, 120, 121, 122, 48, 49, 50, 51, 52, 53, 54, 55, 56, 57]
def nameS : List UInt8 := [97, 98, 99, 100, 101, 102, 103, 104, 105, 106, 107, 108, 109, 110, 111, 112, 113, 114, 115, 116, 117, 118, 119, 120, 121, 122, 48, 49, 50, 51, 52, 53, 54, 55, 56, 57, 45, 46]
def partS : List UInt8 := [97, 98, 99, 100, 101, 102, 103, 104, 105, 106, 107, 108, 109, 110, 111, 112, 113, 114, 115, 116, 117, 118, 119, 120, 121, 122, 65, 66, 67, 68, 69, 70, 71, 72, 73, 74, 75, 76, 77, 78, 79, 80, 81, 82, 83, 84, 85, 86, 87, 88, 89, 90, 48, 49, 50, 51, 52, 53, 54, 55, 56, 57, 45, 46, 95]
theorem smallS_eq (c : UInt8) : smallS.contains c = isSmall (bI c) := by
  have := byte_all (p := fun c => smallS.contains c == isSmall (bI c)) (by decide +kernel) c
  simpa using this
theorem digitS_eq (c : UInt8) : digitS.contains c = isDigit (bI c) := by
  have := byte_all (p := fun c => digitS.contains c == isDigit (bI c)) (by decide +kernel) c
  simpa using this
theorem smallDigitS_eq (c : UInt8) : smallDigitS.contains c = earlyC (bI c) := by
  have := byte_all (p := fun c => smallDigitS.contains c == earlyC (bI c)) (by decide +kernel) c
  simpa using this
theorem nameS_eq (c : UInt8) : nameS.contains c = nameC (bI c) := by
  have := byte_all (p := fun c => nameS.contains c == nameC (bI c)) (by decide +kernel) c
  simpa using this
theorem partS_eq (c : UInt8) : partS.contains c = partC' (bI c) := by
  have := byte_all (p := fun c => partS.contains c == partC' (bI c)) (by decide +kernel) c
  simpa using this

/-- 'Of': these bytes alone. -/
def ofB (s cs : List UInt8) : Bool := s.all fun c => cs.contains c
theorem ofB_small (s : List UInt8) : ofB s smallS = s.all fun c => isSmall (bI c) := by simp only [ofB, smallS_eq]
theorem ofB_digit (s : List UInt8) : ofB s digitS = s.all fun c => isDigit (bI c) := by simp only [ofB, digitS_eq]
theorem ofB_smallDigit (s : List UInt8) : ofB s smallDigitS = s.all fun c => earlyC (bI c) := by simp only [ofB, smallDigitS_eq]
theorem ofB_name (s : List UInt8) : ofB s nameS = s.all fun c => nameC (bI c) := by simp only [ofB, nameS_eq]
theorem ofB_part (s : List UInt8) : ofB s partS = s.all fun c => partC' (bI c) := by simp only [ofB, partS_eq]

theorem dropWhile_all {α : Type} {p : α → Bool} : ∀ {l : List α}, l.all p = true → l.dropWhile p = []
  | [], _ => rfl
  | a :: l, h => by
    simp only [List.all_cons, Bool.and_eq_true] at h
    simp only [List.dropWhile_cons, h.1, if_true]
    exact dropWhile_all h.2
theorem trim_ofB (s cs : List UInt8) (h : ofB s cs = true) : Lib.trimS s cs = [] := by
  unfold Lib.trimS Lib.trimLeftS Lib.trimRightS
  have h1 : (s.all fun c => cs.contains c) = true := h
  have h2 : (s.reverse.all fun c => cs.contains c) = true := by simpa using h1
  show ((s.reverse.dropWhile (fun c => cs.contains c)).reverse).dropWhile (fun c => cs.contains c) = []
  rw [dropWhile_all h2]; rfl
theorem of_eq (s cs : List UInt8) : (Lib.trimS s cs == [] && ofB s cs) = ofB s cs := by
  cases h : ofB s cs with
  | false => simp
  | true => simp [trim_ofB s cs h]
theorem indexByte_neg (l : List UInt8) (c : UInt8) : decide (Lib.indexByte l c < 0) = !(l.contains c) := by
  induction l with
  | nil => simp [Lib.indexByte]
  | cons a l ih =>
    unfold Lib.indexByte
    by_cases h : a = c
    · subst h; simp
    · have h' : ¬ c = a := fun e => h e.symm
      have hge := Lib.indexByte_ge l c
      simp only [beq_iff_eq, h, if_false, List.contains_cons, h', beq_eq_false_iff_ne.2 h', Bool.false_or]
      rw [← ih]
      split
      · rename_i hm; simp [hm]
      · rename_i hm; simp only [decide_eq_decide]; omega

def inB (n l h : Int) : Bool := decide (n ≥ l) && decide (n ≤ h)
theorem inB_eq (n l h : Int) : inB n l h = !outsideB n l h := by
  unfold inB outsideB
  by_cases h1 : n < l <;> by_cases h2 : n > h <;> simp_all <;> omega

theorem nameR (s : List UInt8) : (((!(s == []) && decide ((s.length : Int) ≤ 40)) && ofB s nameS) && ofB (s.take 1) smallS) = nameB s := by
  rw [ofB_name, ofB_small, nameB, eachB]
  cases s with
  | nil => simp
  | cons a l => simp [Bool.and_assoc, Bool.and_comm, Bool.and_left_comm]
theorem partR (p : List UInt8) : ((((p == [] || p == [46]) || p == [46, 46]) || decide ((p.length : Int) > 40)) || !ofB p partS) = !partB p := by
  rw [ofB_part, partB, eachB]
  have : decide ((p.length : Int) > 40) = !decide ((p.length : Int) ≤ 40) := by by_cases h : (p.length : Int) ≤ 40 <;> simp [h] <;> omega
  rw [this]
  cases (p == []) <;> cases (p == [46]) <;> cases (p == [46, 46]) <;> cases decide ((p.length : Int) ≤ 40) <;> cases (p.all fun c => partC' (bI c)) <;> rfl
theorem lead0 (s : List UInt8) (hs : s ≠ []) : (decide ((s.length : Int) > 1) && bI (s.getD 0 0) == 48) = (bI (s.getD 0 0) == 48 && !(s == [48])) := by
  match s, hs with
  | [a], _ =>
    by_cases h : a = 48
    · subst h; decide
    · have : bI a ≠ 48 := fun e => h (UInt8.toNat_inj.1 (by unfold bI at e; show a.toNat = 48; omega))
      simp [this]
  | a :: b :: l, _ => simp; intro _; omega
def numR (s : List UInt8) (m : Int) : Int × Bool :=
  if (((s == [] || decide ((s.length : Int) > m)) || !ofB s digitS) || (decide ((s.length : Int) > 1) && bI (s.getD 0 0) == 48)) then (0, false) else (atoiV s, atoiOk s)
theorem numR_eq (s : List UInt8) : numR s 9 = numB s := by
  unfold numR numB
  rw [ofB_digit, eachB]
  have : decide ((s.length : Int) > 9) = !decide ((s.length : Int) ≤ 9) := by by_cases h : (s.length : Int) ≤ 9 <;> simp [h] <;> omega
  rw [this]
  cases hs : (s == []) with
  | true => simp
  | false =>
    rw [lead0 s (by simpa using hs)]
    cases decide ((s.length : Int) ≤ 9) <;> cases (s.all fun c => isDigit (bI c)) <;> rfl
theorem wordR (w : List UInt8) : ((((w == [] || decide ((w.length : Int) > 10)) || !ofB w smallDigitS)) || ((ofB w digitS && decide ((w.length : Int) > 1)) && bI (w.getD 0 0) == 48)) = !wordB w := by
  rw [ofB_smallDigit, ofB_digit, wordB, numeralB, eachB, eachB]
  have : decide ((w.length : Int) > 10) = !decide ((w.length : Int) ≤ 10) := by by_cases h : (w.length : Int) ≤ 10 <;> simp [h] <;> omega
  rw [this]
  cases hs : (w == []) with
  | true => simp
  | false =>
    rw [Bool.and_assoc, lead0 w (by simpa using hs)]
    cases decide ((w.length : Int) ≤ 10) <;> cases (w.all fun c => isDigit (bI c)) <;> cases (w.all fun c => earlyC (bI c)) <;> simp
theorem valueR (s : List UInt8) : (s.all (fun c => !(decide (bI c < 32) || decide (bI c > 126))) && decide ((s.length : Int) ≤ 1000)) = valueB s := by
  have : (fun c : UInt8 => !(decide (bI c < 32) || decide (bI c > 126))) = fun c => valueC (bI c) := by
    funext c; unfold valueC
    by_cases h1 : bI c < 32 <;> by_cases h2 : bI c > 126 <;> simp [h1, h2] <;> omega
  rw [this, valueB, eachB]
  cases s <;> simp
theorem checkB_nil (x y z : Int) (h : checkB x y z [] ≠ 0) : checkB x y z [] = 3 := by
  unfold checkB at h ⊢
  split
  · rfl
  · rename_i h1; rw [if_neg h1] at h; simp at h
def cwR (p q : List UInt8) : Int :=
  if ofB p digitS && ofB q digitS then Lib.compareInt (atoiV p) (atoiV q) else if ofB p digitS then -1 else if ofB q digitS then 1 else Lib.compareBytes p q
def rowsR (xs ys : List (List UInt8)) : Int := if firstNe (List.zipWith cwR xs ys) != 0 then firstNe (List.zipWith cwR xs ys) else Lib.compareInt xs.length ys.length
def min1 (x : Int) : Int := if x < 1 then x else 1
def compareR (v w : Ver) : Int :=
  if firstNe [Lib.compareInt v.a w.a, Lib.compareInt v.b w.b, Lib.compareInt v.c w.c] != 0 then firstNe [Lib.compareInt v.a w.a, Lib.compareInt v.b w.b, Lib.compareInt v.c w.c]
  else if v.e == [] || w.e == [] then Lib.compareInt (min1 w.e.length) (min1 v.e.length) else rowsR (Lib.split v.e [46]) (Lib.split w.e [46])

theorem in_t {l : List UInt8} {c : UInt8} (h : decide (Lib.indexByte l ((c.toNat : Int).toNat.toUInt8) < 0) = false) : l.contains c = true := by
  have h1 := indexByte_neg l c
  have h2 : (c.toNat : Int).toNat.toUInt8 = c := by simp
  rw [h2, h1] at h
  simpa using h
theorem in_f {l : List UInt8} {c : UInt8} (h : decide (Lib.indexByte l ((c.toNat : Int).toNat.toUInt8) < 0) = true) : l.contains c = false := by
  have h1 := indexByte_neg l c
  have h2 : (c.toNat : Int).toNat.toUInt8 = c := by simp
  rw [h2, h1] at h
  simpa using h
theorem name_len {s : List UInt8} {a b : Bool} (h : ((!(s == []) && a) && b) = true) : (1 : Int) ≤ (s.length : Int) := by
  cases s with
  | nil => simp at h
  | cons x l => simp only [List.length_cons]; omega
theorem gt1 {s : List UInt8} (h : decide ((s.length : Int) > 1) = true) : (0 : Int) < (s.length : Int) := by
  have := of_decide_eq_true h; omega
theorem path_t {p : List UInt8} (h : ((((p == [] || p == [46]) || p == [46, 46]) || decide ((p.length : Int) > 40)) || !ofB p partS) = false) : partB p = true := by
  rw [partR] at h; simpa using h
theorem path_f {p : List UInt8} (h : ((((p == [] || p == [46]) || p == [46, 46]) || decide ((p.length : Int) > 40)) || !ofB p partS) = true) : partB p = false := by
  rw [partR] at h; simpa using h
theorem word_t' {w : List UInt8} (h : ((((w == [] || decide ((w.length : Int) > 10)) || !ofB w smallDigitS)) || ((ofB w digitS && decide ((w.length : Int) > 1)) && bI (w.getD 0 0) == 48)) = false) : wordB w = true := by
  rw [wordR] at h; simpa using h
theorem word_f' {w : List UInt8} (h : ((((w == [] || decide ((w.length : Int) > 10)) || !ofB w smallDigitS)) || ((ofB w digitS && decide ((w.length : Int) > 1)) && bI (w.getD 0 0) == 48)) = true) : wordB w = false := by
  rw [wordR] at h; simpa using h
theorem not_le_of {x y : Int} {b : Bool} (h : decide (x > y) = true) : (decide (x ≤ y) && b) = false := by
  have := of_decide_eq_true h
  rw [decide_eq_false (by omega)]; rfl
theorem le_of {x y : Int} (h : decide (x > y) = false) : decide (x ≤ y) = true := by
  have := of_decide_eq_false h
  exact decide_eq_true (by omega)
theorem not_t {a : Bool} (h : a = true) : (!a) = false := by rw [h]; rfl
theorem not_f {a : Bool} (h : a = false) : (!a) = true := by rw [h]; rfl
end Go.Proofs.YtnphejkeflngcaaGreatDoor

set_option linter.unusedVariables false
set_option linter.unusedSimpArgs false
set_option maxRecDepth 100000
set_option maxHeartbeats 4000000
namespace Go.Proofs.YtnphejkeflngcaaGreatDoor
open Go
open Go.RowKit

theorem pc_outref2_In (n l h : Int) :
    PureCall Tryz.prog J 65 [.one (.d (.int .i64 n)), .one (.d (.int .i64 l)), .one (.d (.int .i64 h))] (.one (.d (.bool (inB n l h)))) := by
  refine PureCall.of_body tOk (fn := Tryz.f65) Tryz.func65 (by kernel_rfl) rfl (Nat.le_of_ble_eq_true rfl) (fun E => ?_)
  refine W.seq ?_
  refine W.region ?_
  refine S.pure tOk zOk rfl rfl rfl ?_
  refine thenK_n ?_
  refine W.seq ?_
  refine W.region ?_
  refine S.pure tOk zOk rfl rfl rfl ?_
  refine S.pure tOk zOk rfl rfl rfl ?_
  refine S.pure tOk zOk rfl rfl rfl ?_
  refine S.pure tOk zOk rfl rfl rfl ?_
  refine S.pureG tOk zOk rfl rfl (by repeat first | exact allT_nil | refine allT_cons (fun h => h) ?_ | refine allT_cons (fun h => andl h) ?_ | refine allT_cons (fun h => andl (andl h)) ?_ | refine allT_cons (fun _ => rfl) ?_) (fun _ => rfl) rfl ?_
  refine S.pureG tOk zOk rfl rfl (by repeat first | exact allT_nil | refine allT_cons (fun h => h) ?_ | refine allT_cons (fun h => andl h) ?_ | refine allT_cons (fun h => andl (andl h)) ?_ | refine allT_cons (fun _ => rfl) ?_) (fun _ => rfl) rfl ?_
  refine S.pureG tOk zOk rfl rfl (by repeat first | exact allT_nil | refine allT_cons (fun h => h) ?_ | refine allT_cons (fun h => andl h) ?_ | refine allT_cons (fun h => andl (andl h)) ?_ | refine allT_cons (fun _ => rfl) ?_) (fun _ => rfl) rfl ?_
  refine S.pickAnd tOk zOk rfl rfl (by repeat first | exact allT_nil | refine allT_cons (fun h => h) ?_ | refine allT_cons (fun h => andl h) ?_ | refine allT_cons (fun h => andl (andl h)) ?_ | refine allT_cons (fun _ => rfl) ?_) ?_
  refine S.pure tOk zOk rfl rfl rfl ?_
  refine thenK_n ?_
  refine W.ret ?_
  exact ⟨_, rfl, rfl, LeV.refl _⟩

theorem pc_outref2_When (b : Bool) (e : Int) :
    PureCall Tryz.prog J 28 [.one (.d (.bool b)), .one (.d (.int .i64 e))] (.one (.d (.int .i64 (if b then e else 0)))) := by
  refine PureCall.of_body tOk (fn := Tryz.f28) Tryz.func28 (by kernel_rfl) rfl (Nat.le_of_ble_eq_true rfl) (fun E => ?_)
  refine W.seq ?_
  refine W.region ?_
  refine S.pure tOk zOk rfl rfl rfl ?_
  refine thenK_n ?_
  refine W.seq ?_
  refine W.seq ?_
  refine W.region ?_
  refine S.pure tOk zOk rfl rfl rfl ?_
  refine thenK_n ?_
  refine W.cond rfl (fun c1 => ?_) (fun c1 => ?_)
  · skip
    refine W.seq ?_
    refine W.region ?_
    refine S.pure tOk zOk rfl rfl rfl ?_
    refine S.pure tOk zOk rfl rfl rfl ?_
    refine thenK_n ?_
    refine W.ret ?_
    refine thenK_r ?_
    exact ⟨_, rfl, rfl, LeV.of_force rfl (by simp_all [])⟩
  · skip
    refine W.skip ?_
    refine thenK_n ?_
    refine W.seq ?_
    refine W.region ?_
    refine S.pure tOk zOk rfl rfl rfl ?_
    refine thenK_n ?_
    refine W.ret ?_
    exact ⟨_, rfl, rfl, LeV.of_force rfl (by simp_all [])⟩

theorem pc_outref2_First (xs : List Int) (hl : xs.length ≤ 1000000) :
    PureCall Tryz.prog J 19 [.one (.d (.vec 1 (xs.map fun x => [.int .i64 x])))] (.one (.d (.int .i64 (firstNe xs)))) := by
  refine PureCall.of_body tOk (fn := Tryz.f19) Tryz.func19 (by kernel_rfl) rfl (Nat.le_of_ble_eq_true rfl) (fun E => ?_)
  refine W.seq ?_
  refine W.region ?_
  refine S.pure tOk zOk rfl rfl rfl ?_
  refine thenK_n ?_
  refine W.seq ?_
  refine W.seq ?_
  refine W.region ?_
  refine S.pure tOk zOk rfl rfl rfl ?_
  refine S.pure tOk zOk rfl rfl rfl ?_
  refine S.pure tOk zOk rfl rfl rfl ?_
  refine thenK_n ?_
  refine W.block ?_
  refine W.loop (fun k st => ∃ i : Nat, i ≤ xs.length ∧ (xs.take i).all (· == 0) = true ∧ k = xs.length - i ∧ ∃ t b2 r2 m2, st = ⟨t, [] ++ b2, [] ++ r2, [] ++ m2⟩ ∧ holdsL t [(5, .one (.d (.vec 1 (xs.map fun x => [.int .i64 x])))), (6, .one (.d (.int .i64 ((xs.map fun x => ([.int .i64 x] : List D)).length : Int)))), (7, .one (.d (.int .i64 (i : Int))))]) (xs.length) ⟨0, Nat.zero_le _, by simp, rfl, _, _, _, _, rfl, rfl, rfl, rfl, trivial⟩ ?_
  rintro k0 _ ⟨i, f0_0, f0_1, rfl, t0, bb0, rr0, mm0, rfl, hh0⟩
  refine W.keepR _ _ _ _ _ _ _ hh0 rfl ?_
  refine W.seq ?_
  refine W.region ?_
  refine S.pure tOk zOk rfl rfl rfl ?_
  refine thenK_n ?_
  refine W.seq ?_
  refine W.cond rfl (fun c1 => ?_) (fun c1 => ?_)
  · skip
    have hi := row_lt c1
    refine W.skip ?_
    refine thenK_n ?_
    refine W.seq ?_
    refine W.block ?_
    refine W.seq ?_
    refine W.region ?_
    refine S.pureE tOk zOk rfl (row_ok hi) (row_at 0 hi) rfl ?_
    refine S.pure tOk zOk rfl rfl rfl ?_
    refine S.pure tOk zOk rfl rfl rfl ?_
    refine thenK_n ?_
    refine W.seq ?_
    refine W.region ?_
    refine S.pure tOk zOk rfl rfl rfl ?_
    refine S.pure tOk zOk rfl rfl rfl ?_
    refine thenK_n ?_
    refine W.cond rfl (fun c2 => ?_) (fun c2 => ?_)
    · skip
      refine W.seq ?_
      refine W.region ?_
      refine S.pure tOk zOk rfl rfl rfl ?_
      refine S.pure tOk zOk rfl rfl rfl ?_
      refine thenK_n ?_
      refine W.ret ?_
      refine blockK_r ?_
      refine thenK_r ?_
      refine thenK_r ?_
      refine blockK_r ?_
      refine thenK_r ?_
      exact ⟨_, rfl, rfl, LeV.of_force rfl (by rw [firstNe_hit hi f0_1 (by simpa using c2)])⟩
    · skip
      refine W.skip ?_
      refine blockK_n ?_
      refine thenK_n ?_
      refine W.region ?_
      refine S.pure tOk zOk rfl rfl rfl ?_
      refine S.pure tOk zOk rfl rfl rfl ?_
      refine loop_n (xs.length - (i + 1)) (by omega) ⟨i + 1, hi, all_take_succ (d := 0) hi f0_1 (by simpa using c2), rfl, _, _, _, _, rfl, rfl, rfl, inc_i64 (by omega), trivial⟩
  · skip
    have hi := row_ge c1
    refine W.exit ?_
    refine thenK_e ?_
    refine thenK_e ?_
    refine blockK_x ?_
    refine thenK_n ?_
    refine W.seq ?_
    refine W.region ?_
    refine S.pure tOk zOk rfl rfl rfl ?_
    refine thenK_n ?_
    refine W.ret ?_
    exact ⟨_, rfl, rfl, LeV.of_force rfl (by rw [firstNe_none hi f0_1]; rfl)⟩

theorem pc_outref2_inner (s cs : List UInt8) (hs : s.length < 4294967281) :
    PureCall Tryz.prog J 146 [.one (.d (.str s)), .one (.d (.str cs))] (.one (.d (.bool (ofB s cs)))) := by
  refine PureCall.of_body tOk (fn := Tryz.f146) Tryz.func146 (by kernel_rfl) rfl (Nat.le_of_ble_eq_true rfl) (fun E => ?_)
  refine W.seq ?_
  refine W.region ?_
  refine S.pure tOk zOk rfl rfl rfl ?_
  refine thenK_n ?_
  refine W.seq ?_
  refine W.seq ?_
  refine W.region ?_
  refine S.pure tOk zOk rfl rfl rfl ?_
  refine S.pure tOk zOk rfl rfl rfl ?_
  refine S.pure tOk zOk rfl rfl rfl ?_
  refine thenK_n ?_
  refine W.block ?_
  refine W.loop (fun k st => ∃ i : Nat, i ≤ s.length ∧ (s.take i).all (fun c => cs.contains c) = true ∧ k = s.length - i ∧ ∃ t b2 r2 m2, st = ⟨t, [] ++ b2, [] ++ r2, [] ++ m2⟩ ∧ holdsL t [(0, .one (.d (.str s))), (1, .one (.d (.str cs))), (7, .one (.d (.int .i64 (s.length : Int)))), (8, .one (.d (.int .i64 (i : Int))))]) (s.length) ⟨0, Nat.zero_le _, by simp, rfl, _, _, _, _, rfl, rfl, rfl, rfl, rfl, trivial⟩ ?_
  rintro k0 _ ⟨i, f0_0, f0_1, rfl, t0, bb0, rr0, mm0, rfl, hh0⟩
  refine W.keepR _ _ _ _ _ _ _ hh0 rfl ?_
  refine W.seq ?_
  refine W.region ?_
  refine S.pure tOk zOk rfl rfl rfl ?_
  refine thenK_n ?_
  refine W.seq ?_
  refine W.cond rfl (fun c1 => ?_) (fun c1 => ?_)
  · skip
    have hi : i < s.length := by simpa using c1
    refine W.skip ?_
    refine thenK_n ?_
    refine W.seq ?_
    refine W.block ?_
    refine W.seq ?_
    refine W.region ?_
    refine S.pure tOk zOk rfl rfl rfl ?_
    refine S.pure tOk zOk rfl rfl rfl ?_
    refine thenK_n ?_
    refine W.seq ?_
    refine W.region ?_
    refine S.pure tOk zOk rfl rfl rfl ?_
    refine S.pure tOk zOk rfl rfl rfl ?_
    refine S.pure tOk zOk rfl rfl rfl ?_
    refine S.pure tOk zOk rfl (str_ok hi) rfl ?_
    refine S.call rfl rfl rfl rfl rfl (pc_IndexByte _ _) ?_
    refine S.pure tOk zOk rfl rfl rfl ?_
    refine thenK_n ?_
    refine W.cond rfl (fun c2 => ?_) (fun c2 => ?_)
    · skip
      refine W.seq ?_
      refine W.region ?_
      refine S.pure tOk zOk rfl rfl rfl ?_
      refine thenK_n ?_
      refine W.ret ?_
      refine blockK_r ?_
      refine thenK_r ?_
      refine thenK_r ?_
      refine blockK_r ?_
      refine thenK_r ?_
      exact ⟨_, rfl, rfl, LeV.of_force rfl (by rw [ofB, all_false_of (d := 0) hi (in_f c2)]; rfl)⟩
    · skip
      refine W.skip ?_
      refine blockK_n ?_
      refine thenK_n ?_
      refine W.region ?_
      refine S.pure tOk zOk rfl rfl rfl ?_
      refine S.pure tOk zOk rfl rfl rfl ?_
      refine loop_n (s.length - (i + 1)) (by omega) ⟨i + 1, by omega, all_take_succ (d := 0) (φ := fun c => cs.contains c) hi f0_1 (in_t c2), rfl, _, _, _, _, rfl, rfl, rfl, rfl, inc_i64 (by omega), trivial⟩
  · skip
    have hi : s.length ≤ i := by simpa using c1
    refine W.exit ?_
    refine thenK_e ?_
    refine thenK_e ?_
    refine blockK_x ?_
    refine thenK_n ?_
    refine W.seq ?_
    refine W.region ?_
    refine S.pure tOk zOk rfl rfl rfl ?_
    refine thenK_n ?_
    refine W.ret ?_
    exact ⟨_, rfl, rfl, LeV.of_force rfl (by rw [ofB, all_of_take hi f0_1]; rfl)⟩

theorem pc_outref2_Of (s cs : List UInt8) (hcs : cs.length < 4294967281) (ha : cs.all (fun b => decide (b.toNat < 128)) = true) (hs : s.length < 4294967281) :
    PureCall Tryz.prog J 66 [.one (.d (.str s)), .one (.d (.str cs))] (.one (.d (.bool (ofB s cs)))) := by
  refine PureCall.of_body tOk (fn := Tryz.f66) Tryz.func66 (by kernel_rfl) rfl (Nat.le_of_ble_eq_true rfl) (fun E => ?_)
  refine W.seq ?_
  refine W.region ?_
  refine S.pure tOk zOk rfl rfl rfl ?_
  refine thenK_n ?_
  refine W.seq ?_
  refine W.region ?_
  refine S.pure tOk zOk rfl rfl rfl ?_
  refine S.pure tOk zOk rfl rfl rfl ?_
  refine S.call rfl rfl rfl rfl rfl (pc_Trim _ _ (by omega) hcs ha) ?_
  refine S.pure tOk zOk rfl rfl rfl ?_
  refine S.pure tOk zOk rfl rfl rfl ?_
  refine S.pureG tOk zOk rfl rfl (by repeat first | exact allT_nil | refine allT_cons (fun h => h) ?_ | refine allT_cons (fun h => andl h) ?_ | refine allT_cons (fun h => andl (andl h)) ?_ | refine allT_cons (fun _ => rfl) ?_) (fun _ => rfl) rfl ?_
  refine S.pureG tOk zOk rfl rfl (by repeat first | exact allT_nil | refine allT_cons (fun h => h) ?_ | refine allT_cons (fun h => andl h) ?_ | refine allT_cons (fun h => andl (andl h)) ?_ | refine allT_cons (fun _ => rfl) ?_) (fun _ => rfl) rfl ?_
  refine S.callG rfl rfl rfl rfl (by repeat first | exact allT_nil | refine allT_cons (fun h => h) ?_ | refine allT_cons (fun h => andl h) ?_ | refine allT_cons (fun h => andl (andl h)) ?_ | refine allT_cons (fun _ => rfl) ?_) rfl rfl (fun _ => pc_outref2_inner _ _ (by omega)) ?_
  refine S.pickAnd tOk zOk rfl rfl (by repeat first | exact allT_nil | refine allT_cons (fun h => h) ?_ | refine allT_cons (fun h => andl h) ?_ | refine allT_cons (fun h => andl (andl h)) ?_ | refine allT_cons (fun _ => rfl) ?_) ?_
  refine S.pure tOk zOk rfl rfl rfl ?_
  refine thenK_n ?_
  refine W.ret ?_
  exact ⟨_, rfl, rfl, LeV.of_eq (congrArg (fun b => V.one (C.d (D.bool b))) (of_eq s cs))⟩

theorem pc_outref2_NameOf (s : List UInt8) (hs : s.length < 4294967281) :
    PureCall Tryz.prog J 92 [.one (.d (.str s))] (.one (.d (.bool (nameB s)))) := by
  refine PureCall.of_body tOk (fn := Tryz.f92) Tryz.func92 (by kernel_rfl) rfl (Nat.le_of_ble_eq_true rfl) (fun E => ?_)
  refine W.seq ?_
  refine W.region ?_
  refine S.pure tOk zOk rfl rfl rfl ?_
  refine thenK_n ?_
  refine W.seq ?_
  refine W.region ?_
  refine S.pure tOk zOk rfl rfl rfl ?_
  refine S.pure tOk zOk rfl rfl rfl ?_
  refine S.pure tOk zOk rfl rfl rfl ?_
  refine S.pureG tOk zOk rfl rfl (by repeat first | exact allT_nil | refine allT_cons (fun h => h) ?_ | refine allT_cons (fun h => andl h) ?_ | refine allT_cons (fun h => andl (andl h)) ?_ | refine allT_cons (fun _ => rfl) ?_) (fun _ => rfl) rfl ?_
  refine S.pureG tOk zOk rfl rfl (by repeat first | exact allT_nil | refine allT_cons (fun h => h) ?_ | refine allT_cons (fun h => andl h) ?_ | refine allT_cons (fun h => andl (andl h)) ?_ | refine allT_cons (fun _ => rfl) ?_) (fun _ => rfl) rfl ?_
  refine S.pureG tOk zOk rfl rfl (by repeat first | exact allT_nil | refine allT_cons (fun h => h) ?_ | refine allT_cons (fun h => andl h) ?_ | refine allT_cons (fun h => andl (andl h)) ?_ | refine allT_cons (fun _ => rfl) ?_) (fun _ => rfl) rfl ?_
  refine S.pickAnd tOk zOk rfl rfl (by repeat first | exact allT_nil | refine allT_cons (fun h => h) ?_ | refine allT_cons (fun h => andl h) ?_ | refine allT_cons (fun h => andl (andl h)) ?_ | refine allT_cons (fun _ => rfl) ?_) ?_
  refine S.pure tOk zOk rfl rfl rfl ?_
  refine S.pureG tOk zOk rfl rfl (by repeat first | exact allT_nil | refine allT_cons (fun h => h) ?_ | refine allT_cons (fun h => andl h) ?_ | refine allT_cons (fun h => andl (andl h)) ?_ | refine allT_cons (fun _ => rfl) ?_) (fun _ => rfl) rfl ?_
  refine S.callG rfl rfl rfl rfl (by repeat first | exact allT_nil | refine allT_cons (fun h => h) ?_ | refine allT_cons (fun h => andl h) ?_ | refine allT_cons (fun h => andl (andl h)) ?_ | refine allT_cons (fun _ => rfl) ?_) rfl rfl (fun _ => pc_outref2_Of _ nameS (by decide) (by decide) (by omega)) ?_
  refine S.pickAnd tOk zOk rfl rfl (by repeat first | exact allT_nil | refine allT_cons (fun h => h) ?_ | refine allT_cons (fun h => andl h) ?_ | refine allT_cons (fun h => andl (andl h)) ?_ | refine allT_cons (fun _ => rfl) ?_) ?_
  refine S.pure tOk zOk rfl rfl rfl ?_
  refine S.pureG tOk zOk rfl rfl (by repeat first | exact allT_nil | refine allT_cons (fun h => h) ?_ | refine allT_cons (fun h => andl h) ?_ | refine allT_cons (fun h => andl (andl h)) ?_ | refine allT_cons (fun _ => rfl) ?_) (fun _ => rfl) rfl ?_
  refine S.pureG tOk zOk rfl rfl (by repeat first | exact allT_nil | refine allT_cons (fun h => h) ?_ | refine allT_cons (fun h => andl h) ?_ | refine allT_cons (fun h => andl (andl h)) ?_ | refine allT_cons (fun _ => rfl) ?_) (fun h => sl_okT (l := 0) (h := 1) rfl rfl (by decide) (by decide) (name_len h)) rfl ?_
  refine S.callG rfl rfl rfl rfl (by repeat first | exact allT_nil | refine allT_cons (fun h => h) ?_ | refine allT_cons (fun h => andl h) ?_ | refine allT_cons (fun h => andl (andl h)) ?_ | refine allT_cons (fun _ => rfl) ?_) rfl rfl (fun _ => pc_outref2_Of _ smallS (by decide) (by decide) (by simp; omega)) ?_
  refine S.pickAnd tOk zOk rfl rfl (by repeat first | exact allT_nil | refine allT_cons (fun h => h) ?_ | refine allT_cons (fun h => andl h) ?_ | refine allT_cons (fun h => andl (andl h)) ?_ | refine allT_cons (fun _ => rfl) ?_) ?_
  refine S.pure tOk zOk rfl rfl rfl ?_
  refine thenK_n ?_
  refine W.ret ?_
  exact ⟨_, rfl, rfl, LeV.of_force rfl (by rw [← nameR s]; rfl)⟩

theorem pc_outref2_PathOf (s : List UInt8) (hs : s.length < 4294967281) :
    PureCall Tryz.prog J 93 [.one (.d (.str s))] (.one (.d (.bool (pathB s)))) := by
  have hl := split_le s [47]
  have hm := fun i => @split_at s [47] i
  refine PureCall.of_body tOk (fn := Tryz.f93) Tryz.func93 (by kernel_rfl) rfl (Nat.le_of_ble_eq_true rfl) (fun E => ?_)
  refine W.seq ?_
  refine W.region ?_
  refine S.pure tOk zOk rfl rfl rfl ?_
  refine thenK_n ?_
  refine W.seq ?_
  refine W.seq ?_
  refine W.region ?_
  refine S.pure tOk zOk rfl rfl rfl ?_
  refine S.pure tOk zOk rfl rfl rfl ?_
  refine S.pure tOk zOk rfl rfl rfl ?_
  refine thenK_n ?_
  refine W.cond rfl (fun c1 => ?_) (fun c1 => ?_)
  · skip
    refine W.seq ?_
    refine W.region ?_
    refine S.pure tOk zOk rfl rfl rfl ?_
    refine thenK_n ?_
    refine W.ret ?_
    refine thenK_r ?_
    exact ⟨_, rfl, rfl, LeV.of_force rfl (by rw [pathB, Bool.and_comm, not_le_of c1]; rfl)⟩
  · skip
    refine W.skip ?_
    refine thenK_n ?_
    refine W.seq ?_
    refine W.seq ?_
    refine W.region ?_
    refine S.pure tOk zOk rfl rfl rfl ?_
    refine S.call rfl rfl rfl rfl rfl (pc_Split _ _ hs (by decide)) ?_
    refine S.pure tOk zOk rfl rfl rfl ?_
    refine S.pure tOk zOk rfl rfl rfl ?_
    refine thenK_n ?_
    refine W.block ?_
    refine W.loop (fun k st => ∃ i : Nat, i ≤ (Lib.split s [47]).length ∧ ((Lib.split s [47]).take i).all partB = true ∧ k = (Lib.split s [47]).length - i ∧ ∃ t b2 r2 m2, st = ⟨t, [] ++ b2, [] ++ r2, [] ++ m2⟩ ∧ holdsL t [(9, .one (.d (.vec 1 ((Lib.split s [47]).map fun x => [.str x])))), (10, .one (.d (.int .i64 (((Lib.split s [47]).map fun x => ([.str x] : List D)).length : Int)))), (11, .one (.d (.int .i64 (i : Int))))]) ((Lib.split s [47]).length) ⟨0, Nat.zero_le _, by simp, rfl, _, _, _, _, rfl, rfl, rfl, rfl, trivial⟩ ?_
    rintro k0 _ ⟨i, f0_0, f0_1, rfl, t0, bb0, rr0, mm0, rfl, hh0⟩
    refine W.keepR _ _ _ _ _ _ _ hh0 rfl ?_
    refine W.seq ?_
    refine W.region ?_
    refine S.pure tOk zOk rfl rfl rfl ?_
    refine thenK_n ?_
    refine W.seq ?_
    refine W.cond rfl (fun c2 => ?_) (fun c2 => ?_)
    · skip
      have hi := row_lt c2
      refine W.skip ?_
      refine thenK_n ?_
      refine W.seq ?_
      refine W.block ?_
      refine W.seq ?_
      refine W.region ?_
      refine S.pureE tOk zOk rfl (row_ok hi) (row_at [] hi) rfl ?_
      refine S.pure tOk zOk rfl rfl rfl ?_
      refine S.pure tOk zOk rfl rfl rfl ?_
      refine thenK_n ?_
      refine W.seq ?_
      refine W.region ?_
      refine S.pure tOk zOk rfl rfl rfl ?_
      refine S.pure tOk zOk rfl rfl rfl ?_
      refine S.pure tOk zOk rfl rfl rfl ?_
      refine S.pureG tOk zOk rfl rfl (by repeat first | exact allT_nil | refine allT_cons (fun h => h) ?_ | refine allT_cons (fun h => andl h) ?_ | refine allT_cons (fun h => andl (andl h)) ?_ | refine allT_cons (fun _ => rfl) ?_) (fun _ => rfl) rfl ?_
      refine S.pureG tOk zOk rfl rfl (by repeat first | exact allT_nil | refine allT_cons (fun h => h) ?_ | refine allT_cons (fun h => andl h) ?_ | refine allT_cons (fun h => andl (andl h)) ?_ | refine allT_cons (fun _ => rfl) ?_) (fun _ => rfl) rfl ?_
      refine S.pickOr tOk zOk rfl rfl (by repeat first | exact allT_nil | refine allT_cons (fun h => h) ?_ | refine allT_cons (fun h => andl h) ?_ | refine allT_cons (fun h => andl (andl h)) ?_ | refine allT_cons (fun _ => rfl) ?_) ?_
      refine S.pure tOk zOk rfl rfl rfl ?_
      refine S.pureG tOk zOk rfl rfl (by repeat first | exact allT_nil | refine allT_cons (fun h => h) ?_ | refine allT_cons (fun h => andl h) ?_ | refine allT_cons (fun h => andl (andl h)) ?_ | refine allT_cons (fun _ => rfl) ?_) (fun _ => rfl) rfl ?_
      refine S.pureG tOk zOk rfl rfl (by repeat first | exact allT_nil | refine allT_cons (fun h => h) ?_ | refine allT_cons (fun h => andl h) ?_ | refine allT_cons (fun h => andl (andl h)) ?_ | refine allT_cons (fun _ => rfl) ?_) (fun _ => rfl) rfl ?_
      refine S.pickOr tOk zOk rfl rfl (by repeat first | exact allT_nil | refine allT_cons (fun h => h) ?_ | refine allT_cons (fun h => andl h) ?_ | refine allT_cons (fun h => andl (andl h)) ?_ | refine allT_cons (fun _ => rfl) ?_) ?_
      refine S.pure tOk zOk rfl rfl rfl ?_
      refine S.pureG tOk zOk rfl rfl (by repeat first | exact allT_nil | refine allT_cons (fun h => h) ?_ | refine allT_cons (fun h => andl h) ?_ | refine allT_cons (fun h => andl (andl h)) ?_ | refine allT_cons (fun _ => rfl) ?_) (fun _ => rfl) rfl ?_
      refine S.pureG tOk zOk rfl rfl (by repeat first | exact allT_nil | refine allT_cons (fun h => h) ?_ | refine allT_cons (fun h => andl h) ?_ | refine allT_cons (fun h => andl (andl h)) ?_ | refine allT_cons (fun _ => rfl) ?_) (fun _ => rfl) rfl ?_
      refine S.pureG tOk zOk rfl rfl (by repeat first | exact allT_nil | refine allT_cons (fun h => h) ?_ | refine allT_cons (fun h => andl h) ?_ | refine allT_cons (fun h => andl (andl h)) ?_ | refine allT_cons (fun _ => rfl) ?_) (fun _ => rfl) rfl ?_
      refine S.pickOr tOk zOk rfl rfl (by repeat first | exact allT_nil | refine allT_cons (fun h => h) ?_ | refine allT_cons (fun h => andl h) ?_ | refine allT_cons (fun h => andl (andl h)) ?_ | refine allT_cons (fun _ => rfl) ?_) ?_
      refine S.pure tOk zOk rfl rfl rfl ?_
      refine S.pureG tOk zOk rfl rfl (by repeat first | exact allT_nil | refine allT_cons (fun h => h) ?_ | refine allT_cons (fun h => andl h) ?_ | refine allT_cons (fun h => andl (andl h)) ?_ | refine allT_cons (fun _ => rfl) ?_) (fun _ => rfl) rfl ?_
      refine S.callG rfl rfl rfl rfl (by repeat first | exact allT_nil | refine allT_cons (fun h => h) ?_ | refine allT_cons (fun h => andl h) ?_ | refine allT_cons (fun h => andl (andl h)) ?_ | refine allT_cons (fun _ => rfl) ?_) rfl rfl (fun _ => pc_outref2_Of _ partS (by decide) (by decide) (by have := hm i; omega)) ?_
      refine S.pureG tOk zOk rfl rfl (by repeat first | exact allT_nil | refine allT_cons (fun h => h) ?_ | refine allT_cons (fun h => andl h) ?_ | refine allT_cons (fun h => andl (andl h)) ?_ | refine allT_cons (fun _ => rfl) ?_) (fun _ => rfl) rfl ?_
      refine S.pickOr tOk zOk rfl rfl (by repeat first | exact allT_nil | refine allT_cons (fun h => h) ?_ | refine allT_cons (fun h => andl h) ?_ | refine allT_cons (fun h => andl (andl h)) ?_ | refine allT_cons (fun _ => rfl) ?_) ?_
      refine thenK_n ?_
      refine W.cond rfl (fun c3 => ?_) (fun c3 => ?_)
      · skip
        refine W.seq ?_
        refine W.region ?_
        refine S.pure tOk zOk rfl rfl rfl ?_
        refine thenK_n ?_
        refine W.ret ?_
        refine blockK_r ?_
        refine thenK_r ?_
        refine thenK_r ?_
        refine blockK_r ?_
        refine thenK_r ?_
        exact ⟨_, rfl, rfl, LeV.of_force rfl (by rw [pathB, all_false_of (d := []) hi (path_f c3)]; rfl)⟩
      · skip
        refine W.skip ?_
        refine blockK_n ?_
        refine thenK_n ?_
        refine W.region ?_
        refine S.pure tOk zOk rfl rfl rfl ?_
        refine S.pure tOk zOk rfl rfl rfl ?_
        refine loop_n ((Lib.split s [47]).length - (i + 1)) (by omega) ⟨i + 1, hi, all_take_succ (d := []) hi f0_1 (path_t c3), rfl, _, _, _, _, rfl, rfl, rfl, inc_i64 (by omega), trivial⟩
    · skip
      have hi := row_ge c2
      refine W.exit ?_
      refine thenK_e ?_
      refine thenK_e ?_
      refine blockK_x ?_
      refine thenK_n ?_
      refine W.seq ?_
      refine W.region ?_
      refine S.pure tOk zOk rfl rfl rfl ?_
      refine thenK_n ?_
      refine W.ret ?_
      exact ⟨_, rfl, rfl, LeV.of_force rfl (by rw [pathB, all_of_take hi f0_1, le_of c1]; rfl)⟩

theorem pc_outref2_ValueOf (s : List UInt8) (hs : s.length < 4294967281) :
    PureCall Tryz.prog J 94 [.one (.d (.str s))] (.one (.d (.bool (valueB s)))) := by
  refine PureCall.of_body tOk (fn := Tryz.f94) Tryz.func94 (by kernel_rfl) rfl (Nat.le_of_ble_eq_true rfl) (fun E => ?_)
  refine W.seq ?_
  refine W.region ?_
  refine S.pure tOk zOk rfl rfl rfl ?_
  refine thenK_n ?_
  refine W.seq ?_
  refine W.seq ?_
  refine W.region ?_
  refine S.pure tOk zOk rfl rfl rfl ?_
  refine S.pure tOk zOk rfl rfl rfl ?_
  refine S.pure tOk zOk rfl rfl rfl ?_
  refine thenK_n ?_
  refine W.block ?_
  refine W.loop (fun k st => ∃ i : Nat, i ≤ s.length ∧ (s.take i).all (fun c => !(decide (bI c < 32) || decide (bI c > 126))) = true ∧ k = s.length - i ∧ ∃ t b2 r2 m2, st = ⟨t, [] ++ b2, [] ++ r2, [] ++ m2⟩ ∧ holdsL t [(0, .one (.d (.str s))), (5, .one (.d (.int .i64 (s.length : Int)))), (6, .one (.d (.int .i64 (i : Int))))]) (s.length) ⟨0, Nat.zero_le _, by simp, rfl, _, _, _, _, rfl, rfl, rfl, rfl, trivial⟩ ?_
  rintro k0 _ ⟨i, f0_0, f0_1, rfl, t0, bb0, rr0, mm0, rfl, hh0⟩
  refine W.keepR _ _ _ _ _ _ _ hh0 rfl ?_
  refine W.seq ?_
  refine W.region ?_
  refine S.pure tOk zOk rfl rfl rfl ?_
  refine thenK_n ?_
  refine W.seq ?_
  refine W.cond rfl (fun c1 => ?_) (fun c1 => ?_)
  · skip
    have hi : i < s.length := by simpa using c1
    refine W.skip ?_
    refine thenK_n ?_
    refine W.seq ?_
    refine W.block ?_
    refine W.seq ?_
    refine W.region ?_
    refine S.pure tOk zOk rfl rfl rfl ?_
    refine S.pure tOk zOk rfl rfl rfl ?_
    refine thenK_n ?_
    refine W.seq ?_
    refine W.region ?_
    refine S.pure tOk zOk rfl rfl rfl ?_
    refine S.pure tOk zOk rfl rfl rfl ?_
    refine S.pure tOk zOk rfl (str_ok hi) rfl ?_
    refine S.pure tOk zOk rfl rfl rfl ?_
    refine S.pure tOk zOk rfl rfl rfl ?_
    refine S.pureG tOk zOk rfl rfl (by repeat first | exact allT_nil | refine allT_cons (fun h => h) ?_ | refine allT_cons (fun h => andl h) ?_ | refine allT_cons (fun h => andl (andl h)) ?_ | refine allT_cons (fun _ => rfl) ?_) (fun _ => rfl) rfl ?_
    refine S.pureG tOk zOk rfl rfl (by repeat first | exact allT_nil | refine allT_cons (fun h => h) ?_ | refine allT_cons (fun h => andl h) ?_ | refine allT_cons (fun h => andl (andl h)) ?_ | refine allT_cons (fun _ => rfl) ?_) (fun _ => rfl) rfl ?_
    refine S.pureG tOk zOk rfl rfl (by repeat first | exact allT_nil | refine allT_cons (fun h => h) ?_ | refine allT_cons (fun h => andl h) ?_ | refine allT_cons (fun h => andl (andl h)) ?_ | refine allT_cons (fun _ => rfl) ?_) (fun _ => str_ok hi) rfl ?_
    refine S.pureG tOk zOk rfl rfl (by repeat first | exact allT_nil | refine allT_cons (fun h => h) ?_ | refine allT_cons (fun h => andl h) ?_ | refine allT_cons (fun h => andl (andl h)) ?_ | refine allT_cons (fun _ => rfl) ?_) (fun _ => rfl) rfl ?_
    refine S.pickOr tOk zOk rfl rfl (by repeat first | exact allT_nil | refine allT_cons (fun h => h) ?_ | refine allT_cons (fun h => andl h) ?_ | refine allT_cons (fun h => andl (andl h)) ?_ | refine allT_cons (fun _ => rfl) ?_) ?_
    refine thenK_n ?_
    refine W.cond rfl (fun c2 => ?_) (fun c2 => ?_)
    · skip
      refine W.seq ?_
      refine W.region ?_
      refine S.pure tOk zOk rfl rfl rfl ?_
      refine thenK_n ?_
      refine W.ret ?_
      refine blockK_r ?_
      refine thenK_r ?_
      refine thenK_r ?_
      refine blockK_r ?_
      refine thenK_r ?_
      exact ⟨_, rfl, rfl, LeV.of_force rfl (by rw [← valueR, all_false_of (d := 0) hi (not_t c2)]; rfl)⟩
    · skip
      refine W.skip ?_
      refine blockK_n ?_
      refine thenK_n ?_
      refine W.region ?_
      refine S.pure tOk zOk rfl rfl rfl ?_
      refine S.pure tOk zOk rfl rfl rfl ?_
      refine loop_n (s.length - (i + 1)) (by omega) ⟨i + 1, by omega, all_take_succ (d := 0) hi f0_1 (not_f c2), rfl, _, _, _, _, rfl, rfl, rfl, inc_i64 (by omega), trivial⟩
  · skip
    have hi : s.length ≤ i := by simpa using c1
    refine W.exit ?_
    refine thenK_e ?_
    refine thenK_e ?_
    refine blockK_x ?_
    refine thenK_n ?_
    refine W.seq ?_
    refine W.region ?_
    refine S.pure tOk zOk rfl rfl rfl ?_
    refine S.pure tOk zOk rfl rfl rfl ?_
    refine S.pure tOk zOk rfl rfl rfl ?_
    refine S.pure tOk zOk rfl rfl rfl ?_
    refine thenK_n ?_
    refine W.ret ?_
    exact ⟨_, rfl, rfl, LeV.of_force rfl (by rw [← valueR, all_of_take hi f0_1]; rfl)⟩

theorem pc_outref2_Number (s : List UInt8) (m : Int) (hm : 0 ≤ m) (hs : s.length < 4294967281) :
    PureCall Tryz.prog J 129 [.one (.d (.str s)), .one (.d (.int .i64 m))] (.tup [.one (.d (.int .i64 (numR s m).1)), .one (.d (.bool (numR s m).2))]) := by
  refine PureCall.of_body tOk (fn := Tryz.f129) Tryz.func129 (by kernel_rfl) rfl (Nat.le_of_ble_eq_true rfl) (fun E => ?_)
  refine W.seq ?_
  refine W.region ?_
  refine S.pure tOk zOk rfl rfl rfl ?_
  refine S.pure tOk zOk rfl rfl rfl ?_
  refine thenK_n ?_
  refine W.seq ?_
  refine W.seq ?_
  refine W.region ?_
  refine S.pure tOk zOk rfl rfl rfl ?_
  refine S.pure tOk zOk rfl rfl rfl ?_
  refine S.pure tOk zOk rfl rfl rfl ?_
  refine S.pureG tOk zOk rfl rfl (by repeat first | exact allT_nil | refine allT_cons (fun h => h) ?_ | refine allT_cons (fun h => andl h) ?_ | refine allT_cons (fun h => andl (andl h)) ?_ | refine allT_cons (fun _ => rfl) ?_) (fun _ => rfl) rfl ?_
  refine S.pureG tOk zOk rfl rfl (by repeat first | exact allT_nil | refine allT_cons (fun h => h) ?_ | refine allT_cons (fun h => andl h) ?_ | refine allT_cons (fun h => andl (andl h)) ?_ | refine allT_cons (fun _ => rfl) ?_) (fun _ => rfl) rfl ?_
  refine S.pureG tOk zOk rfl rfl (by repeat first | exact allT_nil | refine allT_cons (fun h => h) ?_ | refine allT_cons (fun h => andl h) ?_ | refine allT_cons (fun h => andl (andl h)) ?_ | refine allT_cons (fun _ => rfl) ?_) (fun _ => rfl) rfl ?_
  refine S.pureG tOk zOk rfl rfl (by repeat first | exact allT_nil | refine allT_cons (fun h => h) ?_ | refine allT_cons (fun h => andl h) ?_ | refine allT_cons (fun h => andl (andl h)) ?_ | refine allT_cons (fun _ => rfl) ?_) (fun _ => rfl) rfl ?_
  refine S.pickOr tOk zOk rfl rfl (by repeat first | exact allT_nil | refine allT_cons (fun h => h) ?_ | refine allT_cons (fun h => andl h) ?_ | refine allT_cons (fun h => andl (andl h)) ?_ | refine allT_cons (fun _ => rfl) ?_) ?_
  refine S.pure tOk zOk rfl rfl rfl ?_
  refine S.pureG tOk zOk rfl rfl (by repeat first | exact allT_nil | refine allT_cons (fun h => h) ?_ | refine allT_cons (fun h => andl h) ?_ | refine allT_cons (fun h => andl (andl h)) ?_ | refine allT_cons (fun _ => rfl) ?_) (fun _ => rfl) rfl ?_
  refine S.callG rfl rfl rfl rfl (by repeat first | exact allT_nil | refine allT_cons (fun h => h) ?_ | refine allT_cons (fun h => andl h) ?_ | refine allT_cons (fun h => andl (andl h)) ?_ | refine allT_cons (fun _ => rfl) ?_) rfl rfl (fun _ => pc_outref2_Of _ digitS (by decide) (by decide) (by omega)) ?_
  refine S.pureG tOk zOk rfl rfl (by repeat first | exact allT_nil | refine allT_cons (fun h => h) ?_ | refine allT_cons (fun h => andl h) ?_ | refine allT_cons (fun h => andl (andl h)) ?_ | refine allT_cons (fun _ => rfl) ?_) (fun _ => rfl) rfl ?_
  refine S.pickOr tOk zOk rfl rfl (by repeat first | exact allT_nil | refine allT_cons (fun h => h) ?_ | refine allT_cons (fun h => andl h) ?_ | refine allT_cons (fun h => andl (andl h)) ?_ | refine allT_cons (fun _ => rfl) ?_) ?_
  refine S.pure tOk zOk rfl rfl rfl ?_
  refine S.pureG tOk zOk rfl rfl (by repeat first | exact allT_nil | refine allT_cons (fun h => h) ?_ | refine allT_cons (fun h => andl h) ?_ | refine allT_cons (fun h => andl (andl h)) ?_ | refine allT_cons (fun _ => rfl) ?_) (fun _ => rfl) rfl ?_
  refine S.pureG tOk zOk rfl rfl (by repeat first | exact allT_nil | refine allT_cons (fun h => h) ?_ | refine allT_cons (fun h => andl h) ?_ | refine allT_cons (fun h => andl (andl h)) ?_ | refine allT_cons (fun _ => rfl) ?_) (fun _ => rfl) rfl ?_
  refine S.pureG tOk zOk rfl rfl (by repeat first | exact allT_nil | refine allT_cons (fun h => h) ?_ | refine allT_cons (fun h => andl h) ?_ | refine allT_cons (fun h => andl (andl h)) ?_ | refine allT_cons (fun _ => rfl) ?_) (fun _ => rfl) rfl ?_
  refine S.pureG tOk zOk rfl rfl (by repeat first | exact allT_nil | refine allT_cons (fun h => h) ?_ | refine allT_cons (fun h => andl h) ?_ | refine allT_cons (fun h => andl (andl h)) ?_ | refine allT_cons (fun _ => rfl) ?_) (fun _ => rfl) rfl ?_
  refine S.pureG tOk zOk rfl rfl (by repeat first | exact allT_nil | refine allT_cons (fun h => h) ?_ | refine allT_cons (fun h => andl h) ?_ | refine allT_cons (fun h => andl (andl h)) ?_ | refine allT_cons (fun _ => rfl) ?_) (fun _ => rfl) rfl ?_
  refine S.pureG tOk zOk rfl rfl (by repeat first | exact allT_nil | refine allT_cons (fun h => h) ?_ | refine allT_cons (fun h => andl h) ?_ | refine allT_cons (fun h => andl (andl h)) ?_ | refine allT_cons (fun _ => rfl) ?_) (fun h => idx_ok (Int.le_refl _) (gt1 (andr h))) rfl ?_
  refine S.pureG tOk zOk rfl rfl (by repeat first | exact allT_nil | refine allT_cons (fun h => h) ?_ | refine allT_cons (fun h => andl h) ?_ | refine allT_cons (fun h => andl (andl h)) ?_ | refine allT_cons (fun _ => rfl) ?_) (fun _ => rfl) rfl ?_
  refine S.pickAndG tOk zOk rfl rfl rfl (by repeat first | exact allT_nil | refine allT_cons (fun h => h) ?_ | refine allT_cons (fun h => andl h) ?_ | refine allT_cons (fun h => andl (andl h)) ?_ | refine allT_cons (fun _ => rfl) ?_) (by repeat first | exact allT_nil | refine allT_cons (fun h => h) ?_ | refine allT_cons (fun h => andl h) ?_ | refine allT_cons (fun h => andl (andl h)) ?_ | refine allT_cons (fun _ => rfl) ?_) ?_
  refine S.pickOr tOk zOk rfl rfl (by repeat first | exact allT_nil | refine allT_cons (fun h => h) ?_ | refine allT_cons (fun h => andl h) ?_ | refine allT_cons (fun h => andl (andl h)) ?_ | refine allT_cons (fun _ => rfl) ?_) ?_
  refine thenK_n ?_
  refine W.cond rfl (fun c1 => ?_) (fun c1 => ?_)
  · skip
    refine W.seq ?_
    refine W.region ?_
    refine S.pure tOk zOk rfl rfl rfl ?_
    refine S.pure tOk zOk rfl rfl rfl ?_
    refine thenK_n ?_
    refine W.ret ?_
    refine thenK_r ?_
    exact ⟨_, rfl, rfl, LeV.of_force rfl (by rw [show numR s m = (0, false) from if_pos c1]; rfl)⟩
  · skip
    refine W.skip ?_
    refine thenK_n ?_
    refine W.seq ?_
    refine W.region ?_
    refine S.pure tOk zOk rfl rfl rfl ?_
    refine S.call rfl rfl rfl rfl rfl (pc_Atoi _ (by omega)) ?_
    refine S.pure tOk zOk rfl rfl rfl ?_
    refine S.pure tOk zOk rfl rfl rfl ?_
    refine S.pure tOk zOk rfl rfl rfl ?_
    refine S.pure tOk zOk rfl rfl rfl ?_
    refine S.pure tOk zOk rfl rfl rfl ?_
    refine thenK_n ?_
    refine W.seq ?_
    refine W.regionD mixed (by kernel_rfl) ?_
    refine D.pure tOk zOk rfl rfl rfl rfl ?_
    refine D.pure tOk zOk rfl rfl rfl rfl ?_
    refine D.pure tOk zOk rfl rfl rfl rfl ?_
    refine D.pure tOk zOk rfl rfl rfl rfl ?_
    refine D.pure tOk zOk rfl rfl rfl rfl ?_
    refine thenK_n ?_
    refine W.ret ?_
    exact ⟨_, rfl, rfl, LeV.of_force rfl (by rw [show numR s m = (atoiV s, atoiOk s) from if_neg (Bool.eq_false_iff.1 c1)])⟩

theorem pc_outref2_VersionText (v : Ver) (he : v.e.length < 4294967281) (ho : VerOk v) :
    PureCall Tryz.prog J 47 [verV v] (.one (.d (.str (textB v.a v.b v.c v.e)))) := by
  have h1 := Lib.itoa_length_le v.a ho.1 ho.2.1
  have h2 := Lib.itoa_length_le v.b ho.2.2.1 ho.2.2.2.1
  have h3 := Lib.itoa_length_le v.c ho.2.2.2.2.1 ho.2.2.2.2.2
  refine PureCall.of_body tOk (fn := Tryz.f47) Tryz.func47 (by kernel_rfl) rfl (Nat.le_of_ble_eq_true rfl) (fun E => ?_)
  refine W.seq ?_
  refine W.region ?_
  refine S.box rfl rfl rfl rfl ?_
  refine S.pure tOk zOk rfl rfl rfl ?_
  refine thenK_n ?_
  refine W.seq ?_
  refine W.regionD mixed (by kernel_rfl) ?_
  refine D.pure tOk zOk rfl rfl rfl rfl ?_
  refine D.pure tOk zOk rfl rfl rfl rfl ?_
  refine D.call rfl rfl rfl rfl rfl (pc_Itoa _ ho.1 ho.2.1) ?_
  refine D.pure tOk zOk rfl rfl (cat_ok (by simp [-List.getD_eq_getElem?_getD]; omega)) rfl ?_
  refine D.pure tOk zOk rfl rfl rfl rfl ?_
  refine D.pure tOk zOk rfl rfl rfl rfl ?_
  refine D.call rfl rfl rfl rfl rfl (pc_Itoa _ ho.2.2.1 ho.2.2.2.1) ?_
  refine D.pure tOk zOk rfl rfl (cat_ok (by simp [-List.getD_eq_getElem?_getD]; omega)) rfl ?_
  refine D.pure tOk zOk rfl rfl (cat_ok (by simp [-List.getD_eq_getElem?_getD]; omega)) rfl ?_
  refine D.pure tOk zOk rfl rfl rfl rfl ?_
  refine D.pure tOk zOk rfl rfl rfl rfl ?_
  refine D.call rfl rfl rfl rfl rfl (pc_Itoa _ ho.2.2.2.2.1 ho.2.2.2.2.2) ?_
  refine D.pure tOk zOk rfl rfl (cat_ok (by simp [-List.getD_eq_getElem?_getD]; omega)) rfl ?_
  refine D.pure tOk zOk rfl rfl rfl rfl ?_
  refine thenK_n ?_
  refine W.seq ?_
  refine W.seq ?_
  refine W.region ?_
  refine S.pure tOk zOk rfl rfl rfl ?_
  refine S.pure tOk zOk rfl rfl rfl ?_
  refine S.pure tOk zOk rfl rfl rfl ?_
  refine thenK_n ?_
  refine W.cond rfl (fun c1 => ?_) (fun c1 => ?_)
  · skip
    refine W.region ?_
    refine S.pure tOk zOk rfl rfl rfl ?_
    refine S.pure tOk zOk rfl rfl rfl ?_
    refine S.pure tOk zOk rfl rfl rfl ?_
    refine S.pure tOk zOk rfl (cat_ok (by simp [-List.getD_eq_getElem?_getD]; omega)) rfl ?_
    refine S.pure tOk zOk rfl (cat_ok (by simp [-List.getD_eq_getElem?_getD]; omega)) rfl ?_
    refine S.pure tOk zOk rfl rfl rfl ?_
    refine thenK_n ?_
    refine W.seq ?_
    refine W.region ?_
    refine S.pure tOk zOk rfl rfl rfl ?_
    refine S.pure tOk zOk rfl rfl rfl ?_
    refine thenK_n ?_
    refine W.ret ?_
    exact ⟨_, rfl, rfl, LeV.of_force rfl (by simp_all [textB])⟩
  · skip
    refine W.skip ?_
    refine thenK_n ?_
    refine W.seq ?_
    refine W.region ?_
    refine S.pure tOk zOk rfl rfl rfl ?_
    refine S.pure tOk zOk rfl rfl rfl ?_
    refine thenK_n ?_
    refine W.ret ?_
    exact ⟨_, rfl, rfl, LeV.of_force rfl (by simp_all [textB])⟩

end Go.Proofs.YtnphejkeflngcaaGreatDoor

/- Plain words on cutting and splitting at one byte, and on decimal numerals. -/
set_option linter.unusedVariables false
set_option linter.unusedSimpArgs false
namespace Go.Proofs.YtnphejkeflngcaaGreatDoor
open Go

theorem index_none {c : UInt8} : ∀ {s : List UInt8}, c ∉ s → Lib.index s [c] = -1
  | [], _ => rfl
  | b :: l, h => by
    have h1 : c ≠ b := fun e => h (e ▸ List.mem_cons_self ..)
    have h2 := index_none (s := l) (fun e => h (List.mem_cons_of_mem _ e))
    have hp : List.isPrefixOf [c] (b :: l) = false := by simp [List.isPrefixOf, h1]
    unfold Lib.index
    rw [hp, h2]; rfl
theorem index_at {c : UInt8} {y : List UInt8} : ∀ {x : List UInt8}, c ∉ x → Lib.index (x ++ c :: y) [c] = x.length
  | [], _ => by
    have hp : List.isPrefixOf [c] (c :: y) = true := by simp [List.isPrefixOf]
    show Lib.index (c :: y) [c] = 0
    unfold Lib.index
    rw [hp]; rfl
  | b :: l, h => by
    have h1 : c ≠ b := fun e => h (e ▸ List.mem_cons_self ..)
    have h2 := index_at (x := l) (y := y) (fun e => h (List.mem_cons_of_mem _ e))
    have hp : List.isPrefixOf [c] (b :: (l ++ c :: y)) = false := by simp [List.isPrefixOf, h1]
    show Lib.index (b :: (l ++ c :: y)) [c] = _
    unfold Lib.index
    rw [hp, h2]
    simp only [List.length_cons, Bool.false_eq_true, if_false]
    rw [if_neg (by simp)]
    rfl
theorem cut_none {c : UInt8} {s : List UInt8} (h : c ∉ s) : Lib.cut s [c] = (s, [], false) := by
  unfold Lib.cut
  rw [index_none h]; rfl
theorem cut_at {c : UInt8} {x y : List UInt8} (h : c ∉ x) : Lib.cut (x ++ c :: y) [c] = (x, y, true) := by
  unfold Lib.cut
  rw [index_at h, if_pos (by omega)]
  have e1 : ((x.length : Int)).toNat = x.length := by omega
  rw [e1]
  have e2 : x.length + [c].length = (x ++ [c]).length := by simp
  rw [e2]
  have e3 : x ++ c :: y = (x ++ [c]) ++ y := by simp
  rw [e3, List.drop_left]
  simp
theorem countFrom_fuel {sub : List UInt8} (hs : sub ≠ []) : ∀ (f g : Nat) (s : List UInt8), s.length < f → s.length < g → Lib.countFrom sub f s = Lib.countFrom sub g s
  | 0, _, _, h, _ => absurd h (Nat.not_lt_zero _)
  | _ + 1, 0, _, _, h => absurd h (Nat.not_lt_zero _)
  | f + 1, g + 1, s, h1, h2 => by
    unfold Lib.countFrom
    split
    · rfl
    · rename_i hi
      have h0 : 0 ≤ Lib.index s sub := by
        rcases Lib.index_spec s sub with h | ⟨i, h, _⟩
        · simp [h.1] at hi
        · omega
      have hr := Lib.index_room s sub h0
      have hl : 1 ≤ sub.length := by cases sub with | nil => exact absurd rfl hs | cons a l => simp
      rw [countFrom_fuel hs f g _ (by simp; omega) (by simp; omega)]
theorem split_none {c : UInt8} {s : List UInt8} (h : c ∉ s) : Lib.split s [c] = [s] := by
  have : Lib.count s [c] = 0 := by simp [Lib.count, Lib.countFrom, index_none h]
  unfold Lib.split
  rw [this]; rfl
theorem split_cons {c : UInt8} {x y : List UInt8} (h : c ∉ x) : Lib.split (x ++ c :: y) [c] = x :: Lib.split y [c] := by
  have hi := index_at (y := y) h
  have hm : ¬ (Lib.index (x ++ c :: y) [c] == -1) = true := by rw [hi]; simp
  have e1 : ((x.length : Int)).toNat = x.length := by omega
  have hd : (x ++ c :: y).drop (x.length + [c].length) = y := by
    have e2 : x.length + [c].length = (x ++ [c]).length := by simp
    have e3 : x ++ c :: y = (x ++ [c]) ++ y := by simp
    rw [e2, e3, List.drop_left]
  have hc : Lib.count (x ++ c :: y) [c] = Lib.count y [c] + 1 := by
    unfold Lib.count
    rw [Lib.countFrom, if_neg hm, hi, e1, hd, Nat.add_comm 1]
    rw [countFrom_fuel (by simp) _ (y.length + 1) y (by simp; omega) (by omega)]
  unfold Lib.split
  rw [hc, Lib.splitK, if_neg hm, hi, e1, hd]
  simp

def dstep (a : Nat) (c : UInt8) : Nat := a * 10 + (c.toNat - 48)
theorem dstep_eq (a : Nat) (c : UInt8) : dstep a c = a * 10 + (c.toNat - 48) := by unfold dstep; rfl
def dec (acc : Nat) (l : List UInt8) : Nat := l.foldl dstep acc
theorem dec_nil (acc : Nat) : dec acc [] = acc := by unfold dec; rw [List.foldl_nil]
theorem dec_cons (acc : Nat) (c : UInt8) (l : List UInt8) : dec acc (c :: l) = dec (acc * 10 + (c.toNat - 48)) l := by unfold dec; rw [List.foldl_cons, dstep_eq]
theorem dec_snoc (acc : Nat) (l : List UInt8) (c : UInt8) : dec acc (l ++ [c]) = dec acc l * 10 + (c.toNat - 48) := by unfold dec; rw [List.foldl_append, List.foldl_cons, List.foldl_nil, dstep_eq]
theorem dig_nat {u : Nat} (h : u < 10) : (UInt8.ofNat (48 + u)).toNat = 48 + u := by
  simp [UInt8.toNat_ofNat]; omega
theorem digits_all (u : Nat) : ∀ c ∈ Lib.decDigits u, 48 ≤ c.toNat ∧ c.toNat ≤ 57 := by
  induction u using Nat.strongRecOn with
  | ind u ih =>
    intro c hc
    rw [Lib.decDigits] at hc
    split at hc
    · rename_i h
      simp only [List.mem_singleton] at hc
      rw [hc, dig_nat h]; omega
    · rename_i h
      rw [List.mem_append] at hc
      rcases hc with hc | hc
      · exact ih (u / 10) (by omega) c hc
      · simp only [List.mem_singleton] at hc
        rw [hc, dig_nat (by omega)]; omega
theorem digits_dec (u : Nat) : dec 0 (Lib.decDigits u) = u := by
  induction u using Nat.strongRecOn with
  | ind u ih =>
    rw [Lib.decDigits]
    split
    · rename_i h
      rw [dec_cons, dec_nil, dig_nat h]; omega
    · rename_i h
      rw [dec_snoc, ih (u / 10) (by omega), dig_nat (by omega)]; omega
theorem digits_ne (u : Nat) : Lib.decDigits u ≠ [] := by
  rw [Lib.decDigits]; split <;> simp
theorem digits_head (u : Nat) (h0 : u ≠ 0) : ((Lib.decDigits u).getD 0 0).toNat ≠ 48 := by
  induction u using Nat.strongRecOn with
  | ind u ih =>
    rw [Lib.decDigits]
    split
    · rename_i h
      show (UInt8.ofNat (48 + u)).toNat ≠ 48
      rw [dig_nat h]; omega
    · rename_i h
      have h1 := ih (u / 10) (by omega) (by omega)
      have h2 := digits_ne (u / 10)
      match hx : Lib.decDigits (u / 10), h2 with
      | a :: l, _ => rw [hx] at h1; simpa using h1
theorem digits_len : ∀ (k u : Nat), u < 10 ^ (k + 1) → (Lib.decDigits u).length ≤ k + 1
  | 0, u, h => by rw [Lib.decDigits, dif_pos (by simpa using h)]; simp
  | k + 1, u, h => by
    rw [Lib.decDigits]
    split
    · simp
    · have := digits_len k (u / 10) (by rw [Nat.pow_succ] at h; omega)
      simp; omega
theorem digits_zero : Lib.decDigits 0 = [48] := by rw [Lib.decDigits, dif_pos (by omega)]; rfl
end Go.Proofs.YtnphejkeflngcaaGreatDoor

/- Plain words on versions: the reference's order and errors are the program's. -/
set_option linter.unusedVariables false
set_option linter.unusedSimpArgs false
namespace Go.Proofs.YtnphejkeflngcaaGreatDoor
open Go

/-! ### Errors -/
section
variable {v : Ver}
theorem chk_a (h : (!inB v.a 0 999999) = true) : v.check = 3 := by
  rw [inB_eq, Bool.not_not] at h
  simp [Ver.check, checkB, outsideN, h]
theorem in_out {x : Int} (h : (!inB x 0 999999) = false) : outsideN x = false := by
  rw [inB_eq, Bool.not_not] at h; exact h
theorem chk_b (ha : (!inB v.a 0 999999) = false) (h : (!inB v.b 0 999999) = true) : v.check = 3 := by
  rw [inB_eq, Bool.not_not] at h
  simp [Ver.check, checkB, outsideN, h]
theorem chk_c (ha : (!inB v.a 0 999999) = false) (hb : (!inB v.b 0 999999) = false) (h : (!inB v.c 0 999999) = true) : v.check = 3 := by
  rw [inB_eq, Bool.not_not] at h
  simp [Ver.check, checkB, outsideN, h]
theorem chk_0 (ha : (!inB v.a 0 999999) = false) (hb : (!inB v.b 0 999999) = false) (hc : (!inB v.c 0 999999) = false) (he : (v.e == []) = true) : v.check = 0 := by
  simp [Ver.check, checkB, in_out ha, in_out hb, in_out hc, he]
theorem chk_e (ha : (!inB v.a 0 999999) = false) (hb : (!inB v.b 0 999999) = false) (hc : (!inB v.c 0 999999) = false) (he : (v.e == []) = false) : v.check = if earlyB v.e then 0 else 2 := by
  simp only [Ver.check, checkB, in_out ha, in_out hb, in_out hc, he]
  cases earlyB v.e <;> rfl
theorem chk_len (ha : (!inB v.a 0 999999) = false) (hb : (!inB v.b 0 999999) = false) (hc : (!inB v.c 0 999999) = false) (he : (v.e == []) = false) (h : decide ((v.e.length : Int) > 40) = true) : v.check = 2 := by
  rw [chk_e ha hb hc he, earlyB, Bool.and_comm, not_le_of h]; rfl
theorem chk_word {j : Nat} (ha : (!inB v.a 0 999999) = false) (hb : (!inB v.b 0 999999) = false) (hc : (!inB v.c 0 999999) = false) (he : (v.e == []) = false) (hj : j < (Lib.split v.e [46]).length) (h : wordB ((Lib.split v.e [46]).getD j []) = false) : v.check = 2 := by
  rw [chk_e ha hb hc he, earlyB, all_false_of hj h]; rfl
theorem chk_ok {j : Nat} (ha : (!inB v.a 0 999999) = false) (hb : (!inB v.b 0 999999) = false) (hc : (!inB v.c 0 999999) = false) (he : (v.e == []) = false) (hl : decide ((v.e.length : Int) ≤ 40) = true) (hj : (Lib.split v.e [46]).length ≤ j) (h : ((Lib.split v.e [46]).take j).all wordB = true) : v.check = 0 := by
  rw [chk_e ha hb hc he, earlyB, all_of_take hj h, hl]; rfl
end
theorem verr_at {vs : List Ver} {i : Nat} (hi : i < vs.length) : (vs.map Ver.check).getD i 0 = (vs.getD i Ver.z).check := by
  simp [List.getD, List.getElem?_eq_getElem hi]
theorem verr_go {vs : List Ver} {i : Nat} (hi : i < vs.length) (h : (vs.getD i Ver.z).check = 0) : ((vs.map Ver.check).getD i 0 == 0) = true := by
  rw [verr_at hi, h]; rfl
theorem verr_hit {vs : List Ver} {i : Nat} {n : Int} (hi : i < vs.length) (ht : ((vs.map Ver.check).take i).all (· == 0) = true) (h : (vs.getD i Ver.z).check = n) (hn : n ≠ 0) : firstNe (vs.map Ver.check) = n := by
  rw [firstNe_hit (by simpa using hi) ht (by rw [verr_at hi, h]; exact hn), verr_at hi, h]
theorem ver_at {vs : List Ver} {i n : Nat} (hv : ∀ v ∈ vs, v.e.length < n) (hi : i < vs.length) : (vs.getD i Ver.z).e.length < n := by
  rw [List.getD_eq_getElem?_getD, List.getElem?_eq_getElem hi]
  exact hv _ (List.getElem_mem hi)
theorem checkB_or (x y z : Int) : checkB x y z [] = 0 ∨ checkB x y z [] = 3 := by
  by_cases h : checkB x y z [] = 0
  · exact .inl h
  · exact .inr (checkB_nil x y z h)

/-! ### The order -/
theorem cw_pq {p q : List UInt8} (h : (ofB p digitS && ofB q digitS) = true) : cwR p q = Lib.compareInt (atoiV p) (atoiV q) := if_pos h
theorem cw_p {p q : List UInt8} (h : (ofB p digitS && ofB q digitS) = false) (hp : ofB p digitS = true) : cwR p q = -1 := by rw [cwR, if_neg (Bool.eq_false_iff.1 h), if_pos hp]
theorem cw_q {p q : List UInt8} (h : (ofB p digitS && ofB q digitS) = false) (hp : ofB p digitS = false) (hq : ofB q digitS = true) : cwR p q = 1 := by rw [cwR, if_neg (Bool.eq_false_iff.1 h), if_neg (Bool.eq_false_iff.1 hp), if_pos hq]
theorem cw_n {p q : List UInt8} (h : (ofB p digitS && ofB q digitS) = false) (hp : ofB p digitS = false) (hq : ofB q digitS = false) : cwR p q = Lib.compareBytes p q := by rw [cwR, if_neg (Bool.eq_false_iff.1 h), if_neg (Bool.eq_false_iff.1 hp), if_neg (Bool.eq_false_iff.1 hq)]
theorem cw_go {xs ys : List (List UInt8)} {i : Nat} {x : Int} (hi : i < xs.length ∧ i < ys.length) (h : cwR (xs.getD i []) (ys.getD i []) = x) (hx : (x != 0) = false) : ((List.zipWith cwR xs ys).getD i 0 == 0) = true := by
  rw [zip_at [] [] hi.1 hi.2, h]; simpa using hx
theorem cw_lt {xs ys : List (List UInt8)} {i : Nat} (hi : i < xs.length ∧ i < ys.length) : i < (List.zipWith cwR xs ys).length := by simp; omega
theorem cw_hit {xs ys : List (List UInt8)} {i : Nat} {x : Int} (hi : i < xs.length ∧ i < ys.length) (ht : ((List.zipWith cwR xs ys).take i).all (· == 0) = true) (h : cwR (xs.getD i []) (ys.getD i []) = x) (hx : (x != 0) = true) : rowsR xs ys = x := by
  have hz := zip_at (f := cwR) [] [] hi.1 hi.2
  have hh := firstNe_hit (cw_lt hi) ht (by rw [hz, h]; simpa using hx)
  rw [hz, h] at hh
  rw [rowsR, hh, if_pos hx]
theorem cw_end {xs ys : List (List UInt8)} {i : Nat} (hi : xs.length ≤ i ∨ ys.length ≤ i) (ht : ((List.zipWith cwR xs ys).take i).all (· == 0) = true) : rowsR xs ys = Lib.compareInt xs.length ys.length := by
  rw [rowsR, firstNe_none (by simp; omega) ht]; rfl
section
variable {v w : Ver}
theorem cmp_1 (h : (firstNe [Lib.compareInt v.a w.a, Lib.compareInt v.b w.b, Lib.compareInt v.c w.c] != 0) = true) : compareR v w = firstNe [Lib.compareInt v.a w.a, Lib.compareInt v.b w.b, Lib.compareInt v.c w.c] := if_pos h
theorem cmp_2 (h : (firstNe [Lib.compareInt v.a w.a, Lib.compareInt v.b w.b, Lib.compareInt v.c w.c] != 0) = false) (he : (v.e == [] || w.e == []) = true) : compareR v w = Lib.compareInt (min1 w.e.length) (min1 v.e.length) := by
  rw [compareR, if_neg (Bool.eq_false_iff.1 h), if_pos he]
theorem cmp_3 (h : (firstNe [Lib.compareInt v.a w.a, Lib.compareInt v.b w.b, Lib.compareInt v.c w.c] != 0) = false) (he : (v.e == [] || w.e == []) = false) : compareR v w = rowsR (Lib.split v.e [46]) (Lib.split w.e [46]) := by
  rw [compareR, if_neg (Bool.eq_false_iff.1 h), if_neg (Bool.eq_false_iff.1 he)]
end

/-! ### Numerals -/
theorem dec_ge : ∀ (l : List UInt8) (acc : Nat), acc * 10 ^ l.length ≤ dec acc l
  | [], acc => by rw [dec_nil]; exact Nat.le_of_eq (Nat.mul_one acc)
  | c :: l, acc => by
    have h := dec_ge l (acc * 10 + (c.toNat - 48))
    simp only [dec_cons, List.length_cons, Nat.pow_succ]
    refine Nat.le_trans ?_ h
    rw [Nat.mul_comm (10 ^ l.length) 10, ← Nat.mul_assoc]
    exact Nat.mul_le_mul_right _ (by omega)
theorem dig_le {c : UInt8} (h : isDigit (bI c) = true) : 48 ≤ c.toNat ∧ c.toNat ≤ 57 := by
  unfold isDigit bI at h; simp at h; omega
theorem dec_lt : ∀ (l : List UInt8) (acc : Nat), (l.all fun c => isDigit (bI c)) = true → dec acc l < (acc + 1) * 10 ^ l.length
  | [], acc, _ => by rw [dec_nil]; exact Nat.lt_of_lt_of_le (Nat.lt_succ_self acc) (Nat.le_of_eq (Nat.mul_one _).symm)
  | c :: l, acc, h => by
    simp only [List.all_cons, Bool.and_eq_true] at h
    have h1 := dig_le h.1
    have h2 := dec_lt l (acc * 10 + (c.toNat - 48)) h.2
    simp only [dec_cons, List.length_cons, Nat.pow_succ]
    refine Nat.lt_of_lt_of_le h2 ?_
    rw [Nat.mul_comm (10 ^ l.length) 10, ← Nat.mul_assoc]
    exact Nat.mul_le_mul_right _ (by omega)
theorem dec_mono {l m : List UInt8} {a b : Nat} (hn : l.length = m.length) (hl : (l.all fun c => isDigit (bI c)) = true) (h : a < b) : dec a l < dec b m := by
  refine Nat.lt_of_lt_of_le (dec_lt l a hl) (Nat.le_trans ?_ (dec_ge m b))
  rw [hn]; exact Nat.mul_le_mul_right _ h
theorem cmp_refl (x : Int) : Lib.compareInt x x = 0 := by unfold Lib.compareInt; rw [if_neg (by omega), if_neg (by omega)]
theorem cmp_lt {x y : Int} (h : x < y) : Lib.compareInt x y = -1 := by unfold Lib.compareInt; rw [if_pos h]
theorem cmp_gt {x y : Int} (h : y < x) : Lib.compareInt x y = 1 := by unfold Lib.compareInt; rw [if_neg (by omega), if_pos h]
theorem dec_cmp : ∀ (l m : List UInt8) (acc : Nat), l.length = m.length → (l.all fun c => isDigit (bI c)) = true → (m.all fun c => isDigit (bI c)) = true → Lib.compareBytes l m = Lib.compareInt (dec acc l) (dec acc m)
  | [], [], acc, _, _, _ => by rw [dec_nil, cmp_refl]; rfl
  | [], _ :: _, _, h, _, _ => by simp at h
  | _ :: _, [], _, h, _, _ => by simp at h
  | a :: l, b :: m, acc, h, hl, hm => by
    simp only [List.length_cons, Nat.add_right_cancel_iff] at h
    simp only [List.all_cons, Bool.and_eq_true] at hl hm
    have h1 := dig_le hl.1
    have h2 := dig_le hm.1
    unfold Lib.compareBytes
    split
    · rename_i hab
      have hab' : a.toNat < b.toNat := hab
      have := dec_mono (l := l) (m := m) (a := acc * 10 + (a.toNat - 48)) (b := acc * 10 + (b.toNat - 48)) h hl.2 (by omega)
      rw [cmp_lt (by rw [dec_cons, dec_cons]; omega)]
    · split
      · rename_i hab
        have hab' : b.toNat < a.toNat := hab
        have := dec_mono (l := m) (m := l) (a := acc * 10 + (b.toNat - 48)) (b := acc * 10 + (a.toNat - 48)) h.symm hm.2 (by omega)
        rw [cmp_gt (by rw [dec_cons, dec_cons]; omega)]
      · rename_i h3 h4
        have h3' : ¬ a.toNat < b.toNat := h3
        have h4' : ¬ b.toNat < a.toNat := h4
        have e : a.toNat = b.toNat := by omega
        rw [dec_cons, dec_cons, e]
        exact dec_cmp l m _ h hl.2 hm.2
theorem decFrom_dec : ∀ (l : List UInt8) (acc : Nat), (l.all fun c => isDigit (bI c)) = true → Lib.decFrom acc l = some (dec acc l)
  | [], acc, _ => by rw [dec_nil]; rfl
  | c :: l, acc, h => by
    simp only [List.all_cons, Bool.and_eq_true] at h
    have h1 := dig_le h.1
    unfold Lib.decFrom
    rw [show Lib.digitVal c = some (c.toNat - 48) by unfold Lib.digitVal; rw [if_pos h1]]
    rw [dec_cons]
    exact decFrom_dec l _ h.2
theorem atoi_dec {l : List UInt8} (hn : l ≠ []) (hl : l.length ≤ 18) (h : (l.all fun c => isDigit (bI c)) = true) : atoiV l = dec 0 l ∧ atoiOk l = true := by
  have e : Lib.atoiAll l = .ok ((dec 0 l : Nat) : Int) := by
    rw [Lib.atoiAll_short l hl]
    have : Lib.atoi l = some ((dec 0 l : Nat) : Int) := by
      match l, hn with
      | c :: r, _ =>
        have hd := decFrom_dec (c :: r) 0 h
        simp only [List.all_cons, Bool.and_eq_true] at h
        have h1 := dig_le h.1
        have h45 : (c == 45) = false := by rw [beq_eq_false_iff_ne]; intro e; subst e; simp at h1
        have h43 : (c == 43) = false := by rw [beq_eq_false_iff_ne]; intro e; subst e; simp at h1
        simp only [Lib.atoi, h45, h43, Lib.decNat, hd]
        rfl
    rw [this]; rfl
  unfold atoiV atoiOk
  rw [e]; exact ⟨rfl, rfl⟩
theorem numeral_of {w : List UInt8} (h : numeralB w = true) : (w.all fun c => isDigit (bI c)) = true ∧ w ≠ [] ∧ w.length ≤ 10 := by
  unfold numeralB eachB at h
  simp only [Bool.and_eq_true, Bool.not_eq_true', beq_eq_false_iff_ne, decide_eq_true_eq] at h
  exact ⟨h.1, h.2.1, by omega⟩
theorem word_of {w : List UInt8} (h : wordB w = true) : w ≠ [] ∧ w.length ≤ 10 ∧ numeralB w = ofB w digitS ∧ (numeralB w = true → bI (w.getD 0 0) = 48 → w = [48]) := by
  unfold wordB eachB at h
  simp only [Bool.and_eq_true, Bool.not_eq_true', beq_eq_false_iff_ne, decide_eq_true_eq] at h
  refine ⟨h.1.2.1, by omega, ?_, fun h1 h2 => ?_⟩
  · rw [ofB_digit, numeralB, eachB]
    have h10 : decide ((w.length : Int) ≤ 10) = true := decide_eq_true h.1.2.2
    rw [h10, show (w == []) = false from beq_eq_false_iff_ne.2 h.1.2.1]
    simp
  · have := h.2
    rw [h1, h2] at this
    simpa using this
theorem dec_long {p q : List UInt8} (hp : numeralB p = true) (hq : numeralB q = true) (h0 : bI (q.getD 0 0) = 48 → q = [48]) (h : p.length < q.length) : dec 0 p < dec 0 q := by
  obtain ⟨p1, p2, p3⟩ := numeral_of hp
  obtain ⟨q1, q2, q3⟩ := numeral_of hq
  have hlt := dec_lt p 0 p1
  match q, q2 with
  | c :: r, _ =>
    have hr : p.length ≤ r.length := by simp at h; omega
    have hc : c.toNat - 48 ≥ 1 := by
      simp only [List.all_cons, Bool.and_eq_true] at q1
      have h1 := dig_le q1.1
      apply Decidable.byContradiction; intro hh
      have e := h0 (by simp [bI]; omega)
      have : p.length = 0 := by
        have := congrArg List.length e; simp at this; simp [this] at hr
        exact hr ▸ rfl
      exact p2 (List.length_eq_zero_iff.1 this)
    have hge := dec_ge r (c.toNat - 48)
    have h2 : 10 ^ p.length ≤ 10 ^ r.length := Nat.pow_le_pow_right (by decide) hr
    have h3 : 1 * 10 ^ r.length ≤ (c.toNat - 48) * 10 ^ r.length := Nat.mul_le_mul_right _ hc
    simp only [dec_cons, Nat.zero_mul, Nat.zero_add] at hge ⊢
    omega
theorem cw_eq {p q : List UInt8} (hp : wordB p = true) (hq : wordB q = true) : cwB p q = cwR p q := by
  obtain ⟨p1, p2, p3, p4⟩ := word_of hp
  obtain ⟨q1, q2, q3, q4⟩ := word_of hq
  unfold cwB cwR
  rw [← p3, ← q3]
  cases np : numeralB p <;> cases nq : numeralB q <;> simp only [Bool.and_true, Bool.and_false, Bool.false_and, Bool.true_and, if_true, if_false, Bool.false_eq_true]
  · obtain ⟨dp, _, _⟩ := numeral_of np
    obtain ⟨dq, _, _⟩ := numeral_of nq
    rw [(atoi_dec p1 (by omega) dp).1, (atoi_dec q1 (by omega) dq).1]
    by_cases hl : p.length = q.length
    · rw [if_neg (by simp [hl])]
      exact dec_cmp p q 0 hl dp dq
    · rw [if_pos (by simp; omega)]
      by_cases h : p.length < q.length
      · rw [cmp_lt (by omega), cmp_lt (by have := dec_long np nq (q4 nq) h; omega)]
      · rw [cmp_gt (by omega), cmp_gt (by have := dec_long nq np (p4 np) (by omega); omega)]
theorem zip_eq : ∀ {xs ys : List (List UInt8)}, xs.all wordB = true → ys.all wordB = true → List.zipWith cwB xs ys = List.zipWith cwR xs ys
  | [], _, _, _ => by simp
  | _ :: _, [], _, _ => by simp
  | x :: xs, y :: ys, h1, h2 => by
    simp only [List.all_cons, Bool.and_eq_true] at h1 h2
    simp only [List.zipWith_cons_cons, cw_eq h1.1 h2.1, zip_eq h1.2 h2.2]
theorem bytes_refl : ∀ (l : List UInt8), Lib.compareBytes l l = 0
  | [] => rfl
  | a :: l => by
    unfold Lib.compareBytes
    rw [if_neg (by show ¬ a.toNat < a.toNat; omega), if_neg (by show ¬ a.toNat < a.toNat; omega)]
    exact bytes_refl l
theorem cwB_refl (p : List UInt8) : cwB p p = 0 := by
  unfold cwB
  cases numeralB p <;> simp [bytes_refl]
theorem rows_refl (xs : List (List UInt8)) : rowsB xs xs = 0 := by
  have : firstNe (List.zipWith cwB xs xs) = 0 := by
    unfold firstNe
    rw [List.find?_eq_none.2]
    · rfl
    · intro x hx
      have : ∀ (l : List (List UInt8)), ∀ x ∈ List.zipWith cwB l l, x = 0 := by
        intro l
        induction l with
        | nil => simp
        | cons a l ih => intro x hx; simp only [List.zipWith_cons_cons, List.mem_cons, cwB_refl] at hx; exact hx.elim id (ih x)
      simp [this xs x hx]
  rw [rowsB, this, cmp_refl]; rfl
theorem check_early {v : Ver} (h : v.check = 0) : v.e = [] ∨ (Lib.split v.e [46]).all wordB = true := by
  unfold Ver.check checkB at h
  split at h
  · cases h
  · split at h
    · cases h
    · rename_i h2
      cases he : (v.e == []) with
      | true => exact .inl (by simpa using he)
      | false =>
        refine .inr ?_
        rw [he] at h2
        simp only [Bool.not_false, Bool.true_and, Bool.not_eq_true, Bool.not_eq_false'] at h2
        unfold earlyB at h2
        exact (Bool.and_eq_true_iff.1 h2).1
theorem first3 (a b c d : Int) : firstNe [a, b, c, d] = if firstNe [a, b, c] != 0 then firstNe [a, b, c] else d := by
  unfold firstNe
  by_cases ha : a = 0 <;> by_cases hb : b = 0 <;> by_cases hc : c = 0 <;> by_cases hd : d = 0 <;> simp [ha, hb, hc, hd, bne_iff_ne]
theorem min1_nil : min1 (([] : List UInt8).length : Int) = 0 := rfl
theorem min1_pos {l : List UInt8} (h : l ≠ []) : min1 (l.length : Int) = 1 := by
  unfold min1
  cases l with
  | nil => exact absurd rfl h
  | cons a l => rw [if_neg (by simp only [List.length_cons]; omega)]
/-- Of right versions the reference's order is the program's. -/
theorem compare_eq {v w : Ver} (hv : v.check = 0) (hw : w.check = 0) : compareR v w = orderB v w := by
  unfold compareR orderB
  rw [first3]
  split
  · rfl
  · unfold ceB
    by_cases e1 : v.e = []
    · by_cases e2 : w.e = []
      · simp [e1, e2, min1, Lib.compareInt]
      · have hs : (([] : List UInt8) == w.e) = false := by rw [beq_eq_false_iff_ne]; exact fun e => e2 e.symm
        rw [e1, min1_nil, min1_pos e2, hs]; rfl
    · by_cases e2 : w.e = []
      · have hs : (v.e == ([] : List UInt8)) = false := by rw [beq_eq_false_iff_ne]; exact e1
        rw [e2, min1_nil, min1_pos e1, hs]; rfl
      · have h1 : (v.e == ([] : List UInt8)) = false := by rw [beq_eq_false_iff_ne]; exact e1
        have h2 : (w.e == ([] : List UInt8)) = false := by rw [beq_eq_false_iff_ne]; exact e2
        rw [h1, h2]
        have hr : rowsR (Lib.split v.e [46]) (Lib.split w.e [46]) = rowsB (Lib.split v.e [46]) (Lib.split w.e [46]) := by
          unfold rowsR rowsB
          rw [zip_eq ((check_early hv).resolve_left e1) ((check_early hw).resolve_left e2)]
        simp only [Bool.or_self, Bool.false_eq_true, if_false]
        rw [hr]
        by_cases e : v.e = w.e
        · rw [e, rows_refl]; simp
        · rw [if_neg (by simpa using e)]
end Go.Proofs.YtnphejkeflngcaaGreatDoor

set_option linter.unusedVariables false
set_option linter.unusedSimpArgs false
set_option maxRecDepth 100000
set_option maxHeartbeats 4000000
namespace Go.Proofs.YtnphejkeflngcaaGreatDoor
open Go
open Go.RowKit

theorem pc_outref2_VersionError (vs : List Ver) (hl : vs.length ≤ 1000000) (hv : ∀ v ∈ vs, v.e.length < 4294967281) :
    PureCall Tryz.prog J 20 [.one (.d (.vec 4 (vs.map verD)))] (.one (.d (.int .i64 (firstNe (vs.map Ver.check))))) := by
  refine PureCall.of_body tOk (fn := Tryz.f20) Tryz.func20 (by kernel_rfl) rfl (Nat.le_of_ble_eq_true rfl) (fun E => ?_)
  refine W.seq ?_
  refine W.region ?_
  refine S.pure tOk zOk rfl rfl rfl ?_
  refine thenK_n ?_
  refine W.seq ?_
  refine W.seq ?_
  refine W.region ?_
  refine S.pure tOk zOk rfl rfl rfl ?_
  refine S.pure tOk zOk rfl rfl rfl ?_
  refine S.pure tOk zOk rfl rfl rfl ?_
  refine thenK_n ?_
  refine W.block ?_
  refine W.loop (fun k st => ∃ i : Nat, i ≤ vs.length ∧ ((vs.map Ver.check).take i).all (· == 0) = true ∧ k = vs.length - i ∧ ∃ t b2 r2 m2, st = ⟨t, [] ++ b2, [] ++ r2, [] ++ m2⟩ ∧ holdsL t [(9, .one (.d (.vec 4 (vs.map fun x => verD x)))), (10, .one (.d (.int .i64 ((vs.map fun x => (verD x : List D)).length : Int)))), (11, .one (.d (.int .i64 (i : Int))))]) (vs.length) ⟨0, Nat.zero_le _, by simp, rfl, _, _, _, _, rfl, rfl, rfl, rfl, trivial⟩ ?_
  rintro k0 _ ⟨i, f0_0, f0_1, rfl, t0, bb0, rr0, mm0, rfl, hh0⟩
  refine W.keepR _ _ _ _ _ _ _ hh0 rfl ?_
  refine W.seq ?_
  refine W.region ?_
  refine S.pure tOk zOk rfl rfl rfl ?_
  refine thenK_n ?_
  refine W.seq ?_
  refine W.cond rfl (fun c1 => ?_) (fun c1 => ?_)
  · skip
    have hi := row_lt c1
    have hei : (vs.getD i Ver.z).e.length < 4294967281 := ver_at hv hi
    have hsl := split_le (vs.getD i Ver.z).e [46]
    have hsm := fun j => @split_at (vs.getD i Ver.z).e [46] j
    refine W.skip ?_
    refine thenK_n ?_
    refine W.seq ?_
    refine W.block ?_
    refine W.seq ?_
    refine W.region ?_
    refine S.pureE tOk zOk rfl (row_ok hi) (row_at Ver.z hi) rfl ?_
    refine S.pure tOk zOk rfl rfl rfl ?_
    refine S.alloc tOk rfl rfl rfl rfl ?_
    refine S.store tOk rfl rfl rfl rfl rfl rfl rfl rfl ?_
    refine thenK_n ?_
    refine W.seq ?_
    refine W.seq ?_
    refine W.region ?_
    refine S.pure tOk zOk rfl rfl rfl ?_
    refine S.pure tOk zOk rfl rfl rfl ?_
    refine S.pure tOk zOk rfl rfl rfl ?_
    refine S.pure tOk zOk rfl rfl rfl ?_
    refine S.pure tOk zOk rfl rfl rfl ?_
    refine S.pure tOk zOk rfl rfl rfl ?_
    refine S.slice tOk rfl rfl ?_
    refine S.pure tOk zOk rfl rfl rfl ?_
    refine S.pure tOk zOk rfl rfl rfl ?_
    refine thenK_n ?_
    refine W.block ?_
    refine W.rounds 4 ?_
    refine WR.succ ?_
    refine W.seq ?_
    refine W.region ?_
    refine S.pure tOk zOk rfl rfl rfl ?_
    refine thenK_n ?_
    refine W.seq ?_
    refine W.condT rfl rfl ?_
    refine W.skip ?_
    refine thenK_n ?_
    refine W.seq ?_
    refine W.block ?_
    refine W.seq ?_
    refine W.region ?_
    refine S.pure tOk zOk rfl (by first | rfl | exact idx_ok (by omega) (by omega)) rfl ?_
    refine S.pure tOk zOk rfl rfl rfl ?_
    refine S.pure tOk zOk rfl rfl rfl ?_
    refine thenK_n ?_
    refine W.seq ?_
    refine W.region ?_
    refine S.pure tOk zOk rfl rfl rfl ?_
    refine S.call rfl rfl rfl rfl rfl (pc_outref2_In _ _ _) ?_
    refine S.pure tOk zOk rfl rfl rfl ?_
    refine thenK_n ?_
    refine W.cond rfl (fun c3 => ?_) (fun c3 => ?_)
    · skip
      refine W.seq ?_
      refine W.region ?_
      refine S.pure tOk zOk rfl rfl rfl ?_
      refine thenK_n ?_
      refine W.ret ?_
      refine blockK_r ?_
      refine thenK_r ?_
      refine thenK_r ?_
      refine blockK_r ?_
      refine thenK_r ?_
      refine blockK_r ?_
      refine thenK_r ?_
      refine thenK_r ?_
      refine blockK_r ?_
      refine thenK_r ?_
      exact ⟨_, rfl, rfl, LeV.of_eq (congrArg (fun x => V.one (C.d (D.int .i64 x))) (verr_hit hi f0_1 (chk_a c3) (by decide)).symm)⟩
    · skip
      refine W.skip ?_
      refine blockK_n ?_
      refine thenK_n ?_
      refine W.region ?_
      refine S.pure tOk zOk rfl rfl rfl ?_
      refine S.pure tOk zOk rfl rfl rfl ?_
      refine thenK_n ?_
      refine WR.succ ?_
      refine W.seq ?_
      refine W.region ?_
      refine S.pure tOk zOk rfl rfl rfl ?_
      refine thenK_n ?_
      refine W.seq ?_
      refine W.condT rfl rfl ?_
      refine W.skip ?_
      refine thenK_n ?_
      refine W.seq ?_
      refine W.block ?_
      refine W.seq ?_
      refine W.region ?_
      refine S.pure tOk zOk rfl (by first | rfl | exact idx_ok (by omega) (by omega)) rfl ?_
      refine S.pure tOk zOk rfl rfl rfl ?_
      refine S.pure tOk zOk rfl rfl rfl ?_
      refine thenK_n ?_
      refine W.seq ?_
      refine W.region ?_
      refine S.pure tOk zOk rfl rfl rfl ?_
      refine S.call rfl rfl rfl rfl rfl (pc_outref2_In _ _ _) ?_
      refine S.pure tOk zOk rfl rfl rfl ?_
      refine thenK_n ?_
      refine W.cond rfl (fun c5 => ?_) (fun c5 => ?_)
      · skip
        refine W.seq ?_
        refine W.region ?_
        refine S.pure tOk zOk rfl rfl rfl ?_
        refine thenK_n ?_
        refine W.ret ?_
        refine blockK_r ?_
        refine thenK_r ?_
        refine thenK_r ?_
        refine blockK_r ?_
        refine thenK_r ?_
        refine blockK_r ?_
        refine thenK_r ?_
        refine thenK_r ?_
        refine blockK_r ?_
        refine thenK_r ?_
        exact ⟨_, rfl, rfl, LeV.of_eq (congrArg (fun x => V.one (C.d (D.int .i64 x))) (verr_hit hi f0_1 (chk_b c3 c5) (by decide)).symm)⟩
      · skip
        refine W.skip ?_
        refine blockK_n ?_
        refine thenK_n ?_
        refine W.region ?_
        refine S.pure tOk zOk rfl rfl rfl ?_
        refine S.pure tOk zOk rfl rfl rfl ?_
        refine thenK_n ?_
        refine WR.succ ?_
        refine W.seq ?_
        refine W.region ?_
        refine S.pure tOk zOk rfl rfl rfl ?_
        refine thenK_n ?_
        refine W.seq ?_
        refine W.condT rfl rfl ?_
        refine W.skip ?_
        refine thenK_n ?_
        refine W.seq ?_
        refine W.block ?_
        refine W.seq ?_
        refine W.region ?_
        refine S.pure tOk zOk rfl (by first | rfl | exact idx_ok (by omega) (by omega)) rfl ?_
        refine S.pure tOk zOk rfl rfl rfl ?_
        refine S.pure tOk zOk rfl rfl rfl ?_
        refine thenK_n ?_
        refine W.seq ?_
        refine W.region ?_
        refine S.pure tOk zOk rfl rfl rfl ?_
        refine S.call rfl rfl rfl rfl rfl (pc_outref2_In _ _ _) ?_
        refine S.pure tOk zOk rfl rfl rfl ?_
        refine thenK_n ?_
        refine W.cond rfl (fun c7 => ?_) (fun c7 => ?_)
        · skip
          refine W.seq ?_
          refine W.region ?_
          refine S.pure tOk zOk rfl rfl rfl ?_
          refine thenK_n ?_
          refine W.ret ?_
          refine blockK_r ?_
          refine thenK_r ?_
          refine thenK_r ?_
          refine blockK_r ?_
          refine thenK_r ?_
          refine blockK_r ?_
          refine thenK_r ?_
          refine thenK_r ?_
          refine blockK_r ?_
          refine thenK_r ?_
          exact ⟨_, rfl, rfl, LeV.of_eq (congrArg (fun x => V.one (C.d (D.int .i64 x))) (verr_hit hi f0_1 (chk_c c3 c5 c7) (by decide)).symm)⟩
        · skip
          refine W.skip ?_
          refine blockK_n ?_
          refine thenK_n ?_
          refine W.region ?_
          refine S.pure tOk zOk rfl rfl rfl ?_
          refine S.pure tOk zOk rfl rfl rfl ?_
          refine thenK_n ?_
          refine WR.succ ?_
          refine W.seq ?_
          refine W.region ?_
          refine S.pure tOk zOk rfl rfl rfl ?_
          refine thenK_n ?_
          refine W.seq ?_
          refine W.condF rfl rfl ?_
          refine W.exit ?_
          refine thenK_e ?_
          refine thenK_e ?_
          refine blockK_x ?_
          refine thenK_n ?_
          refine W.seq ?_
          refine W.seq ?_
          refine W.region ?_
          refine S.pure tOk zOk rfl rfl rfl ?_
          refine S.pure tOk zOk rfl rfl rfl ?_
          refine S.pure tOk zOk rfl rfl rfl ?_
          refine thenK_n ?_
          refine W.cond rfl (fun c9 => ?_) (fun c9 => ?_)
          · skip
            refine W.exit ?_
            refine thenK_e ?_
            refine blockK_x ?_
            refine thenK_n ?_
            refine W.region ?_
            refine S.pure tOk zOk rfl rfl rfl ?_
            refine S.pure tOk zOk rfl rfl rfl ?_
            refine loop_n (vs.length - (i + 1)) (by omega) ⟨i + 1, hi, all_take_succ (d := 0) (by simpa using hi) f0_1 (verr_go hi (chk_0 c3 c5 c7 c9)), rfl, _, _, _, _, rfl, rfl, rfl, inc_i64 (by omega), trivial⟩
          · skip
            refine W.skip ?_
            refine thenK_n ?_
            refine W.seq ?_
            refine W.seq ?_
            refine W.region ?_
            refine S.pure tOk zOk rfl rfl rfl ?_
            refine S.pure tOk zOk rfl rfl rfl ?_
            refine S.pure tOk zOk rfl rfl rfl ?_
            refine S.pure tOk zOk rfl rfl rfl ?_
            refine thenK_n ?_
            refine W.cond rfl (fun c10 => ?_) (fun c10 => ?_)
            · skip
              refine W.seq ?_
              refine W.region ?_
              refine S.pure tOk zOk rfl rfl rfl ?_
              refine thenK_n ?_
              refine W.ret ?_
              refine thenK_r ?_
              refine blockK_r ?_
              refine thenK_r ?_
              refine thenK_r ?_
              refine blockK_r ?_
              refine thenK_r ?_
              exact ⟨_, rfl, rfl, LeV.of_eq (congrArg (fun x => V.one (C.d (D.int .i64 x))) (verr_hit hi f0_1 (chk_len c3 c5 c7 c9 c10) (by decide)).symm)⟩
            · skip
              refine W.skip ?_
              refine thenK_n ?_
              refine W.seq ?_
              refine W.region ?_
              refine S.pure tOk zOk rfl rfl rfl ?_
              refine S.pure tOk zOk rfl rfl rfl ?_
              refine S.call rfl rfl rfl rfl rfl (pc_Split _ _ hei (by decide)) ?_
              refine S.pure tOk zOk rfl rfl rfl ?_
              refine S.pure tOk zOk rfl rfl rfl ?_
              refine thenK_n ?_
              refine W.block ?_
              refine W.loop (fun k st => ∃ j : Nat, j ≤ (Lib.split (vs.getD i Ver.z).e [46]).length ∧ ((Lib.split (vs.getD i Ver.z).e [46]).take j).all wordB = true ∧ k = (Lib.split (vs.getD i Ver.z).e [46]).length - j ∧ ∃ t b2 r2 m2, st = ⟨t, [(verD (vs.getD i Ver.z)).map .d] ++ b2, [] ++ r2, [] ++ m2⟩ ∧ holdsL t [(9, .one (.d (.vec 4 (vs.map verD)))), (10, .one (.d (.int .i64 ((vs.map verD).length : Int)))), (11, .one (.d (.int .i64 (i : Int)))), (40, .one (.d (.vec 1 ((Lib.split (vs.getD i Ver.z).e [46]).map fun x => [.str x])))), (41, .one (.d (.int .i64 (((Lib.split (vs.getD i Ver.z).e [46]).map fun x => [D.str x]).length : Int)))), (42, .one (.d (.int .i64 (j : Int))))]) ((Lib.split (vs.getD i Ver.z).e [46]).length) ⟨0, Nat.zero_le _, by simp, rfl, _, _, _, _, rfl, rfl, rfl, rfl, rfl, rfl, rfl, trivial⟩ ?_
              rintro k4 _ ⟨j, f4_0, f4_1, rfl, t4, bb4, rr4, mm4, rfl, hh4⟩
              refine W.keepR _ _ _ _ _ _ _ hh4 rfl ?_
              refine W.seq ?_
              refine W.region ?_
              refine S.pure tOk zOk rfl rfl rfl ?_
              refine thenK_n ?_
              refine W.seq ?_
              refine W.cond rfl (fun c11 => ?_) (fun c11 => ?_)
              · skip
                have hj := row_lt c11
                refine W.skip ?_
                refine thenK_n ?_
                refine W.seq ?_
                refine W.block ?_
                refine W.seq ?_
                refine W.region ?_
                refine S.pureE tOk zOk rfl (row_ok hj) (row_at [] hj) rfl ?_
                refine S.pure tOk zOk rfl rfl rfl ?_
                refine S.pure tOk zOk rfl rfl rfl ?_
                refine thenK_n ?_
                refine W.seq ?_
                refine W.region ?_
                refine S.pure tOk zOk rfl rfl rfl ?_
                refine S.pure tOk zOk rfl rfl rfl ?_
                refine S.pure tOk zOk rfl rfl rfl ?_
                refine S.pureG tOk zOk rfl rfl (by repeat first | exact allT_nil | refine allT_cons (fun h => h) ?_ | refine allT_cons (fun h => andl h) ?_ | refine allT_cons (fun h => andl (andl h)) ?_ | refine allT_cons (fun _ => rfl) ?_) (fun _ => rfl) rfl ?_
                refine S.pureG tOk zOk rfl rfl (by repeat first | exact allT_nil | refine allT_cons (fun h => h) ?_ | refine allT_cons (fun h => andl h) ?_ | refine allT_cons (fun h => andl (andl h)) ?_ | refine allT_cons (fun _ => rfl) ?_) (fun _ => rfl) rfl ?_
                refine S.pureG tOk zOk rfl rfl (by repeat first | exact allT_nil | refine allT_cons (fun h => h) ?_ | refine allT_cons (fun h => andl h) ?_ | refine allT_cons (fun h => andl (andl h)) ?_ | refine allT_cons (fun _ => rfl) ?_) (fun _ => rfl) rfl ?_
                refine S.pickOr tOk zOk rfl rfl (by repeat first | exact allT_nil | refine allT_cons (fun h => h) ?_ | refine allT_cons (fun h => andl h) ?_ | refine allT_cons (fun h => andl (andl h)) ?_ | refine allT_cons (fun _ => rfl) ?_) ?_
                refine S.pure tOk zOk rfl rfl rfl ?_
                refine S.pureG tOk zOk rfl rfl (by repeat first | exact allT_nil | refine allT_cons (fun h => h) ?_ | refine allT_cons (fun h => andl h) ?_ | refine allT_cons (fun h => andl (andl h)) ?_ | refine allT_cons (fun _ => rfl) ?_) (fun _ => rfl) rfl ?_
                refine S.callG rfl rfl rfl rfl (by repeat first | exact allT_nil | refine allT_cons (fun h => h) ?_ | refine allT_cons (fun h => andl h) ?_ | refine allT_cons (fun h => andl (andl h)) ?_ | refine allT_cons (fun _ => rfl) ?_) rfl rfl (fun _ => pc_outref2_Of _ smallDigitS (by decide) (by decide) (by have := hsm j; omega)) ?_
                refine S.pureG tOk zOk rfl rfl (by repeat first | exact allT_nil | refine allT_cons (fun h => h) ?_ | refine allT_cons (fun h => andl h) ?_ | refine allT_cons (fun h => andl (andl h)) ?_ | refine allT_cons (fun _ => rfl) ?_) (fun _ => rfl) rfl ?_
                refine S.pickOr tOk zOk rfl rfl (by repeat first | exact allT_nil | refine allT_cons (fun h => h) ?_ | refine allT_cons (fun h => andl h) ?_ | refine allT_cons (fun h => andl (andl h)) ?_ | refine allT_cons (fun _ => rfl) ?_) ?_
                refine S.pure tOk zOk rfl rfl rfl ?_
                refine S.pureG tOk zOk rfl rfl (by repeat first | exact allT_nil | refine allT_cons (fun h => h) ?_ | refine allT_cons (fun h => andl h) ?_ | refine allT_cons (fun h => andl (andl h)) ?_ | refine allT_cons (fun _ => rfl) ?_) (fun _ => rfl) rfl ?_
                refine S.callG rfl rfl rfl rfl (by repeat first | exact allT_nil | refine allT_cons (fun h => h) ?_ | refine allT_cons (fun h => andl h) ?_ | refine allT_cons (fun h => andl (andl h)) ?_ | refine allT_cons (fun _ => rfl) ?_) rfl rfl (fun _ => pc_outref2_Of _ digitS (by decide) (by decide) (by have := hsm j; omega)) ?_
                refine S.pureG tOk zOk rfl rfl (by repeat first | exact allT_nil | refine allT_cons (fun h => h) ?_ | refine allT_cons (fun h => andl h) ?_ | refine allT_cons (fun h => andl (andl h)) ?_ | refine allT_cons (fun _ => rfl) ?_) (fun _ => rfl) rfl ?_
                refine S.pureG tOk zOk rfl rfl (by repeat first | exact allT_nil | refine allT_cons (fun h => h) ?_ | refine allT_cons (fun h => andl h) ?_ | refine allT_cons (fun h => andl (andl h)) ?_ | refine allT_cons (fun _ => rfl) ?_) (fun _ => rfl) rfl ?_
                refine S.pureG tOk zOk rfl rfl (by repeat first | exact allT_nil | refine allT_cons (fun h => h) ?_ | refine allT_cons (fun h => andl h) ?_ | refine allT_cons (fun h => andl (andl h)) ?_ | refine allT_cons (fun _ => rfl) ?_) (fun _ => rfl) rfl ?_
                refine S.pureG tOk zOk rfl rfl (by repeat first | exact allT_nil | refine allT_cons (fun h => h) ?_ | refine allT_cons (fun h => andl h) ?_ | refine allT_cons (fun h => andl (andl h)) ?_ | refine allT_cons (fun _ => rfl) ?_) (fun _ => rfl) rfl ?_
                refine S.pickAndG tOk zOk rfl rfl rfl (by repeat first | exact allT_nil | refine allT_cons (fun h => h) ?_ | refine allT_cons (fun h => andl h) ?_ | refine allT_cons (fun h => andl (andl h)) ?_ | refine allT_cons (fun _ => rfl) ?_) (by repeat first | exact allT_nil | refine allT_cons (fun h => h) ?_ | refine allT_cons (fun h => andl h) ?_ | refine allT_cons (fun h => andl (andl h)) ?_ | refine allT_cons (fun _ => rfl) ?_) ?_
                refine S.pureG tOk zOk rfl rfl (by repeat first | exact allT_nil | refine allT_cons (fun h => h) ?_ | refine allT_cons (fun h => andl h) ?_ | refine allT_cons (fun h => andl (andl h)) ?_ | refine allT_cons (fun _ => rfl) ?_) (fun _ => rfl) rfl ?_
                refine S.pureG tOk zOk rfl rfl (by repeat first | exact allT_nil | refine allT_cons (fun h => h) ?_ | refine allT_cons (fun h => andl h) ?_ | refine allT_cons (fun h => andl (andl h)) ?_ | refine allT_cons (fun _ => rfl) ?_) (fun _ => rfl) rfl ?_
                refine S.pureG tOk zOk rfl rfl (by repeat first | exact allT_nil | refine allT_cons (fun h => h) ?_ | refine allT_cons (fun h => andl h) ?_ | refine allT_cons (fun h => andl (andl h)) ?_ | refine allT_cons (fun _ => rfl) ?_) (fun h => idx_ok (Int.le_refl _) (gt1 (andr (andr h)))) rfl ?_
                refine S.pureG tOk zOk rfl rfl (by repeat first | exact allT_nil | refine allT_cons (fun h => h) ?_ | refine allT_cons (fun h => andl h) ?_ | refine allT_cons (fun h => andl (andl h)) ?_ | refine allT_cons (fun _ => rfl) ?_) (fun _ => rfl) rfl ?_
                refine S.pickAndG tOk zOk rfl rfl rfl (by repeat first | exact allT_nil | refine allT_cons (fun h => h) ?_ | refine allT_cons (fun h => andl h) ?_ | refine allT_cons (fun h => andl (andl h)) ?_ | refine allT_cons (fun _ => rfl) ?_) (by repeat first | exact allT_nil | refine allT_cons (fun h => h) ?_ | refine allT_cons (fun h => andl h) ?_ | refine allT_cons (fun h => andl (andl h)) ?_ | refine allT_cons (fun _ => rfl) ?_) ?_
                refine S.pickOr tOk zOk rfl rfl (by repeat first | exact allT_nil | refine allT_cons (fun h => h) ?_ | refine allT_cons (fun h => andl h) ?_ | refine allT_cons (fun h => andl (andl h)) ?_ | refine allT_cons (fun _ => rfl) ?_) ?_
                refine thenK_n ?_
                refine W.cond rfl (fun c12 => ?_) (fun c12 => ?_)
                · skip
                  refine W.seq ?_
                  refine W.region ?_
                  refine S.pure tOk zOk rfl rfl rfl ?_
                  refine thenK_n ?_
                  refine W.ret ?_
                  refine blockK_r ?_
                  refine thenK_r ?_
                  refine thenK_r ?_
                  refine blockK_r ?_
                  refine blockK_r ?_
                  refine thenK_r ?_
                  refine thenK_r ?_
                  refine blockK_r ?_
                  refine thenK_r ?_
                  exact ⟨_, rfl, rfl, LeV.of_eq (congrArg (fun x => V.one (C.d (D.int .i64 x))) (verr_hit hi f0_1 (chk_word c3 c5 c7 c9 hj (word_f' c12)) (by decide)).symm)⟩
                · skip
                  refine W.skip ?_
                  refine blockK_n ?_
                  refine thenK_n ?_
                  refine W.region ?_
                  refine S.pure tOk zOk rfl rfl rfl ?_
                  refine S.pure tOk zOk rfl rfl rfl ?_
                  refine loop_n ((Lib.split (vs.getD i Ver.z).e [46]).length - (j + 1)) (by omega) ⟨j + 1, hj, all_take_succ (d := []) hj f4_1 (word_t' c12), rfl, _, _, _, _, rfl, rfl, rfl, rfl, rfl, rfl, inc_i64 (by omega), trivial⟩
              · skip
                have hj := row_ge c11
                refine W.exit ?_
                refine thenK_e ?_
                refine thenK_e ?_
                refine blockK_x ?_
                refine blockK_n ?_
                refine thenK_n ?_
                refine W.region ?_
                refine S.pure tOk zOk rfl rfl rfl ?_
                refine S.pure tOk zOk rfl rfl rfl ?_
                refine loop_n (vs.length - (i + 1)) (by omega) ⟨i + 1, hi, all_take_succ (d := 0) (by simpa using hi) f0_1 (verr_go hi (chk_ok c3 c5 c7 c9 (le_of c10) hj f4_1)), rfl, _, _, _, _, rfl, rfl, rfl, inc_i64 (by omega), trivial⟩
  · skip
    have hi := row_ge c1
    refine W.exit ?_
    refine thenK_e ?_
    refine thenK_e ?_
    refine blockK_x ?_
    refine thenK_n ?_
    refine W.seq ?_
    refine W.region ?_
    refine S.pure tOk zOk rfl rfl rfl ?_
    refine thenK_n ?_
    refine W.ret ?_
    exact ⟨_, rfl, rfl, LeV.of_eq (congrArg (fun x => V.one (C.d (D.int .i64 x))) (firstNe_none (by simpa using hi) f0_1).symm)⟩

theorem pc_outref2_CompareOf (v w : Ver) (hv : v.e.length < 4294967281) (hw : w.e.length < 4294967281) :
    PureCall Tryz.prog J 29 [verV v, verV w] (.one (.d (.int .i64 (compareR v w)))) := by
  have hl := split_le v.e [46]
  have hl2 := split_le w.e [46]
  refine PureCall.of_body tOk (fn := Tryz.f29) Tryz.func29 (by kernel_rfl) rfl (Nat.le_of_ble_eq_true rfl) (fun E => ?_)
  refine W.seq ?_
  refine W.region ?_
  refine S.box rfl rfl rfl rfl ?_
  refine S.box rfl rfl rfl rfl ?_
  refine S.pure tOk zOk rfl rfl rfl ?_
  refine thenK_n ?_
  refine W.seq ?_
  refine W.seq ?_
  refine W.regionD mixed (by kernel_rfl) ?_
  refine D.pure tOk zOk rfl rfl rfl rfl ?_
  refine D.pure tOk zOk rfl rfl rfl rfl ?_
  refine D.pure tOk zOk rfl rfl rfl rfl ?_
  refine D.pure tOk zOk rfl rfl rfl rfl ?_
  refine D.call rfl rfl rfl rfl rfl (pc_cmpInt _ _) ?_
  refine D.pure tOk zOk rfl rfl rfl rfl ?_
  refine D.pure tOk zOk rfl rfl rfl rfl ?_
  refine D.pure tOk zOk rfl rfl rfl rfl ?_
  refine D.pure tOk zOk rfl rfl rfl rfl ?_
  refine D.call rfl rfl rfl rfl rfl (pc_cmpInt _ _) ?_
  refine D.pure tOk zOk rfl rfl rfl rfl ?_
  refine D.pure tOk zOk rfl rfl rfl rfl ?_
  refine D.pure tOk zOk rfl rfl rfl rfl ?_
  refine D.pure tOk zOk rfl rfl rfl rfl ?_
  refine D.call rfl rfl rfl rfl rfl (pc_cmpInt _ _) ?_
  refine D.slice tOk rfl rfl ?_
  refine D.call rfl rfl rfl rfl rfl (pc_cmp_Or_int_ [_, _, _] (by simp)) ?_
  refine D.pure tOk zOk rfl rfl rfl rfl ?_
  refine thenK_n ?_
  refine W.seq ?_
  refine W.region ?_
  refine S.pure tOk zOk rfl rfl rfl ?_
  refine S.pure tOk zOk rfl rfl rfl ?_
  refine thenK_n ?_
  refine W.cond rfl (fun c1 => ?_) (fun c1 => ?_)
  · skip
    refine W.seq ?_
    refine W.region ?_
    refine S.pure tOk zOk rfl rfl rfl ?_
    refine S.pure tOk zOk rfl rfl rfl ?_
    refine thenK_n ?_
    refine W.ret ?_
    refine thenK_r ?_
    exact ⟨_, rfl, rfl, LeV.of_eq (congrArg (fun x => V.one (C.d (D.int .i64 x))) (cmp_1 c1).symm)⟩
  · skip
    refine W.skip ?_
    refine thenK_n ?_
    refine W.seq ?_
    refine W.seq ?_
    refine W.region ?_
    refine S.pure tOk zOk rfl rfl rfl ?_
    refine S.pure tOk zOk rfl rfl rfl ?_
    refine S.pure tOk zOk rfl rfl rfl ?_
    refine S.pure tOk zOk rfl rfl rfl ?_
    refine S.pureG tOk zOk rfl rfl (by repeat first | exact allT_nil | refine allT_cons (fun h => h) ?_ | refine allT_cons (fun h => andl h) ?_ | refine allT_cons (fun h => andl (andl h)) ?_ | refine allT_cons (fun _ => rfl) ?_) (fun _ => rfl) rfl ?_
    refine S.pureG tOk zOk rfl rfl (by repeat first | exact allT_nil | refine allT_cons (fun h => h) ?_ | refine allT_cons (fun h => andl h) ?_ | refine allT_cons (fun h => andl (andl h)) ?_ | refine allT_cons (fun _ => rfl) ?_) (fun _ => rfl) rfl ?_
    refine S.pureG tOk zOk rfl rfl (by repeat first | exact allT_nil | refine allT_cons (fun h => h) ?_ | refine allT_cons (fun h => andl h) ?_ | refine allT_cons (fun h => andl (andl h)) ?_ | refine allT_cons (fun _ => rfl) ?_) (fun _ => rfl) rfl ?_
    refine S.pickOr tOk zOk rfl rfl (by repeat first | exact allT_nil | refine allT_cons (fun h => h) ?_ | refine allT_cons (fun h => andl h) ?_ | refine allT_cons (fun h => andl (andl h)) ?_ | refine allT_cons (fun _ => rfl) ?_) ?_
    refine thenK_n ?_
    refine W.cond rfl (fun c2 => ?_) (fun c2 => ?_)
    · skip
      refine W.seq ?_
      refine W.region ?_
      refine S.pure tOk zOk rfl rfl rfl ?_
      refine S.pure tOk zOk rfl rfl rfl ?_
      refine S.pure tOk zOk rfl rfl rfl ?_
      refine S.pure tOk zOk rfl rfl rfl ?_
      refine S.pure tOk zOk rfl rfl rfl ?_
      refine S.pure tOk zOk rfl rfl rfl ?_
      refine S.pure tOk zOk rfl rfl rfl ?_
      refine S.pure tOk zOk rfl rfl rfl ?_
      refine S.call rfl rfl rfl rfl rfl (pc_cmpInt _ _) ?_
      refine S.pure tOk zOk rfl rfl rfl ?_
      refine thenK_n ?_
      refine W.ret ?_
      refine thenK_r ?_
      exact ⟨_, rfl, rfl, LeV.of_eq (congrArg (fun x => V.one (C.d (D.int .i64 x))) (cmp_2 c1 c2).symm)⟩
    · skip
      refine W.skip ?_
      refine thenK_n ?_
      refine W.seq ?_
      refine W.regionD mixed (by kernel_rfl) ?_
      refine D.pure tOk zOk rfl rfl rfl rfl ?_
      refine D.pure tOk zOk rfl rfl rfl rfl ?_
      refine D.call rfl rfl rfl rfl rfl (pc_Split _ _ hv (by decide)) ?_
      refine D.pure tOk zOk rfl rfl rfl rfl ?_
      refine D.pure tOk zOk rfl rfl rfl rfl ?_
      refine D.call rfl rfl rfl rfl rfl (pc_Split _ _ hw (by decide)) ?_
      refine D.pure tOk zOk rfl rfl rfl rfl ?_
      refine D.pure tOk zOk rfl rfl rfl rfl ?_
      refine thenK_n ?_
      refine W.seq ?_
      refine W.seq ?_
      refine W.region ?_
      refine S.pure tOk zOk rfl rfl rfl ?_
      refine S.pure tOk zOk rfl rfl rfl ?_
      refine S.pure tOk zOk rfl rfl rfl ?_
      refine S.pure tOk zOk rfl rfl rfl ?_
      refine S.pure tOk zOk rfl rfl rfl ?_
      refine S.pure tOk zOk rfl rfl rfl ?_
      refine thenK_n ?_
      refine W.block ?_
      refine W.loop (fun k st => ∃ i : Nat, i ≤ (Lib.split v.e [46]).length ∧ ((List.zipWith cwR (Lib.split v.e [46]) (Lib.split w.e [46])).take i).all (· == 0) = true ∧ k = (Lib.split v.e [46]).length - i ∧ ∃ t b2 r2 m2, st = ⟨t, [] ++ b2, [] ++ r2, [] ++ m2⟩ ∧ holdsL t [(6, .one (.d (.vec 1 ((Lib.split v.e [46]).map fun x => [.str x])))), (7, .one (.d (.vec 1 ((Lib.split w.e [46]).map fun x => [.str x])))), (63, .one (.d (.int .i64 (if (((Lib.split w.e [46]).map fun x => [D.str x]).length : Int) < (((Lib.split v.e [46]).map fun x => [D.str x]).length : Int) then (((Lib.split w.e [46]).map fun x => [D.str x]).length : Int) else (((Lib.split v.e [46]).map fun x => [D.str x]).length : Int))))), (64, .one (.d (.int .i64 (i : Int))))]) ((Lib.split v.e [46]).length) ⟨0, Nat.zero_le _, by simp, rfl, _, _, _, _, rfl, rfl, rfl, rfl, rfl, trivial⟩ ?_
      rintro k0 _ ⟨i, f0_0, f0_1, rfl, t0, bb0, rr0, mm0, rfl, hh0⟩
      refine W.keepR _ _ _ _ _ _ _ hh0 rfl ?_
      refine W.seq ?_
      refine W.region ?_
      refine S.pure tOk zOk rfl rfl rfl ?_
      refine thenK_n ?_
      refine W.seq ?_
      refine W.cond rfl (fun c3 => ?_) (fun c3 => ?_)
      · skip
        have hi := min_lt (xs := (Lib.split v.e [46])) (ys := (Lib.split w.e [46])) (by simp) (by simp) c3
        refine W.skip ?_
        refine thenK_n ?_
        refine W.seq ?_
        refine W.block ?_
        refine W.seq ?_
        refine W.region ?_
        refine S.pure tOk zOk rfl rfl rfl ?_
        refine S.pure tOk zOk rfl rfl rfl ?_
        refine thenK_n ?_
        refine W.seq ?_
        refine W.regionD mixed (by kernel_rfl) ?_
        refine D.pure tOk zOk rfl rfl rfl rfl ?_
        refine D.pure tOk zOk rfl rfl rfl rfl ?_
        refine D.pureE tOk zOk rfl rfl (row_ok hi.1) (row_at [] hi.1) rfl ?_
        refine D.pure tOk zOk rfl rfl rfl rfl ?_
        refine D.call rfl rfl rfl rfl rfl (pc_outref2_Of _ digitS (by decide) (by decide) (by have := @split_at v.e [46] i; omega)) ?_
        refine D.pure tOk zOk rfl rfl rfl rfl ?_
        refine D.pure tOk zOk rfl rfl rfl rfl ?_
        refine D.pureE tOk zOk rfl rfl (row_ok hi.2) (row_at [] hi.2) rfl ?_
        refine D.pure tOk zOk rfl rfl rfl rfl ?_
        refine D.call rfl rfl rfl rfl rfl (pc_outref2_Of _ digitS (by decide) (by decide) (by have := @split_at w.e [46] i; omega)) ?_
        refine D.pure tOk zOk rfl rfl rfl rfl ?_
        refine D.pure tOk zOk rfl rfl rfl rfl ?_
        refine thenK_n ?_
        refine W.seq ?_
        refine W.region ?_
        refine S.pure tOk zOk rfl rfl rfl ?_
        refine S.pure tOk zOk rfl rfl rfl ?_
        refine S.pureE tOk zOk rfl (row_ok hi.1) (row_at [] hi.1) rfl ?_
        refine S.pure tOk zOk rfl rfl rfl ?_
        refine S.call rfl rfl rfl rfl rfl (pc_Atoi _ (by have := @split_at v.e [46] i; omega)) ?_
        refine S.pure tOk zOk rfl rfl rfl ?_
        refine S.pure tOk zOk rfl rfl rfl ?_
        refine S.pure tOk zOk rfl rfl rfl ?_
        refine S.pure tOk zOk rfl rfl rfl ?_
        refine S.pure tOk zOk rfl rfl rfl ?_
        refine thenK_n ?_
        refine W.seq ?_
        refine W.region ?_
        refine S.pure tOk zOk rfl rfl rfl ?_
        refine S.pure tOk zOk rfl rfl rfl ?_
        refine S.pureE tOk zOk rfl (row_ok hi.2) (row_at [] hi.2) rfl ?_
        refine S.pure tOk zOk rfl rfl rfl ?_
        refine S.call rfl rfl rfl rfl rfl (pc_Atoi _ (by have := @split_at w.e [46] i; omega)) ?_
        refine S.pure tOk zOk rfl rfl rfl ?_
        refine S.pure tOk zOk rfl rfl rfl ?_
        refine S.pure tOk zOk rfl rfl rfl ?_
        refine S.pure tOk zOk rfl rfl rfl ?_
        refine S.pure tOk zOk rfl rfl rfl ?_
        refine thenK_n ?_
        refine W.seq ?_
        refine W.regionD mixed (by kernel_rfl) ?_
        refine D.pure tOk zOk rfl rfl rfl rfl ?_
        refine D.pure tOk zOk rfl rfl rfl rfl ?_
        refine D.pureE tOk zOk rfl rfl (row_ok hi.1) (row_at [] hi.1) rfl ?_
        refine D.pure tOk zOk rfl rfl rfl rfl ?_
        refine D.pure tOk zOk rfl rfl rfl rfl ?_
        refine D.pure tOk zOk rfl rfl rfl rfl ?_
        refine D.pureE tOk zOk rfl rfl (row_ok hi.2) (row_at [] hi.2) rfl ?_
        refine D.pure tOk zOk rfl rfl rfl rfl ?_
        refine D.call rfl rfl rfl rfl rfl (pc_Compare _ _) ?_
        refine D.pure tOk zOk rfl rfl rfl rfl ?_
        refine thenK_n ?_
        refine W.seq ?_
        refine W.block ?_
        refine W.seq ?_
        refine W.region ?_
        refine S.pure tOk zOk rfl rfl rfl ?_
        refine S.pure tOk zOk rfl rfl rfl ?_
        refine S.pureG tOk zOk rfl rfl (by repeat first | exact allT_nil | refine allT_cons (fun h => h) ?_ | refine allT_cons (fun h => andl h) ?_ | refine allT_cons (fun h => andl (andl h)) ?_ | refine allT_cons (fun _ => rfl) ?_) (fun _ => rfl) rfl ?_
        refine S.pickAnd tOk zOk rfl rfl (by repeat first | exact allT_nil | refine allT_cons (fun h => h) ?_ | refine allT_cons (fun h => andl h) ?_ | refine allT_cons (fun h => andl (andl h)) ?_ | refine allT_cons (fun _ => rfl) ?_) ?_
        refine S.pure tOk zOk rfl rfl rfl ?_
        refine thenK_n ?_
        refine W.cond rfl (fun c4 => ?_) (fun c4 => ?_)
        · skip
          refine W.region ?_
          refine S.pure tOk zOk rfl rfl rfl ?_
          refine S.pure tOk zOk rfl rfl rfl ?_
          refine S.call rfl rfl rfl rfl rfl (pc_cmpInt _ _) ?_
          refine S.pure tOk zOk rfl rfl rfl ?_
          refine blockK_n ?_
          refine thenK_n ?_
          refine W.seq ?_
          refine W.region ?_
          refine S.pure tOk zOk rfl rfl rfl ?_
          refine S.pure tOk zOk rfl rfl rfl ?_
          refine thenK_n ?_
          refine W.cond rfl (fun c5 => ?_) (fun c5 => ?_)
          · skip
            refine W.seq ?_
            refine W.region ?_
            refine S.pure tOk zOk rfl rfl rfl ?_
            refine S.pure tOk zOk rfl rfl rfl ?_
            refine thenK_n ?_
            refine W.ret ?_
            refine blockK_r ?_
            refine thenK_r ?_
            refine thenK_r ?_
            refine blockK_r ?_
            refine thenK_r ?_
            exact ⟨_, rfl, rfl, LeV.of_eq (congrArg (fun x => V.one (C.d (D.int .i64 x))) ((cmp_3 c1 c2).trans (cw_hit hi f0_1 (cw_pq c4) c5)).symm)⟩
          · skip
            refine W.skip ?_
            refine blockK_n ?_
            refine thenK_n ?_
            refine W.region ?_
            refine S.pure tOk zOk rfl rfl rfl ?_
            refine S.pure tOk zOk rfl rfl rfl ?_
            refine loop_n ((Lib.split v.e [46]).length - (i + 1)) (by omega) ⟨i + 1, by omega, all_take_succ (d := 0) (cw_lt hi) f0_1 (cw_go hi (cw_pq c4) c5), rfl, _, _, _, _, rfl, rfl, rfl, rfl, inc_i64 (by omega), trivial⟩
        · skip
          refine W.seq ?_
          refine W.region ?_
          refine S.pure tOk zOk rfl rfl rfl ?_
          refine S.pure tOk zOk rfl rfl rfl ?_
          refine thenK_n ?_
          refine W.cond rfl (fun c6 => ?_) (fun c6 => ?_)
          · skip
            refine W.region ?_
            refine S.pure tOk zOk rfl rfl rfl ?_
            refine blockK_n ?_
            refine thenK_n ?_
            refine W.seq ?_
            refine W.region ?_
            refine S.pure tOk zOk rfl rfl rfl ?_
            refine S.pure tOk zOk rfl rfl rfl ?_
            refine thenK_n ?_
            refine W.cond rfl (fun c7 => ?_) (fun c7 => ?_)
            · skip
              refine W.seq ?_
              refine W.region ?_
              refine S.pure tOk zOk rfl rfl rfl ?_
              refine S.pure tOk zOk rfl rfl rfl ?_
              refine thenK_n ?_
              refine W.ret ?_
              refine blockK_r ?_
              refine thenK_r ?_
              refine thenK_r ?_
              refine blockK_r ?_
              refine thenK_r ?_
              exact ⟨_, rfl, rfl, LeV.of_eq (congrArg (fun x => V.one (C.d (D.int .i64 x))) ((cmp_3 c1 c2).trans (cw_hit hi f0_1 (cw_p c4 c6) c7)).symm)⟩
            · skip
              refine W.skip ?_
              refine blockK_n ?_
              refine thenK_n ?_
              refine W.region ?_
              refine S.pure tOk zOk rfl rfl rfl ?_
              refine S.pure tOk zOk rfl rfl rfl ?_
              refine loop_n ((Lib.split v.e [46]).length - (i + 1)) (by omega) ⟨i + 1, by omega, all_take_succ (d := 0) (cw_lt hi) f0_1 (cw_go hi (cw_p c4 c6) c7), rfl, _, _, _, _, rfl, rfl, rfl, rfl, inc_i64 (by omega), trivial⟩
          · skip
            refine W.seq ?_
            refine W.region ?_
            refine S.pure tOk zOk rfl rfl rfl ?_
            refine S.pure tOk zOk rfl rfl rfl ?_
            refine thenK_n ?_
            refine W.cond rfl (fun c8 => ?_) (fun c8 => ?_)
            · skip
              refine W.region ?_
              refine S.pure tOk zOk rfl rfl rfl ?_
              refine blockK_n ?_
              refine thenK_n ?_
              refine W.seq ?_
              refine W.region ?_
              refine S.pure tOk zOk rfl rfl rfl ?_
              refine S.pure tOk zOk rfl rfl rfl ?_
              refine thenK_n ?_
              refine W.cond rfl (fun c9 => ?_) (fun c9 => ?_)
              · skip
                refine W.seq ?_
                refine W.region ?_
                refine S.pure tOk zOk rfl rfl rfl ?_
                refine S.pure tOk zOk rfl rfl rfl ?_
                refine thenK_n ?_
                refine W.ret ?_
                refine blockK_r ?_
                refine thenK_r ?_
                refine thenK_r ?_
                refine blockK_r ?_
                refine thenK_r ?_
                exact ⟨_, rfl, rfl, LeV.of_eq (congrArg (fun x => V.one (C.d (D.int .i64 x))) ((cmp_3 c1 c2).trans (cw_hit hi f0_1 (cw_q c4 c6 c8) c9)).symm)⟩
              · skip
                refine W.skip ?_
                refine blockK_n ?_
                refine thenK_n ?_
                refine W.region ?_
                refine S.pure tOk zOk rfl rfl rfl ?_
                refine S.pure tOk zOk rfl rfl rfl ?_
                refine loop_n ((Lib.split v.e [46]).length - (i + 1)) (by omega) ⟨i + 1, by omega, all_take_succ (d := 0) (cw_lt hi) f0_1 (cw_go hi (cw_q c4 c6 c8) c9), rfl, _, _, _, _, rfl, rfl, rfl, rfl, inc_i64 (by omega), trivial⟩
            · skip
              refine W.skip ?_
              refine blockK_n ?_
              refine thenK_n ?_
              refine W.seq ?_
              refine W.region ?_
              refine S.pure tOk zOk rfl rfl rfl ?_
              refine S.pure tOk zOk rfl rfl rfl ?_
              refine thenK_n ?_
              refine W.cond rfl (fun c10 => ?_) (fun c10 => ?_)
              · skip
                refine W.seq ?_
                refine W.region ?_
                refine S.pure tOk zOk rfl rfl rfl ?_
                refine S.pure tOk zOk rfl rfl rfl ?_
                refine thenK_n ?_
                refine W.ret ?_
                refine blockK_r ?_
                refine thenK_r ?_
                refine thenK_r ?_
                refine blockK_r ?_
                refine thenK_r ?_
                exact ⟨_, rfl, rfl, LeV.of_eq (congrArg (fun x => V.one (C.d (D.int .i64 x))) ((cmp_3 c1 c2).trans (cw_hit hi f0_1 (cw_n c4 c6 c8) c10)).symm)⟩
              · skip
                refine W.skip ?_
                refine blockK_n ?_
                refine thenK_n ?_
                refine W.region ?_
                refine S.pure tOk zOk rfl rfl rfl ?_
                refine S.pure tOk zOk rfl rfl rfl ?_
                refine loop_n ((Lib.split v.e [46]).length - (i + 1)) (by omega) ⟨i + 1, by omega, all_take_succ (d := 0) (cw_lt hi) f0_1 (cw_go hi (cw_n c4 c6 c8) c10), rfl, _, _, _, _, rfl, rfl, rfl, rfl, inc_i64 (by omega), trivial⟩
      · skip
        have hi := min_ge (xs := (Lib.split v.e [46])) (ys := (Lib.split w.e [46])) (by simp) (by simp) c3
        refine W.exit ?_
        refine thenK_e ?_
        refine thenK_e ?_
        refine blockK_x ?_
        refine thenK_n ?_
        refine W.seq ?_
        refine W.region ?_
        refine S.pure tOk zOk rfl rfl rfl ?_
        refine S.pure tOk zOk rfl rfl rfl ?_
        refine S.pure tOk zOk rfl rfl rfl ?_
        refine S.pure tOk zOk rfl rfl rfl ?_
        refine S.call rfl rfl rfl rfl rfl (pc_cmpInt _ _) ?_
        refine S.pure tOk zOk rfl rfl rfl ?_
        refine thenK_n ?_
        refine W.ret ?_
        exact ⟨_, rfl, rfl, LeV.of_force rfl (by rw [(cmp_3 c1 c2).trans (cw_end hi f0_1)]; simp)⟩

end Go.Proofs.YtnphejkeflngcaaGreatDoor

/- Plain words on versions: what is printed is read again. -/
set_option linter.unusedVariables false
set_option linter.unusedSimpArgs false
namespace Go.Proofs.YtnphejkeflngcaaGreatDoor
open Go
theorem num_itoa {n : Int} (h : outsideN n = false) : numB (Lib.itoa n) = (n, true) ∧ (∀ c ∈ Lib.itoa n, 48 ≤ c.toNat ∧ c.toNat ≤ 57) := by
  have hb : 0 ≤ n ∧ n ≤ 999999 := by unfold outsideN outsideB at h; simp at h; omega
  have hi : Lib.itoa n = Lib.decDigits n.toNat := by unfold Lib.itoa; rw [if_neg (by omega)]
  rw [hi]
  refine ⟨?_, digits_all _⟩
  have hd : ((Lib.decDigits n.toNat).all fun c => isDigit (bI c)) = true := by
    rw [List.all_eq_true]; intro c hc
    have := digits_all _ c hc
    unfold isDigit bI; simp; omega
  have hl := digits_len 5 n.toNat (by have : (10 : Nat) ^ 6 = 1000000 := by decide
                                      omega)
  have ha := atoi_dec (digits_ne n.toNat) (by omega) hd
  have he : eachB isDigit (Lib.decDigits n.toNat) 9 = true := by
    unfold eachB
    rw [hd]; simp only [Bool.true_and, Bool.and_eq_true, Bool.not_eq_true', beq_eq_false_iff_ne, decide_eq_true_eq]
    exact ⟨digits_ne _, by omega⟩
  have hz : (bI ((Lib.decDigits n.toNat).getD 0 0) == 48 && !(Lib.decDigits n.toNat == [48])) = false := by
    by_cases h0 : n.toNat = 0
    · rw [h0, digits_zero]; rfl
    · have := digits_head _ h0
      have : (bI ((Lib.decDigits n.toNat).getD 0 0) == 48) = false := by rw [beq_eq_false_iff_ne]; unfold bI; omega
      rw [this]; rfl
  unfold numB
  rw [he, hz, ha.1, ha.2, digits_dec]
  simp only [Bool.not_true, Bool.or_self, Bool.false_eq_true, if_false, Prod.mk.injEq, and_true]
  omega
theorem not_mem_of {x : List UInt8} {c : UInt8} (h : ∀ d ∈ x, 48 ≤ d.toNat ∧ d.toNat ≤ 57) (hc : c.toNat < 48) : c ∉ x := fun hm => by have := h c hm; omega
theorem parse_text {v : Ver} (h : v.check = 0) : parseB (textB v.a v.b v.c v.e) = (v, 0) := by
  have h' := h
  unfold Ver.check checkB at h'
  split at h'
  · cases h'
  · rename_i ho
    have ho' : outsideN v.a = false ∧ outsideN v.b = false ∧ outsideN v.c = false := by
      cases ha : outsideN v.a <;> cases hb : outsideN v.b <;> cases hc : outsideN v.c <;> simp [ha, hb, hc] at ho ⊢
    obtain ⟨pa, qa⟩ := num_itoa ho'.1
    obtain ⟨pb, qb⟩ := num_itoa ho'.2.1
    obtain ⟨pc, qc⟩ := num_itoa ho'.2.2
    have hA : (45 : UInt8) ∉ Lib.itoa v.a ++ 46 :: (Lib.itoa v.b ++ 46 :: Lib.itoa v.c) := by
      have n1 := not_mem_of (c := 45) qa (by decide)
      have n2 := not_mem_of (c := 45) qb (by decide)
      have n3 := not_mem_of (c := 45) qc (by decide)
      simp [n1, n2, n3]
    have hs : Lib.split (Lib.itoa v.a ++ 46 :: (Lib.itoa v.b ++ 46 :: Lib.itoa v.c)) [46] = [Lib.itoa v.a, Lib.itoa v.b, Lib.itoa v.c] := by
      rw [split_cons (not_mem_of qa (by decide)), split_cons (not_mem_of qb (by decide)), split_none (not_mem_of qc (by decide))]
    have ht : threeB v.e (Lib.itoa v.a) (Lib.itoa v.b) (Lib.itoa v.c) = (v, 0) := by
      unfold threeB
      rw [pa, pb, pc]
      have : checkB v.a v.b v.c v.e = 0 := h
      simp [this]
    unfold parseB
    by_cases he : v.e = []
    · have e : textB v.a v.b v.c v.e = Lib.itoa v.a ++ 46 :: (Lib.itoa v.b ++ 46 :: Lib.itoa v.c) := by
        unfold textB; rw [he]; simp
      rw [e, cut_none hA, hs, parse_ok (by rfl), ← he]
      exact ht
    · have e : textB v.a v.b v.c v.e = (Lib.itoa v.a ++ 46 :: (Lib.itoa v.b ++ 46 :: Lib.itoa v.c)) ++ 45 :: v.e := by
        unfold textB
        rw [if_neg (by simpa using he)]; simp
      rw [e, cut_at hA, hs, parse_ok (by simp [he])]
      exact ht
theorem text_len {v : Ver} (h : v.check = 0) (he : v.e.length < 4294967000) : (textB v.a v.b v.c v.e).length < 4294967281 := by
  unfold Ver.check checkB at h
  split at h
  · cases h
  · rename_i ho
    have key : ∀ n, outsideN n = false → (Lib.itoa n).length ≤ 6 := fun n hn => by
      have hb : 0 ≤ n ∧ n ≤ 999999 := by unfold outsideN outsideB at hn; simp at hn; omega
      have hi : Lib.itoa n = Lib.decDigits n.toNat := by unfold Lib.itoa; rw [if_neg (by omega)]
      rw [hi]
      exact digits_len 5 n.toNat (by have : (10 : Nat) ^ 6 = 1000000 := by decide
                                     omega)
    have ho' : outsideN v.a = false ∧ outsideN v.b = false ∧ outsideN v.c = false := by
      cases ha : outsideN v.a <;> cases hb : outsideN v.b <;> cases hc : outsideN v.c <;> simp [ha, hb, hc] at ho ⊢
    have h1 := key _ ho'.1
    have h2 := key _ ho'.2.1
    have h3 := key _ ho'.2.2
    unfold textB
    split <;> simp <;> omega

def firstB (a b : Int) : Int := if a != 0 then a else b
theorem first2 (a b : Int) : firstNe [a, b] = firstB a b := by
  unfold firstNe firstB
  by_cases ha : a = 0 <;> by_cases hb : b = 0 <;> simp [ha, hb, bne_iff_ne]
theorem first1 (a : Int) : firstNe [a] = a := by
  unfold firstNe
  by_cases ha : a = 0 <;> simp [ha, bne_iff_ne]
def partE (p : Int) : Int := if !inB p 0 2 then 3 else 0
section
variable {v : Ver} {p : Int}
theorem part_ok (h : (firstB v.check (partE p) != 0) = false) : v.check = 0 ∧ 0 ≤ p ∧ p ≤ 2 := by
  unfold firstB partE at h
  by_cases hc : v.check = 0
  · simp [hc] at h
    unfold inB at h
    simp at h
    exact ⟨hc, by omega⟩
  · simp [hc] at h
theorem nxt_err (h : (firstB v.check (partE p) != 0) = true) : nextB v p = (Ver.z, firstB v.check (partE p)) := by
  unfold nextB
  by_cases hc : v.check = 0
  · have hp : partE p = 3 ∧ ¬ (0 ≤ p ∧ p ≤ 2) := by
      unfold firstB at h
      simp [hc] at h
      unfold partE at h ⊢
      cases hi : inB p 0 2 with
      | true => simp [hi] at h
      | false => unfold inB at hi; simp at hi; exact ⟨rfl, by omega⟩
    have h0 : (p == 0) = false := by simp; omega
    have h1 : (p == 1) = false := by simp; omega
    have h2 : (p == 2) = false := by simp; omega
    unfold firstB
    rw [hc, h0, h1, h2, hp.1]; rfl
  · unfold firstB
    rw [if_pos (by simpa using hc), if_pos (by simpa using hc)]
theorem nxt_0 (h : (firstB v.check (partE p) != 0) = false) (h0 : (p == 0) = true) : nextB v p = nextOk (w1 v.a) 0 0 := by
  unfold nextB
  rw [(part_ok h).1, h0]; rfl
theorem nxt_1 (h : (firstB v.check (partE p) != 0) = false) (h0 : (p == 0) = false) (h1 : (p == 1) = true) : nextB v p = nextOk v.a (w1 v.b) 0 := by
  unfold nextB
  rw [(part_ok h).1, h0, h1]; rfl
theorem two_of (h : (firstB v.check (partE p) != 0) = false) (h0 : (p == 0) = false) (h1 : (p == 1) = false) : (p == 2) = true := by
  have := part_ok h
  simp at h0 h1 ⊢; omega
theorem nxt_2 (h : (firstB v.check (partE p) != 0) = false) (h0 : (p == 0) = false) (h1 : (p == 1) = false) (h2 : (!(!(v.e == []))) = true) : nextB v p = nextOk v.a v.b (w1 v.c) := by
  unfold nextB
  rw [(part_ok h).1, h0, h1, two_of h h0 h1]
  rw [Bool.not_not] at h2
  rw [h2]; rfl
theorem nxt_3 (h : (firstB v.check (partE p) != 0) = false) (h0 : (p == 0) = false) (h1 : (p == 1) = false) (h2 : (!(!(v.e == []))) = false) : nextB v p = nextOk v.a v.b v.c := by
  unfold nextB
  rw [(part_ok h).1, h0, h1, two_of h h0 h1]
  rw [Bool.not_not] at h2
  rw [h2]; rfl
theorem nextOk_err {x y z : Int} (h : (checkB x y z [] != 0) = true) : nextOk x y z = (Ver.z, checkB x y z []) := by
  unfold nextOk
  rw [if_pos h, checkB_nil x y z (by simpa using h)]
theorem nextOk_ok {x y z : Int} (h : (checkB x y z [] != 0) = false) : nextOk x y z = (⟨x, y, z, []⟩, 0) := if_neg (Bool.eq_false_iff.1 h)
end
theorem printB_2 (v : Ver) : (printB v).2 = v.check := by
  unfold printB
  split
  · rfl
  · rename_i h; simp at h; exact h.symm
theorem compareB_2 (v w : Ver) : (compareB v w).2 = firstB v.check w.check := by
  unfold compareB firstB
  by_cases h1 : v.check = 0
  · by_cases h2 : w.check = 0 <;> simp [h1, h2]
  · simp [h1]
theorem print_len (v : Ver) (he : v.e.length < 4294967000) : (printB v).1.length < 4294967281 := by
  unfold printB
  split
  · simp
  · rename_i h; exact text_len (by simpa using h) he
theorem law_4 (v : Ver) (h : v.check = 0) : parseB (printB v).1 = (v, 0) := by
  have : (printB v).1 = textB v.a v.b v.c v.e := by unfold printB; rw [h]; rfl
  rw [this]; exact parse_text h
theorem versions_ok : (printB ⟨1, 0, 0, []⟩) = ([49, 46, 48, 46, 48], 0) := by
  have h0 : Lib.itoa 0 = [48] := by unfold Lib.itoa; rw [if_neg (by decide)]; exact digits_zero
  have h1 : Lib.itoa 1 = [49] := by unfold Lib.itoa; rw [if_neg (by decide)]; show Lib.decDigits 1 = _; rw [Lib.decDigits, dif_pos (by decide)]; rfl
  have hc : (⟨1, 0, 0, []⟩ : Ver).check = 0 := by decide
  unfold printB
  rw [hc]
  simp [textB, h0, h1]
theorem law_2 (a b : Ver) : ¬ ((((a.check != 0 && !((printB a).1 == [])) || (a.check == 0 && !((printB a).1 == textB a.a a.b a.c a.e))) || (firstB a.check b.check != 0 && !((compareB a b).1 == 0))) || (firstB a.check b.check == 0 && !((compareB a b).1 == compareR a b))) = true := by
  unfold printB compareB firstB
  by_cases h1 : a.check = 0
  · by_cases h2 : b.check = 0
    · simp [h1, h2, compare_eq h1 h2]
    · simp [h1, h2]
  · simp [h1]
end Go.Proofs.YtnphejkeflngcaaGreatDoor

set_option linter.unusedVariables false
set_option linter.unusedSimpArgs false
set_option maxRecDepth 100000
set_option maxHeartbeats 4000000
namespace Go.Proofs.YtnphejkeflngcaaGreatDoor
open Go
open Go.RowKit

theorem pc_verr1 (v : Ver) (he : v.e.length < 4294967281) : PureCall Tryz.prog J 20 [.one (.d (.vec 4 [verD v]))] (.one (.d (.int .i64 v.check))) := by
  have h := pc_outref2_VersionError [v] (by simp) (by simpa using he)
  rw [show firstNe ([v].map Ver.check) = v.check from first1 _] at h
  exact h
theorem pc_first2 (a b : Int) : PureCall Tryz.prog J 19 [.one (.d (.vec 1 [[.int .i64 a], [.int .i64 b]]))] (.one (.d (.int .i64 (firstB a b)))) := by
  have h := pc_outref2_First [a, b] (by simp)
  rw [first2] at h
  exact h
theorem pc_num9 (s : List UInt8) (hs : s.length < 4294967281) : PureCall Tryz.prog J 129 [.one (.d (.str s)), .one (.d (.int .i64 9))] (.tup [.one (.d (.int .i64 (numB s).1)), .one (.d (.bool (numB s).2))]) := by
  have h := pc_outref2_Number s 9 (by decide) hs
  rw [numR_eq] at h
  exact h

theorem pc_outref2_NextOf (v : Ver) (he : v.e.length < 4294967281) (p : Int) :
    PureCall Tryz.prog J 131 [verV v, .one (.d (.int .i64 p))] (.tup [verV (nextB v p).1, .one (.d (.int .i64 (nextB v p).2))]) := by
  refine PureCall.of_body tOk (fn := Tryz.f131) Tryz.func131 (by kernel_rfl) rfl (Nat.le_of_ble_eq_true rfl) (fun E => ?_)
  refine W.seq ?_
  refine W.region ?_
  refine S.box rfl rfl rfl rfl ?_
  refine S.alloc tOk rfl rfl rfl rfl ?_
  refine S.pure tOk zOk rfl rfl rfl ?_
  refine thenK_n ?_
  refine W.seq ?_
  refine W.seq ?_
  refine W.region ?_
  refine S.pure tOk zOk rfl rfl rfl ?_
  refine S.slice tOk rfl rfl ?_
  refine S.call rfl rfl rfl rfl rfl (pc_verr1 v he) ?_
  refine S.pure tOk zOk rfl rfl rfl ?_
  refine S.call rfl rfl rfl rfl rfl (pc_outref2_In _ _ _) ?_
  refine S.pure tOk zOk rfl rfl rfl ?_
  refine S.call rfl rfl rfl rfl rfl (pc_outref2_When _ _) ?_
  refine S.slice tOk rfl rfl ?_
  refine S.call rfl rfl rfl rfl rfl (pc_first2 v.check (partE p)) ?_
  refine S.pure tOk zOk rfl rfl rfl ?_
  refine thenK_n ?_
  refine W.seq ?_
  refine W.region ?_
  refine S.pure tOk zOk rfl rfl rfl ?_
  refine S.pure tOk zOk rfl rfl rfl ?_
  refine thenK_n ?_
  refine W.cond rfl (fun c1 => ?_) (fun c1 => ?_)
  · skip
    refine W.seq ?_
    refine W.region ?_
    refine S.pure tOk zOk rfl rfl rfl ?_
    refine S.pure tOk zOk rfl rfl rfl ?_
    refine S.store tOk rfl rfl rfl rfl rfl rfl rfl rfl ?_
    refine S.pure tOk zOk rfl rfl rfl ?_
    refine thenK_n ?_
    refine W.ret ?_
    refine thenK_r ?_
    exact ⟨_, rfl, rfl, LeV.of_force rfl (by rw [nxt_err c1]; rfl)⟩
  · skip
    refine W.skip ?_
    refine thenK_n ?_
    refine W.seq ?_
    refine W.region ?_
    refine S.pure tOk zOk rfl rfl rfl ?_
    refine S.pure tOk zOk rfl rfl rfl ?_
    refine S.pure tOk zOk rfl rfl rfl ?_
    refine S.pure tOk zOk rfl rfl rfl ?_
    refine thenK_n ?_
    refine W.seq ?_
    refine W.region ?_
    refine S.pure tOk zOk rfl rfl rfl ?_
    refine S.store tOk rfl rfl rfl rfl rfl rfl rfl rfl ?_
    refine thenK_n ?_
    refine W.seq ?_
    refine W.block ?_
    refine W.seq ?_
    refine W.region ?_
    refine S.pure tOk zOk rfl rfl rfl ?_
    refine S.pure tOk zOk rfl rfl rfl ?_
    refine S.pure tOk zOk rfl rfl rfl ?_
    refine thenK_n ?_
    refine W.cond rfl (fun c2 => ?_) (fun c2 => ?_)
    · skip
      refine W.region ?_
      refine S.pure tOk zOk rfl rfl rfl ?_
      refine S.pure tOk zOk rfl rfl rfl ?_
      refine S.pure tOk zOk rfl rfl rfl ?_
      refine S.pure tOk zOk rfl rfl rfl ?_
      refine S.store tOk rfl rfl rfl rfl rfl rfl rfl rfl ?_
      refine blockK_n ?_
      refine thenK_n ?_
      refine W.seq ?_
      refine W.seq ?_
      refine W.region ?_
      refine S.pure tOk zOk rfl rfl rfl ?_
      refine S.slice tOk rfl rfl ?_
      refine S.call rfl rfl rfl rfl rfl (pc_verr1 ⟨w1 v.a, 0, 0, []⟩ (by decide : ([] : List UInt8).length < _)) ?_
      refine S.pure tOk zOk rfl rfl rfl ?_
      refine thenK_n ?_
      refine W.seq ?_
      refine W.region ?_
      refine S.pure tOk zOk rfl rfl rfl ?_
      refine S.pure tOk zOk rfl rfl rfl ?_
      refine thenK_n ?_
      refine W.cond rfl (fun c3 => ?_) (fun c3 => ?_)
      · skip
        refine W.seq ?_
        refine W.region ?_
        refine S.pure tOk zOk rfl rfl rfl ?_
        refine S.pure tOk zOk rfl rfl rfl ?_
        refine S.store tOk rfl rfl rfl rfl rfl rfl rfl rfl ?_
        refine S.pure tOk zOk rfl rfl rfl ?_
        refine thenK_n ?_
        refine W.ret ?_
        refine thenK_r ?_
        exact ⟨_, rfl, rfl, LeV.of_force rfl (by rw [(nxt_0 c1 c2).trans (nextOk_err c3)]; rfl)⟩
      · skip
        refine W.skip ?_
        refine thenK_n ?_
        refine W.seq ?_
        refine W.region ?_
        refine S.pure tOk zOk rfl rfl rfl ?_
        refine S.store tOk rfl rfl rfl rfl rfl rfl rfl rfl ?_
        refine S.pure tOk zOk rfl rfl rfl ?_
        refine thenK_n ?_
        refine W.ret ?_
        exact ⟨_, rfl, rfl, LeV.of_force rfl (by rw [(nxt_0 c1 c2).trans (nextOk_ok c3)]; rfl)⟩
    · skip
      refine W.seq ?_
      refine W.region ?_
      refine S.pure tOk zOk rfl rfl rfl ?_
      refine S.pure tOk zOk rfl rfl rfl ?_
      refine S.pure tOk zOk rfl rfl rfl ?_
      refine thenK_n ?_
      refine W.cond rfl (fun c4 => ?_) (fun c4 => ?_)
      · skip
        refine W.region ?_
        refine S.pure tOk zOk rfl rfl rfl ?_
        refine S.pure tOk zOk rfl rfl rfl ?_
        refine S.pure tOk zOk rfl rfl rfl ?_
        refine S.pure tOk zOk rfl rfl rfl ?_
        refine S.pure tOk zOk rfl rfl rfl ?_
        refine S.pure tOk zOk rfl rfl rfl ?_
        refine S.store tOk rfl rfl rfl rfl rfl rfl rfl rfl ?_
        refine blockK_n ?_
        refine thenK_n ?_
        refine W.seq ?_
        refine W.seq ?_
        refine W.region ?_
        refine S.pure tOk zOk rfl rfl rfl ?_
        refine S.slice tOk rfl rfl ?_
        refine S.call rfl rfl rfl rfl rfl (pc_verr1 ⟨v.a, w1 v.b, 0, []⟩ (by decide : ([] : List UInt8).length < _)) ?_
        refine S.pure tOk zOk rfl rfl rfl ?_
        refine thenK_n ?_
        refine W.seq ?_
        refine W.region ?_
        refine S.pure tOk zOk rfl rfl rfl ?_
        refine S.pure tOk zOk rfl rfl rfl ?_
        refine thenK_n ?_
        refine W.cond rfl (fun c5 => ?_) (fun c5 => ?_)
        · skip
          refine W.seq ?_
          refine W.region ?_
          refine S.pure tOk zOk rfl rfl rfl ?_
          refine S.pure tOk zOk rfl rfl rfl ?_
          refine S.store tOk rfl rfl rfl rfl rfl rfl rfl rfl ?_
          refine S.pure tOk zOk rfl rfl rfl ?_
          refine thenK_n ?_
          refine W.ret ?_
          refine thenK_r ?_
          exact ⟨_, rfl, rfl, LeV.of_force rfl (by rw [(nxt_1 c1 c2 c4).trans (nextOk_err c5)]; rfl)⟩
        · skip
          refine W.skip ?_
          refine thenK_n ?_
          refine W.seq ?_
          refine W.region ?_
          refine S.pure tOk zOk rfl rfl rfl ?_
          refine S.store tOk rfl rfl rfl rfl rfl rfl rfl rfl ?_
          refine S.pure tOk zOk rfl rfl rfl ?_
          refine thenK_n ?_
          refine W.ret ?_
          exact ⟨_, rfl, rfl, LeV.of_force rfl (by rw [(nxt_1 c1 c2 c4).trans (nextOk_ok c5)]; rfl)⟩
      · skip
        refine W.seq ?_
        refine W.region ?_
        refine S.pure tOk zOk rfl rfl rfl ?_
        refine S.pure tOk zOk rfl rfl rfl ?_
        refine S.pure tOk zOk rfl rfl rfl ?_
        refine thenK_n ?_
        refine W.cond rfl (fun c6 => ?_) (fun c6 => ?_)
        · skip
          refine W.region ?_
          refine S.pure tOk zOk rfl rfl rfl ?_
          refine S.pure tOk zOk rfl rfl rfl ?_
          refine S.pure tOk zOk rfl rfl rfl ?_
          refine S.pure tOk zOk rfl rfl rfl ?_
          refine S.store tOk rfl rfl rfl rfl rfl rfl rfl rfl ?_
          refine blockK_n ?_
          refine thenK_n ?_
          refine W.seq ?_
          refine W.seq ?_
          refine W.region ?_
          refine S.pure tOk zOk rfl rfl rfl ?_
          refine S.slice tOk rfl rfl ?_
          refine S.call rfl rfl rfl rfl rfl (pc_verr1 ⟨v.a, v.b, w1 v.c, []⟩ (by decide : ([] : List UInt8).length < _)) ?_
          refine S.pure tOk zOk rfl rfl rfl ?_
          refine thenK_n ?_
          refine W.seq ?_
          refine W.region ?_
          refine S.pure tOk zOk rfl rfl rfl ?_
          refine S.pure tOk zOk rfl rfl rfl ?_
          refine thenK_n ?_
          refine W.cond rfl (fun c7 => ?_) (fun c7 => ?_)
          · skip
            refine W.seq ?_
            refine W.region ?_
            refine S.pure tOk zOk rfl rfl rfl ?_
            refine S.pure tOk zOk rfl rfl rfl ?_
            refine S.store tOk rfl rfl rfl rfl rfl rfl rfl rfl ?_
            refine S.pure tOk zOk rfl rfl rfl ?_
            refine thenK_n ?_
            refine W.ret ?_
            refine thenK_r ?_
            exact ⟨_, rfl, rfl, LeV.of_force rfl (by rw [(nxt_2 c1 c2 c4 c6).trans (nextOk_err c7)]; rfl)⟩
          · skip
            refine W.skip ?_
            refine thenK_n ?_
            refine W.seq ?_
            refine W.region ?_
            refine S.pure tOk zOk rfl rfl rfl ?_
            refine S.store tOk rfl rfl rfl rfl rfl rfl rfl rfl ?_
            refine S.pure tOk zOk rfl rfl rfl ?_
            refine thenK_n ?_
            refine W.ret ?_
            exact ⟨_, rfl, rfl, LeV.of_force rfl (by rw [(nxt_2 c1 c2 c4 c6).trans (nextOk_ok c7)]; rfl)⟩
        · skip
          refine W.skip ?_
          refine blockK_n ?_
          refine thenK_n ?_
          refine W.seq ?_
          refine W.seq ?_
          refine W.region ?_
          refine S.pure tOk zOk rfl rfl rfl ?_
          refine S.slice tOk rfl rfl ?_
          refine S.call rfl rfl rfl rfl rfl (pc_verr1 ⟨v.a, v.b, v.c, []⟩ (by decide : ([] : List UInt8).length < _)) ?_
          refine S.pure tOk zOk rfl rfl rfl ?_
          refine thenK_n ?_
          refine W.seq ?_
          refine W.region ?_
          refine S.pure tOk zOk rfl rfl rfl ?_
          refine S.pure tOk zOk rfl rfl rfl ?_
          refine thenK_n ?_
          refine W.cond rfl (fun c8 => ?_) (fun c8 => ?_)
          · skip
            refine W.seq ?_
            refine W.region ?_
            refine S.pure tOk zOk rfl rfl rfl ?_
            refine S.pure tOk zOk rfl rfl rfl ?_
            refine S.store tOk rfl rfl rfl rfl rfl rfl rfl rfl ?_
            refine S.pure tOk zOk rfl rfl rfl ?_
            refine thenK_n ?_
            refine W.ret ?_
            refine thenK_r ?_
            exact ⟨_, rfl, rfl, LeV.of_force rfl (by rw [(nxt_3 c1 c2 c4 c6).trans (nextOk_err c8)]; rfl)⟩
          · skip
            refine W.skip ?_
            refine thenK_n ?_
            refine W.seq ?_
            refine W.region ?_
            refine S.pure tOk zOk rfl rfl rfl ?_
            refine S.store tOk rfl rfl rfl rfl rfl rfl rfl rfl ?_
            refine S.pure tOk zOk rfl rfl rfl ?_
            refine thenK_n ?_
            refine W.ret ?_
            exact ⟨_, rfl, rfl, LeV.of_force rfl (by rw [(nxt_3 c1 c2 c4 c6).trans (nextOk_ok c8)]; rfl)⟩

theorem pc_outref2_ReadVersion (s : List UInt8) (hs : s.length < 4294967281) :
    PureCall Tryz.prog J 54 [.one (.d (.str s))] (.tup [verV (parseB s).1, .one (.d (.int .i64 (parseB s).2))]) := by
  have hc := cut_le s [45]
  have hm := fun i => @split_at (Lib.cut s [45]).1 [46] i
  have hsp := pc_Split (Lib.cut s [45]).1 [46] (by omega) (by decide)
  unfold parseB
  generalize hws : Lib.split (Lib.cut s [45]).1 [46] = ws at hm hsp ⊢
  refine PureCall.of_body tOk (fn := Tryz.f54) Tryz.func54 (by kernel_rfl) rfl (Nat.le_of_ble_eq_true rfl) (fun E => ?_)
  refine W.seq ?_
  refine W.region ?_
  refine S.alloc tOk rfl rfl rfl rfl ?_
  refine S.pure tOk zOk rfl rfl rfl ?_
  refine thenK_n ?_
  refine W.seq ?_
  refine W.region ?_
  refine S.pure tOk zOk rfl rfl rfl ?_
  refine S.call rfl rfl rfl rfl rfl (pc_Cut _ _ hs) ?_
  refine S.pure tOk zOk rfl rfl rfl ?_
  refine S.pure tOk zOk rfl rfl rfl ?_
  refine S.pure tOk zOk rfl rfl rfl ?_
  refine S.pure tOk zOk rfl rfl rfl ?_
  refine S.pure tOk zOk rfl rfl rfl ?_
  refine S.pure tOk zOk rfl rfl rfl ?_
  refine S.pure tOk zOk rfl rfl rfl ?_
  refine thenK_n ?_
  refine W.seq ?_
  refine W.region ?_
  refine S.pure tOk zOk rfl rfl rfl ?_
  refine S.call rfl rfl rfl rfl rfl (hsp) ?_
  refine S.pure tOk zOk rfl rfl rfl ?_
  refine thenK_n ?_
  refine W.seq ?_
  refine W.seq ?_
  refine W.region ?_
  refine S.pure tOk zOk rfl rfl rfl ?_
  refine S.pure tOk zOk rfl rfl rfl ?_
  refine S.pure tOk zOk rfl rfl rfl ?_
  refine S.pure tOk zOk rfl rfl rfl ?_
  refine S.pureG tOk zOk rfl rfl (by repeat first | exact allT_nil | refine allT_cons (fun h => h) ?_ | refine allT_cons (fun h => andl h) ?_ | refine allT_cons (fun h => andl (andl h)) ?_ | refine allT_cons (fun _ => rfl) ?_) (fun _ => rfl) rfl ?_
  refine S.pureG tOk zOk rfl rfl (by repeat first | exact allT_nil | refine allT_cons (fun h => h) ?_ | refine allT_cons (fun h => andl h) ?_ | refine allT_cons (fun h => andl (andl h)) ?_ | refine allT_cons (fun _ => rfl) ?_) (fun _ => rfl) rfl ?_
  refine S.pureG tOk zOk rfl rfl (by repeat first | exact allT_nil | refine allT_cons (fun h => h) ?_ | refine allT_cons (fun h => andl h) ?_ | refine allT_cons (fun h => andl (andl h)) ?_ | refine allT_cons (fun _ => rfl) ?_) (fun _ => rfl) rfl ?_
  refine S.pureG tOk zOk rfl rfl (by repeat first | exact allT_nil | refine allT_cons (fun h => h) ?_ | refine allT_cons (fun h => andl h) ?_ | refine allT_cons (fun h => andl (andl h)) ?_ | refine allT_cons (fun _ => rfl) ?_) (fun _ => rfl) rfl ?_
  refine S.pickAndG tOk zOk rfl rfl rfl (by repeat first | exact allT_nil | refine allT_cons (fun h => h) ?_ | refine allT_cons (fun h => andl h) ?_ | refine allT_cons (fun h => andl (andl h)) ?_ | refine allT_cons (fun _ => rfl) ?_) (by repeat first | exact allT_nil | refine allT_cons (fun h => h) ?_ | refine allT_cons (fun h => andl h) ?_ | refine allT_cons (fun h => andl (andl h)) ?_ | refine allT_cons (fun _ => rfl) ?_) ?_
  refine S.pickOr tOk zOk rfl rfl (by repeat first | exact allT_nil | refine allT_cons (fun h => h) ?_ | refine allT_cons (fun h => andl h) ?_ | refine allT_cons (fun h => andl (andl h)) ?_ | refine allT_cons (fun _ => rfl) ?_) ?_
  refine thenK_n ?_
  refine W.cond rfl (fun c1 => ?_) (fun c1 => ?_)
  · skip
    refine W.seq ?_
    refine W.region ?_
    refine S.pure tOk zOk rfl rfl rfl ?_
    refine S.store tOk rfl rfl rfl rfl rfl rfl rfl rfl ?_
    refine S.pure tOk zOk rfl rfl rfl ?_
    refine thenK_n ?_
    refine W.ret ?_
    refine thenK_r ?_
    exact ⟨_, rfl, rfl, LeV.of_force rfl (by simp_all [parseW, verV, Ver.z])⟩
  · skip
    have h3 : ws.length = 3 := by simp at c1; omega
    obtain ⟨p, q, r, rfl⟩ := three h3
    refine W.skip ?_
    refine thenK_n ?_
    refine W.seq ?_
    refine W.region ?_
    refine S.alloc tOk rfl rfl rfl rfl ?_
    refine thenK_n ?_
    refine W.seq ?_
    refine W.seq ?_
    refine W.region ?_
    refine S.pure tOk zOk rfl rfl rfl ?_
    refine thenK_n ?_
    refine W.block ?_
    refine W.rounds 4 ?_
    refine WR.succ ?_
    refine W.seq ?_
    refine W.region ?_
    refine S.pure tOk zOk rfl rfl rfl ?_
    refine thenK_n ?_
    refine W.seq ?_
    refine W.condT rfl rfl ?_
    refine W.skip ?_
    refine thenK_n ?_
    refine W.seq ?_
    refine W.block ?_
    refine W.seq ?_
    refine W.region ?_
    refine S.pure tOk zOk rfl rfl rfl ?_
    refine S.pure tOk zOk rfl rfl rfl ?_
    refine thenK_n ?_
    refine W.seq ?_
    refine W.region ?_
    refine S.pure tOk zOk rfl rfl rfl ?_
    refine S.pure tOk zOk rfl rfl rfl ?_
    refine S.pure tOk zOk rfl (by first | rfl | exact idx_ok (by omega) (by omega)) rfl ?_
    refine S.pure tOk zOk rfl rfl rfl ?_
    refine S.call rfl rfl rfl rfl rfl (pc_num9 _ (by first | (have := hm 0; simp at this; omega) | (have := hm 1; simp at this; omega) | (have := hm 2; simp at this; omega))) ?_
    refine S.pure tOk zOk rfl rfl rfl ?_
    refine S.pure tOk zOk rfl rfl rfl ?_
    refine S.pure tOk zOk rfl rfl rfl ?_
    refine S.pure tOk zOk rfl rfl rfl ?_
    refine S.pure tOk zOk rfl rfl rfl ?_
    refine thenK_n ?_
    refine W.seq ?_
    refine W.seq ?_
    refine W.region ?_
    refine S.pure tOk zOk rfl rfl rfl ?_
    refine S.pure tOk zOk rfl rfl rfl ?_
    refine thenK_n ?_
    refine W.cond rfl (fun c3 => ?_) (fun c3 => ?_)
    · skip
      refine W.seq ?_
      refine W.region ?_
      refine S.pure tOk zOk rfl rfl rfl ?_
      refine S.store tOk rfl rfl rfl rfl rfl rfl rfl rfl ?_
      refine S.pure tOk zOk rfl rfl rfl ?_
      refine thenK_n ?_
      refine W.ret ?_
      refine thenK_r ?_
      refine blockK_r ?_
      refine thenK_r ?_
      refine thenK_r ?_
      refine blockK_r ?_
      refine thenK_r ?_
      exact ⟨_, rfl, rfl, LeV.of_force rfl (by rw [parse_ok c1]; clear c1; simp_all [threeB, verV, Ver.z, Ver.check])⟩
    · skip
      refine W.skip ?_
      refine thenK_n ?_
      refine W.region ?_
      refine S.pure tOk zOk rfl rfl rfl ?_
      refine S.pure tOk zOk rfl rfl rfl ?_
      refine S.pure tOk zOk rfl (by first | rfl | exact idx_ok (by omega) (by omega)) rfl ?_
      refine S.store tOk rfl rfl rfl rfl rfl rfl rfl rfl ?_
      refine blockK_n ?_
      refine thenK_n ?_
      refine W.region ?_
      refine S.pure tOk zOk rfl rfl rfl ?_
      refine S.pure tOk zOk rfl rfl rfl ?_
      refine thenK_n ?_
      refine WR.succ ?_
      refine W.seq ?_
      refine W.region ?_
      refine S.pure tOk zOk rfl rfl rfl ?_
      refine thenK_n ?_
      refine W.seq ?_
      refine W.condT rfl rfl ?_
      refine W.skip ?_
      refine thenK_n ?_
      refine W.seq ?_
      refine W.block ?_
      refine W.seq ?_
      refine W.region ?_
      refine S.pure tOk zOk rfl rfl rfl ?_
      refine S.pure tOk zOk rfl rfl rfl ?_
      refine thenK_n ?_
      refine W.seq ?_
      refine W.region ?_
      refine S.pure tOk zOk rfl rfl rfl ?_
      refine S.pure tOk zOk rfl rfl rfl ?_
      refine S.pure tOk zOk rfl (by first | rfl | exact idx_ok (by omega) (by omega)) rfl ?_
      refine S.pure tOk zOk rfl rfl rfl ?_
      refine S.call rfl rfl rfl rfl rfl (pc_num9 _ (by first | (have := hm 0; simp at this; omega) | (have := hm 1; simp at this; omega) | (have := hm 2; simp at this; omega))) ?_
      refine S.pure tOk zOk rfl rfl rfl ?_
      refine S.pure tOk zOk rfl rfl rfl ?_
      refine S.pure tOk zOk rfl rfl rfl ?_
      refine S.pure tOk zOk rfl rfl rfl ?_
      refine S.pure tOk zOk rfl rfl rfl ?_
      refine thenK_n ?_
      refine W.seq ?_
      refine W.seq ?_
      refine W.region ?_
      refine S.pure tOk zOk rfl rfl rfl ?_
      refine S.pure tOk zOk rfl rfl rfl ?_
      refine thenK_n ?_
      refine W.cond rfl (fun c5 => ?_) (fun c5 => ?_)
      · skip
        refine W.seq ?_
        refine W.region ?_
        refine S.pure tOk zOk rfl rfl rfl ?_
        refine S.store tOk rfl rfl rfl rfl rfl rfl rfl rfl ?_
        refine S.pure tOk zOk rfl rfl rfl ?_
        refine thenK_n ?_
        refine W.ret ?_
        refine thenK_r ?_
        refine blockK_r ?_
        refine thenK_r ?_
        refine thenK_r ?_
        refine blockK_r ?_
        refine thenK_r ?_
        exact ⟨_, rfl, rfl, LeV.of_force rfl (by rw [parse_ok c1]; clear c1; simp_all [threeB, verV, Ver.z, Ver.check])⟩
      · skip
        refine W.skip ?_
        refine thenK_n ?_
        refine W.region ?_
        refine S.pure tOk zOk rfl rfl rfl ?_
        refine S.pure tOk zOk rfl rfl rfl ?_
        refine S.pure tOk zOk rfl (by first | rfl | exact idx_ok (by omega) (by omega)) rfl ?_
        refine S.store tOk rfl rfl rfl rfl rfl rfl rfl rfl ?_
        refine blockK_n ?_
        refine thenK_n ?_
        refine W.region ?_
        refine S.pure tOk zOk rfl rfl rfl ?_
        refine S.pure tOk zOk rfl rfl rfl ?_
        refine thenK_n ?_
        refine WR.succ ?_
        refine W.seq ?_
        refine W.region ?_
        refine S.pure tOk zOk rfl rfl rfl ?_
        refine thenK_n ?_
        refine W.seq ?_
        refine W.condT rfl rfl ?_
        refine W.skip ?_
        refine thenK_n ?_
        refine W.seq ?_
        refine W.block ?_
        refine W.seq ?_
        refine W.region ?_
        refine S.pure tOk zOk rfl rfl rfl ?_
        refine S.pure tOk zOk rfl rfl rfl ?_
        refine thenK_n ?_
        refine W.seq ?_
        refine W.region ?_
        refine S.pure tOk zOk rfl rfl rfl ?_
        refine S.pure tOk zOk rfl rfl rfl ?_
        refine S.pure tOk zOk rfl (by first | rfl | exact idx_ok (by omega) (by omega)) rfl ?_
        refine S.pure tOk zOk rfl rfl rfl ?_
        refine S.call rfl rfl rfl rfl rfl (pc_num9 _ (by first | (have := hm 0; simp at this; omega) | (have := hm 1; simp at this; omega) | (have := hm 2; simp at this; omega))) ?_
        refine S.pure tOk zOk rfl rfl rfl ?_
        refine S.pure tOk zOk rfl rfl rfl ?_
        refine S.pure tOk zOk rfl rfl rfl ?_
        refine S.pure tOk zOk rfl rfl rfl ?_
        refine S.pure tOk zOk rfl rfl rfl ?_
        refine thenK_n ?_
        refine W.seq ?_
        refine W.seq ?_
        refine W.region ?_
        refine S.pure tOk zOk rfl rfl rfl ?_
        refine S.pure tOk zOk rfl rfl rfl ?_
        refine thenK_n ?_
        refine W.cond rfl (fun c7 => ?_) (fun c7 => ?_)
        · skip
          refine W.seq ?_
          refine W.region ?_
          refine S.pure tOk zOk rfl rfl rfl ?_
          refine S.store tOk rfl rfl rfl rfl rfl rfl rfl rfl ?_
          refine S.pure tOk zOk rfl rfl rfl ?_
          refine thenK_n ?_
          refine W.ret ?_
          refine thenK_r ?_
          refine blockK_r ?_
          refine thenK_r ?_
          refine thenK_r ?_
          refine blockK_r ?_
          refine thenK_r ?_
          exact ⟨_, rfl, rfl, LeV.of_force rfl (by rw [parse_ok c1]; clear c1; simp_all [threeB, verV, Ver.z, Ver.check])⟩
        · skip
          refine W.skip ?_
          refine thenK_n ?_
          refine W.region ?_
          refine S.pure tOk zOk rfl rfl rfl ?_
          refine S.pure tOk zOk rfl rfl rfl ?_
          refine S.pure tOk zOk rfl (by first | rfl | exact idx_ok (by omega) (by omega)) rfl ?_
          refine S.store tOk rfl rfl rfl rfl rfl rfl rfl rfl ?_
          refine blockK_n ?_
          refine thenK_n ?_
          refine W.region ?_
          refine S.pure tOk zOk rfl rfl rfl ?_
          refine S.pure tOk zOk rfl rfl rfl ?_
          refine thenK_n ?_
          refine WR.succ ?_
          refine W.seq ?_
          refine W.region ?_
          refine S.pure tOk zOk rfl rfl rfl ?_
          refine thenK_n ?_
          refine W.seq ?_
          refine W.condF rfl rfl ?_
          refine W.exit ?_
          refine thenK_e ?_
          refine thenK_e ?_
          refine blockK_x ?_
          refine thenK_n ?_
          refine W.seq ?_
          refine W.region ?_
          refine S.pure tOk zOk rfl (by first | rfl | exact idx_ok (by omega) (by omega)) rfl ?_
          refine S.pure tOk zOk rfl rfl rfl ?_
          refine S.pure tOk zOk rfl (by first | rfl | exact idx_ok (by omega) (by omega)) rfl ?_
          refine S.pure tOk zOk rfl rfl rfl ?_
          refine S.pure tOk zOk rfl (by first | rfl | exact idx_ok (by omega) (by omega)) rfl ?_
          refine S.pure tOk zOk rfl rfl rfl ?_
          refine S.pure tOk zOk rfl rfl rfl ?_
          refine S.pure tOk zOk rfl rfl rfl ?_
          refine S.alloc tOk rfl rfl rfl rfl ?_
          refine S.store tOk rfl rfl rfl rfl rfl rfl rfl rfl ?_
          refine thenK_n ?_
          refine W.seq ?_
          refine W.seq ?_
          refine W.region ?_
          refine S.pure tOk zOk rfl rfl rfl ?_
          refine S.slice tOk rfl rfl ?_
          refine S.call rfl rfl rfl rfl rfl (pc_verr1 ⟨(numB p).1, (numB q).1, (numB r).1, (Lib.cut s [45]).2.1⟩ (by show (Lib.cut s [45]).2.1.length < _; omega)) ?_
          refine S.pure tOk zOk rfl rfl rfl ?_
          refine thenK_n ?_
          refine W.seq ?_
          refine W.region ?_
          refine S.pure tOk zOk rfl rfl rfl ?_
          refine S.pure tOk zOk rfl rfl rfl ?_
          refine thenK_n ?_
          refine W.cond rfl (fun c9 => ?_) (fun c9 => ?_)
          · skip
            refine W.seq ?_
            refine W.region ?_
            refine S.pure tOk zOk rfl rfl rfl ?_
            refine S.pure tOk zOk rfl rfl rfl ?_
            refine S.store tOk rfl rfl rfl rfl rfl rfl rfl rfl ?_
            refine S.pure tOk zOk rfl rfl rfl ?_
            refine thenK_n ?_
            refine W.ret ?_
            refine thenK_r ?_
            exact ⟨_, rfl, rfl, LeV.of_force rfl (by rw [parse_ok c1]; clear c1; simp_all [threeB, verV, Ver.z, Ver.check])⟩
          · skip
            refine W.skip ?_
            refine thenK_n ?_
            refine W.seq ?_
            refine W.region ?_
            refine S.pure tOk zOk rfl rfl rfl ?_
            refine S.store tOk rfl rfl rfl rfl rfl rfl rfl rfl ?_
            refine S.pure tOk zOk rfl rfl rfl ?_
            refine thenK_n ?_
            refine W.ret ?_
            exact ⟨_, rfl, rfl, LeV.of_force rfl (by rw [parse_ok c1]; clear c1; simp_all [threeB, verV, Ver.z, Ver.check])⟩

theorem pc_outlaw2_versions  :
    PureCall Tryz.prog J 10 [] (.one (.d (.bool true))) := by
  refine PureCall.of_body tOk (fn := Tryz.f10) Tryz.func10 (by kernel_rfl) rfl (Nat.le_of_ble_eq_true rfl) (fun E => ?_)
  refine W.seq ?_
  refine W.region ?_
  refine S.pure tOk zOk rfl rfl rfl ?_
  refine thenK_n ?_
  refine W.seq ?_
  refine W.region ?_
  refine S.pure tOk zOk rfl rfl rfl ?_
  refine S.call rfl rfl rfl rfl rfl (pc_ver_Print ⟨1, 0, 0, []⟩ (by decide) (by unfold VerOk; decide)) ?_
  refine S.pure tOk zOk rfl rfl rfl ?_
  refine S.pure tOk zOk rfl rfl rfl ?_
  refine S.pure tOk zOk rfl rfl rfl ?_
  refine S.pure tOk zOk rfl rfl rfl ?_
  refine S.pure tOk zOk rfl rfl rfl ?_
  refine thenK_n ?_
  refine W.seq ?_
  refine W.region ?_
  refine S.pure tOk zOk rfl rfl rfl ?_
  refine S.pure tOk zOk rfl rfl rfl ?_
  refine S.pure tOk zOk rfl rfl rfl ?_
  refine S.pureG tOk zOk rfl rfl (by repeat first | exact allT_nil | refine allT_cons (fun h => h) ?_ | refine allT_cons (fun h => andl h) ?_ | refine allT_cons (fun h => andl (andl h)) ?_ | refine allT_cons (fun _ => rfl) ?_) (fun _ => rfl) rfl ?_
  refine S.pureG tOk zOk rfl rfl (by repeat first | exact allT_nil | refine allT_cons (fun h => h) ?_ | refine allT_cons (fun h => andl h) ?_ | refine allT_cons (fun h => andl (andl h)) ?_ | refine allT_cons (fun _ => rfl) ?_) (fun _ => rfl) rfl ?_
  refine S.pickAnd tOk zOk rfl rfl (by repeat first | exact allT_nil | refine allT_cons (fun h => h) ?_ | refine allT_cons (fun h => andl h) ?_ | refine allT_cons (fun h => andl (andl h)) ?_ | refine allT_cons (fun _ => rfl) ?_) ?_
  refine S.pure tOk zOk rfl rfl rfl ?_
  refine thenK_n ?_
  refine W.ret ?_
  exact ⟨_, rfl, rfl, LeV.of_force rfl (by simp_all [versions_ok])⟩

end Go.Proofs.YtnphejkeflngcaaGreatDoor

/- Plain words on ranges. -/
set_option linter.unusedVariables false
set_option linter.unusedSimpArgs false
namespace Go.Proofs.YtnphejkeflngcaaGreatDoor
open Go

structure Sp where
  hf : Bool
  ht : Bool
  f : Ver
  t : Ver
  deriving DecidableEq
def Sp.z : Sp := ⟨false, false, Ver.z, Ver.z⟩
/-- Two versions are the same, as a comparison of structs tells it. -/
def Ver.eqb (v w : Ver) : Bool := v.a == w.a && (v.b == w.b && (v.c == w.c && (v.e == w.e && true)))
theorem Ver.eqb_iff {v w : Ver} : v.eqb w = true ↔ v = w := by
  cases v; cases w
  simp [Ver.eqb]
theorem Ver.eqb_not {v w : Ver} : v.eqb w = false ↔ v ≠ w := by
  rw [← Bool.not_eq_true, Ver.eqb_iff]
def Sp.eqb (s u : Sp) : Bool := s.hf == u.hf && (s.ht == u.ht && (s.f.eqb u.f && (s.t.eqb u.t && true)))
theorem Sp.eqb_iff {v w : Sp} : v.eqb w = true ↔ v = w := by
  cases v; cases w
  simp [Sp.eqb, Ver.eqb_iff]
/-- What is wrong with a span by itself. -/
def spanE (s : Sp) : Int :=
  if (!(s.f.eqb Ver.z) && !s.hf) || (!(s.t.eqb Ver.z) && !s.ht) then 2
  else if s.hf && s.f.check != 0 then s.f.check
  else if s.ht && s.t.check != 0 then s.t.check
  else if (s.hf && s.ht) && decide (orderB s.f s.t ≥ 0) then 7 else 0
section
variable {s : Sp}
theorem spE_form (h1 : ((!(s.f.eqb Ver.z) && !s.hf) || (!(s.t.eqb Ver.z) && !s.ht)) = true) : spanE s = 2 := if_pos h1
theorem spE_f (h1 : ((!(s.f.eqb Ver.z) && !s.hf) || (!(s.t.eqb Ver.z) && !s.ht)) = false) (h2 : (s.hf && s.f.check != 0) = true) : spanE s = s.f.check := by
  rw [spanE, if_neg (Bool.eq_false_iff.1 h1), if_pos h2]
theorem spE_t (h1 : ((!(s.f.eqb Ver.z) && !s.hf) || (!(s.t.eqb Ver.z) && !s.ht)) = false) (h2 : (s.hf && s.f.check != 0) = false) (h3 : (s.ht && s.t.check != 0) = true) : spanE s = s.t.check := by
  rw [spanE, if_neg (Bool.eq_false_iff.1 h1), if_neg (Bool.eq_false_iff.1 h2), if_pos h3]
theorem spE_o (h1 : ((!(s.f.eqb Ver.z) && !s.hf) || (!(s.t.eqb Ver.z) && !s.ht)) = false) (h2 : (s.hf && s.f.check != 0) = false) (h3 : (s.ht && s.t.check != 0) = false) (h4 : ((s.hf && s.ht) && decide (orderB s.f s.t ≥ 0)) = true) : spanE s = 7 := by
  rw [spanE, if_neg (Bool.eq_false_iff.1 h1), if_neg (Bool.eq_false_iff.1 h2), if_neg (Bool.eq_false_iff.1 h3), if_pos h4]
theorem spE_ok (h1 : ((!(s.f.eqb Ver.z) && !s.hf) || (!(s.t.eqb Ver.z) && !s.ht)) = false) (h2 : (s.hf && s.f.check != 0) = false) (h3 : (s.ht && s.t.check != 0) = false) (h4 : ((s.hf && s.ht) && decide (orderB s.f s.t ≥ 0)) = false) : spanE s = 0 := by
  rw [spanE, if_neg (Bool.eq_false_iff.1 h1), if_neg (Bool.eq_false_iff.1 h2), if_neg (Bool.eq_false_iff.1 h3), if_neg (Bool.eq_false_iff.1 h4)]
end
/-- What is wrong with it behind another. -/
def behindE (p s : Sp) : Int := if (!p.ht || !s.hf) || decide (orderB s.f p.t ≤ 0) then 7 else 0
def spAt (ss : List Sp) (i : Nat) : Int :=
  if spanE (ss.getD i Sp.z) != 0 then spanE (ss.getD i Sp.z) else if (i : Int) == 0 then 0 else behindE (ss.getD (i - 1) Sp.z) (ss.getD i Sp.z)
def rangeE (ss : List Sp) : Int := if decide ((ss.length : Int) > 10) then 4 else firstNe ((List.range ss.length).map (spAt ss))
theorem spAt_get {ss : List Sp} {i : Nat} (hi : i < ss.length) : ((List.range ss.length).map (spAt ss)).getD i 0 = spAt ss i := by
  simp [List.getD, hi]
theorem spAt_go {ss : List Sp} {i : Nat} (hi : i < ss.length) (h : spAt ss i = 0) : (((List.range ss.length).map (spAt ss)).getD i 0 == 0) = true := by
  rw [spAt_get hi, h]; rfl
theorem spAt_hit {ss : List Sp} {i : Nat} {n : Int} (hi : i < ss.length) (ht : (((List.range ss.length).map (spAt ss)).take i).all (· == 0) = true) (h : spAt ss i = n) (hn : n ≠ 0) : firstNe ((List.range ss.length).map (spAt ss)) = n := by
  rw [firstNe_hit (by simpa using hi) ht (by rw [spAt_get hi, h]; exact hn), spAt_get hi, h]
theorem rangeE_large {ss : List Sp} (h : decide ((ss.length : Int) > 10) = true) : rangeE ss = 4 := if_pos h
theorem rangeE_list {ss : List Sp} (h : decide ((ss.length : Int) > 10) = false) : rangeE ss = firstNe ((List.range ss.length).map (spAt ss)) := if_neg (Bool.eq_false_iff.1 h)
theorem spAt_own {ss : List Sp} {i : Nat} (h : (spanE (ss.getD i Sp.z) != 0) = true) : spAt ss i = spanE (ss.getD i Sp.z) := if_pos h
theorem spAt_first {ss : List Sp} {i : Nat} (h : (spanE (ss.getD i Sp.z) != 0) = false) (h0 : ((i : Int) == 0) = true) : spAt ss i = 0 := by
  rw [spAt, if_neg (Bool.eq_false_iff.1 h), if_pos h0]
theorem spAt_bad {ss : List Sp} {i : Nat} (h : (spanE (ss.getD i Sp.z) != 0) = false) (h0 : ((i : Int) == 0) = false)
    (hb : ((!(ss.getD (i - 1) Sp.z).ht || !(ss.getD i Sp.z).hf) || decide (orderB (ss.getD i Sp.z).f (ss.getD (i - 1) Sp.z).t ≤ 0)) = true) : spAt ss i = 7 := by
  rw [spAt, if_neg (Bool.eq_false_iff.1 h), if_neg (Bool.eq_false_iff.1 h0), behindE, if_pos hb]
theorem spAt_ok {ss : List Sp} {i : Nat} (h : (spanE (ss.getD i Sp.z) != 0) = false) (h0 : ((i : Int) == 0) = false)
    (hb : ((!(ss.getD (i - 1) Sp.z).ht || !(ss.getD i Sp.z).hf) || decide (orderB (ss.getD i Sp.z).f (ss.getD (i - 1) Sp.z).t ≤ 0)) = false) : spAt ss i = 0 := by
  rw [spAt, if_neg (Bool.eq_false_iff.1 h), if_neg (Bool.eq_false_iff.1 h0), behindE, if_neg (Bool.eq_false_iff.1 hb)]
/-- The texts in a span are not too long. -/
def SpLen (s : Sp) : Prop := s.f.e.length < 4294967281 ∧ s.t.e.length < 4294967281
theorem sp_at {ss : List Sp} {i : Nat} (hv : ∀ s ∈ ss, SpLen s) (hi : i < ss.length) : SpLen (ss.getD i Sp.z) := by
  rw [List.getD_eq_getElem?_getD, List.getElem?_eq_getElem hi]
  exact hv _ (List.getElem_mem hi)
theorem pred_i64 {i : Nat} (h : ((i : Int) == 0) = false) (hi : i ≤ 4611686018427387904) : (((i : Int) - 1)) = ((i - 1 : Nat) : Int) := by
  simp at h; omega

/-- A span as it is written: a sign, and one or two versions. -/
structure It where
  sign : Int
  first : List UInt8
  last : List UInt8
def rowB (s : List UInt8) : Bool := !(Lib.contains s [32])
def wrongB (s : List UInt8) : Bool := (parseB s).2 == 8

def Ver.text (v : Ver) : List UInt8 := textB v.a v.b v.c v.e
theorem Ver.text_le {v : Ver} (ho : VerOk v) : v.text.length ≤ v.e.length + 70 := by
  have h1 := Lib.itoa_length_le v.a ho.1 ho.2.1
  have h2 := Lib.itoa_length_le v.b ho.2.2.1 ho.2.2.2.1
  have h3 := Lib.itoa_length_le v.c ho.2.2.2.2.1 ho.2.2.2.2.2
  unfold Ver.text textB
  split <;> simp <;> omega
/-- A span's text. -/
def spT (s : Sp) : List UInt8 :=
  if s.hf && s.ht then [62, 61] ++ s.f.text ++ [32, 60] ++ s.t.text else if s.hf then [62, 61] ++ s.f.text else if s.ht then [60] ++ s.t.text else [42]
def SpOk (s : Sp) : Prop := VerOk s.f ∧ VerOk s.t
theorem spT_le {s : Sp} (h : SpOk s) : (spT s).length ≤ s.f.e.length + s.t.e.length + 150 := by
  have h1 := Ver.text_le h.1
  have h2 := Ver.text_le h.2
  unfold spT
  split
  · simp; omega
  · split
    · simp; omega
    · split <;> simp <;> omega
def printR (ss : List Sp) : List UInt8 × Int := if rangeE ss != 0 then ([], rangeE ss) else if (ss.length : Int) == 0 then ([110, 111, 110, 101], 0) else (Lib.join (ss.map spT) [44, 32], 0)
theorem ok_at {ss : List Sp} {i : Nat} (hv : ∀ s ∈ ss, SpOk s) (hi : i < ss.length) : SpOk (ss.getD i Sp.z) := by
  rw [List.getD_eq_getElem?_getD, List.getElem?_eq_getElem hi]
  exact hv _ (List.getElem_mem hi)
theorem sp_at2 {ss : List Sp} {i n : Nat} (hv : ∀ s ∈ ss, s.f.e.length < n ∧ s.t.e.length < n) (hi : i < ss.length) : (ss.getD i Sp.z).f.e.length < n ∧ (ss.getD i Sp.z).t.e.length < n := by
  rw [List.getD_eq_getElem?_getD, List.getElem?_eq_getElem hi]
  exact hv _ (List.getElem_mem hi)
theorem take_snoc2 {α β γ : Type} {f : β → γ} {p : α → β} {l : List α} {i : Nat} (d : α) (h : i < l.length) : ((l.take i).map p).map f ++ [f (p (l.getD i d))] = ((l.take (i + 1)).map p).map f := by
  rw [List.take_add_one, List.getElem?_eq_getElem h, List.map_append, List.map_append]
  simp [List.getD, List.getElem?_eq_getElem h]

theorem join2 (x y sep : List UInt8) : Lib.join [x, y] sep = x ++ sep ++ y := by simp [Lib.join, List.intercalate, List.intersperse]
theorem spT_both {s : Sp} (h1 : s.hf = true) (h2 : s.ht = true) : Lib.join [[62, 61] ++ textB s.f.a s.f.b s.f.c s.f.e, [60] ++ textB s.t.a s.t.b s.t.c s.t.e] [32] = spT s := by
  rw [join2, spT, h1, h2]; simp [Ver.text]
theorem spT_from {s : Sp} (h1 : s.hf = true) (h2 : s.ht = false) : Lib.join [[62, 61] ++ textB s.f.a s.f.b s.f.c s.f.e] [32] = spT s := by
  rw [Lib.join_one, spT, h1, h2]; simp [Ver.text]
theorem spT_to {s : Sp} (h1 : s.hf = false) (h2 : s.ht = true) : Lib.join [[60] ++ textB s.t.a s.t.b s.t.c s.t.e] [32] = spT s := by
  rw [Lib.join_one, spT, h1, h2]; simp [Ver.text]
theorem spT_all {s : Sp} (h1 : s.hf = false) (h2 : s.ht = false) : Lib.join [[42]] [32] = spT s := by
  rw [Lib.join_one, spT, h1, h2]; simp
theorem take_snoc3 {α β γ : Type} {f : β → γ} {p : α → β} {l : List α} {i : Nat} {d : α} {x : β} (hx : x = p (l.getD i d)) (h : i < l.length) : ((l.take i).map p).map f ++ [f x] = ((l.take (i + 1)).map p).map f := by
  rw [hx]; exact take_snoc2 d h
end Go.Proofs.YtnphejkeflngcaaGreatDoor

/- Spans as values. -/
set_option linter.unusedVariables false
namespace Go.Proofs.YtnphejkeflngcaaGreatDoor
open Go Go.RowKit
def spD (s : Sp) : List D := [.bool s.hf, .bool s.ht, .int .i64 s.f.a, .int .i64 s.f.b, .int .i64 s.f.c, .str s.f.e, .int .i64 s.t.a, .int .i64 s.t.b, .int .i64 s.t.c, .str s.t.e]
def spV (s : Sp) : V := .agg [.d (.bool s.hf), .d (.bool s.ht), .d (.int .i64 s.f.a), .d (.int .i64 s.f.b), .d (.int .i64 s.f.c), .d (.str s.f.e), .d (.int .i64 s.t.a), .d (.int .i64 s.t.b), .d (.int .i64 s.t.c), .d (.str s.t.e)]
def rgV (ss : List Sp) : V := .agg [.d (.vec 10 (ss.map spD))]
end Go.Proofs.YtnphejkeflngcaaGreatDoor

set_option linter.unusedVariables false
set_option linter.unusedSimpArgs false
set_option maxRecDepth 100000
set_option maxHeartbeats 4000000
namespace Go.Proofs.YtnphejkeflngcaaGreatDoor
open Go
open Go.RowKit

theorem pc_ver_spanFault (s : Sp) (h1 : s.f.e.length < 4294967281) (h2 : s.t.e.length < 4294967281) :
    PureCall Tryz.prog J 67 [spV s] (.one (.d (.int .i64 (spanE s)))) := by
  refine PureCall.of_body tOk (fn := Tryz.f67) Tryz.func67 (by kernel_rfl) rfl (Nat.le_of_ble_eq_true rfl) (fun E => ?_)
  refine W.seq ?_
  refine W.region ?_
  refine S.box rfl rfl rfl rfl ?_
  refine S.pure tOk zOk rfl rfl rfl ?_
  refine thenK_n ?_
  refine W.seq ?_
  refine W.region ?_
  refine S.pure tOk zOk rfl rfl rfl ?_
  refine S.alloc tOk rfl rfl rfl rfl ?_
  refine S.store tOk rfl rfl rfl rfl rfl rfl rfl rfl ?_
  refine thenK_n ?_
  refine W.seq ?_
  refine W.seq ?_
  refine W.region ?_
  refine S.pure tOk zOk rfl rfl rfl ?_
  refine S.pure tOk zOk rfl rfl rfl ?_
  refine S.pure tOk zOk rfl rfl rfl ?_
  refine S.pure tOk zOk rfl rfl rfl ?_
  refine S.pure tOk zOk rfl rfl rfl ?_
  refine S.pureG tOk zOk rfl rfl (by repeat first | exact allT_nil | refine allT_cons (fun h => h) ?_ | refine allT_cons (fun h => andl h) ?_ | refine allT_cons (fun h => andl (andl h)) ?_ | refine allT_cons (fun _ => rfl) ?_) (fun _ => rfl) rfl ?_
  refine S.pureG tOk zOk rfl rfl (by repeat first | exact allT_nil | refine allT_cons (fun h => h) ?_ | refine allT_cons (fun h => andl h) ?_ | refine allT_cons (fun h => andl (andl h)) ?_ | refine allT_cons (fun _ => rfl) ?_) (fun _ => rfl) rfl ?_
  refine S.pureG tOk zOk rfl rfl (by repeat first | exact allT_nil | refine allT_cons (fun h => h) ?_ | refine allT_cons (fun h => andl h) ?_ | refine allT_cons (fun h => andl (andl h)) ?_ | refine allT_cons (fun _ => rfl) ?_) (fun _ => rfl) rfl ?_
  refine S.pickAnd tOk zOk rfl rfl (by repeat first | exact allT_nil | refine allT_cons (fun h => h) ?_ | refine allT_cons (fun h => andl h) ?_ | refine allT_cons (fun h => andl (andl h)) ?_ | refine allT_cons (fun _ => rfl) ?_) ?_
  refine S.pure tOk zOk rfl rfl rfl ?_
  refine S.pureG tOk zOk rfl rfl (by repeat first | exact allT_nil | refine allT_cons (fun h => h) ?_ | refine allT_cons (fun h => andl h) ?_ | refine allT_cons (fun h => andl (andl h)) ?_ | refine allT_cons (fun _ => rfl) ?_) (fun _ => rfl) rfl ?_
  refine S.pureG tOk zOk rfl rfl (by repeat first | exact allT_nil | refine allT_cons (fun h => h) ?_ | refine allT_cons (fun h => andl h) ?_ | refine allT_cons (fun h => andl (andl h)) ?_ | refine allT_cons (fun _ => rfl) ?_) (fun _ => rfl) rfl ?_
  refine S.pureG tOk zOk rfl rfl (by repeat first | exact allT_nil | refine allT_cons (fun h => h) ?_ | refine allT_cons (fun h => andl h) ?_ | refine allT_cons (fun h => andl (andl h)) ?_ | refine allT_cons (fun _ => rfl) ?_) (fun _ => rfl) rfl ?_
  refine S.pureG tOk zOk rfl rfl (by repeat first | exact allT_nil | refine allT_cons (fun h => h) ?_ | refine allT_cons (fun h => andl h) ?_ | refine allT_cons (fun h => andl (andl h)) ?_ | refine allT_cons (fun _ => rfl) ?_) (fun _ => rfl) rfl ?_
  refine S.pureG tOk zOk rfl rfl (by repeat first | exact allT_nil | refine allT_cons (fun h => h) ?_ | refine allT_cons (fun h => andl h) ?_ | refine allT_cons (fun h => andl (andl h)) ?_ | refine allT_cons (fun _ => rfl) ?_) (fun _ => rfl) rfl ?_
  refine S.pureG tOk zOk rfl rfl (by repeat first | exact allT_nil | refine allT_cons (fun h => h) ?_ | refine allT_cons (fun h => andl h) ?_ | refine allT_cons (fun h => andl (andl h)) ?_ | refine allT_cons (fun _ => rfl) ?_) (fun _ => rfl) rfl ?_
  refine S.pureG tOk zOk rfl rfl (by repeat first | exact allT_nil | refine allT_cons (fun h => h) ?_ | refine allT_cons (fun h => andl h) ?_ | refine allT_cons (fun h => andl (andl h)) ?_ | refine allT_cons (fun _ => rfl) ?_) (fun _ => rfl) rfl ?_
  refine S.pureG tOk zOk rfl rfl (by repeat first | exact allT_nil | refine allT_cons (fun h => h) ?_ | refine allT_cons (fun h => andl h) ?_ | refine allT_cons (fun h => andl (andl h)) ?_ | refine allT_cons (fun _ => rfl) ?_) (fun _ => rfl) rfl ?_
  refine S.pickAndG tOk zOk rfl rfl rfl (by repeat first | exact allT_nil | refine allT_cons (fun h => h) ?_ | refine allT_cons (fun h => andl h) ?_ | refine allT_cons (fun h => andl (andl h)) ?_ | refine allT_cons (fun _ => rfl) ?_) (by repeat first | exact allT_nil | refine allT_cons (fun h => h) ?_ | refine allT_cons (fun h => andl h) ?_ | refine allT_cons (fun h => andl (andl h)) ?_ | refine allT_cons (fun _ => rfl) ?_) ?_
  refine S.pickOr tOk zOk rfl rfl (by repeat first | exact allT_nil | refine allT_cons (fun h => h) ?_ | refine allT_cons (fun h => andl h) ?_ | refine allT_cons (fun h => andl (andl h)) ?_ | refine allT_cons (fun _ => rfl) ?_) ?_
  refine thenK_n ?_
  refine W.cond rfl (fun c1 => ?_) (fun c1 => ?_)
  · skip
    refine W.seq ?_
    refine W.region ?_
    refine S.pure tOk zOk rfl rfl rfl ?_
    refine thenK_n ?_
    refine W.ret ?_
    refine thenK_r ?_
    exact ⟨_, rfl, rfl, LeV.of_eq (congrArg (fun x => V.one (C.d (D.int .i64 x))) (spE_form c1).symm)⟩
  · skip
    refine W.skip ?_
    refine thenK_n ?_
    refine W.seq ?_
    refine W.seq ?_
    refine W.region ?_
    refine S.pure tOk zOk rfl rfl rfl ?_
    refine S.pure tOk zOk rfl rfl rfl ?_
    refine S.call rfl rfl rfl rfl rfl (pc_ver_Check s.f h1) ?_
    refine S.pure tOk zOk rfl rfl rfl ?_
    refine thenK_n ?_
    refine W.seq ?_
    refine W.region ?_
    refine S.pure tOk zOk rfl rfl rfl ?_
    refine S.pure tOk zOk rfl rfl rfl ?_
    refine S.pure tOk zOk rfl rfl rfl ?_
    refine S.pureG tOk zOk rfl rfl (by repeat first | exact allT_nil | refine allT_cons (fun h => h) ?_ | refine allT_cons (fun h => andl h) ?_ | refine allT_cons (fun h => andl (andl h)) ?_ | refine allT_cons (fun _ => rfl) ?_) (fun _ => rfl) rfl ?_
    refine S.pureG tOk zOk rfl rfl (by repeat first | exact allT_nil | refine allT_cons (fun h => h) ?_ | refine allT_cons (fun h => andl h) ?_ | refine allT_cons (fun h => andl (andl h)) ?_ | refine allT_cons (fun _ => rfl) ?_) (fun _ => rfl) rfl ?_
    refine S.pickAnd tOk zOk rfl rfl (by repeat first | exact allT_nil | refine allT_cons (fun h => h) ?_ | refine allT_cons (fun h => andl h) ?_ | refine allT_cons (fun h => andl (andl h)) ?_ | refine allT_cons (fun _ => rfl) ?_) ?_
    refine thenK_n ?_
    refine W.cond rfl (fun c2 => ?_) (fun c2 => ?_)
    · skip
      refine W.seq ?_
      refine W.region ?_
      refine S.pure tOk zOk rfl rfl rfl ?_
      refine S.pure tOk zOk rfl rfl rfl ?_
      refine thenK_n ?_
      refine W.ret ?_
      refine thenK_r ?_
      exact ⟨_, rfl, rfl, LeV.of_eq (congrArg (fun x => V.one (C.d (D.int .i64 x))) (spE_f c1 c2).symm)⟩
    · skip
      refine W.skip ?_
      refine thenK_n ?_
      refine W.seq ?_
      refine W.seq ?_
      refine W.region ?_
      refine S.pure tOk zOk rfl rfl rfl ?_
      refine S.pure tOk zOk rfl rfl rfl ?_
      refine S.call rfl rfl rfl rfl rfl (pc_ver_Check s.t h2) ?_
      refine S.pure tOk zOk rfl rfl rfl ?_
      refine thenK_n ?_
      refine W.seq ?_
      refine W.region ?_
      refine S.pure tOk zOk rfl rfl rfl ?_
      refine S.pure tOk zOk rfl rfl rfl ?_
      refine S.pure tOk zOk rfl rfl rfl ?_
      refine S.pureG tOk zOk rfl rfl (by repeat first | exact allT_nil | refine allT_cons (fun h => h) ?_ | refine allT_cons (fun h => andl h) ?_ | refine allT_cons (fun h => andl (andl h)) ?_ | refine allT_cons (fun _ => rfl) ?_) (fun _ => rfl) rfl ?_
      refine S.pureG tOk zOk rfl rfl (by repeat first | exact allT_nil | refine allT_cons (fun h => h) ?_ | refine allT_cons (fun h => andl h) ?_ | refine allT_cons (fun h => andl (andl h)) ?_ | refine allT_cons (fun _ => rfl) ?_) (fun _ => rfl) rfl ?_
      refine S.pickAnd tOk zOk rfl rfl (by repeat first | exact allT_nil | refine allT_cons (fun h => h) ?_ | refine allT_cons (fun h => andl h) ?_ | refine allT_cons (fun h => andl (andl h)) ?_ | refine allT_cons (fun _ => rfl) ?_) ?_
      refine thenK_n ?_
      refine W.cond rfl (fun c3 => ?_) (fun c3 => ?_)
      · skip
        refine W.seq ?_
        refine W.region ?_
        refine S.pure tOk zOk rfl rfl rfl ?_
        refine S.pure tOk zOk rfl rfl rfl ?_
        refine thenK_n ?_
        refine W.ret ?_
        refine thenK_r ?_
        exact ⟨_, rfl, rfl, LeV.of_eq (congrArg (fun x => V.one (C.d (D.int .i64 x))) (spE_t c1 c2 c3).symm)⟩
      · skip
        refine W.skip ?_
        refine thenK_n ?_
        refine W.seq ?_
        refine W.seq ?_
        refine W.region ?_
        refine S.pure tOk zOk rfl rfl rfl ?_
        refine S.pure tOk zOk rfl rfl rfl ?_
        refine S.pure tOk zOk rfl rfl rfl ?_
        refine S.pureG tOk zOk rfl rfl (by repeat first | exact allT_nil | refine allT_cons (fun h => h) ?_ | refine allT_cons (fun h => andl h) ?_ | refine allT_cons (fun h => andl (andl h)) ?_ | refine allT_cons (fun _ => rfl) ?_) (fun _ => rfl) rfl ?_
        refine S.pureG tOk zOk rfl rfl (by repeat first | exact allT_nil | refine allT_cons (fun h => h) ?_ | refine allT_cons (fun h => andl h) ?_ | refine allT_cons (fun h => andl (andl h)) ?_ | refine allT_cons (fun _ => rfl) ?_) (fun _ => rfl) rfl ?_
        refine S.pickAnd tOk zOk rfl rfl (by repeat first | exact allT_nil | refine allT_cons (fun h => h) ?_ | refine allT_cons (fun h => andl h) ?_ | refine allT_cons (fun h => andl (andl h)) ?_ | refine allT_cons (fun _ => rfl) ?_) ?_
        refine S.pure tOk zOk rfl rfl rfl ?_
        refine S.pureG tOk zOk rfl rfl (by repeat first | exact allT_nil | refine allT_cons (fun h => h) ?_ | refine allT_cons (fun h => andl h) ?_ | refine allT_cons (fun h => andl (andl h)) ?_ | refine allT_cons (fun _ => rfl) ?_) (fun _ => rfl) rfl ?_
        refine S.pureG tOk zOk rfl rfl (by repeat first | exact allT_nil | refine allT_cons (fun h => h) ?_ | refine allT_cons (fun h => andl h) ?_ | refine allT_cons (fun h => andl (andl h)) ?_ | refine allT_cons (fun _ => rfl) ?_) (fun _ => rfl) rfl ?_
        refine S.pureG tOk zOk rfl rfl (by repeat first | exact allT_nil | refine allT_cons (fun h => h) ?_ | refine allT_cons (fun h => andl h) ?_ | refine allT_cons (fun h => andl (andl h)) ?_ | refine allT_cons (fun _ => rfl) ?_) (fun _ => rfl) rfl ?_
        refine S.pureG tOk zOk rfl rfl (by repeat first | exact allT_nil | refine allT_cons (fun h => h) ?_ | refine allT_cons (fun h => andl h) ?_ | refine allT_cons (fun h => andl (andl h)) ?_ | refine allT_cons (fun _ => rfl) ?_) (fun _ => rfl) rfl ?_
        refine S.callG rfl rfl rfl rfl (by repeat first | exact allT_nil | refine allT_cons (fun h => h) ?_ | refine allT_cons (fun h => andl h) ?_ | refine allT_cons (fun h => andl (andl h)) ?_ | refine allT_cons (fun _ => rfl) ?_) rfl rfl (fun _ => pc_ver_Order s.f s.t h1 h2) ?_
        refine S.pureG tOk zOk rfl rfl (by repeat first | exact allT_nil | refine allT_cons (fun h => h) ?_ | refine allT_cons (fun h => andl h) ?_ | refine allT_cons (fun h => andl (andl h)) ?_ | refine allT_cons (fun _ => rfl) ?_) (fun _ => rfl) rfl ?_
        refine S.pickAnd tOk zOk rfl rfl (by repeat first | exact allT_nil | refine allT_cons (fun h => h) ?_ | refine allT_cons (fun h => andl h) ?_ | refine allT_cons (fun h => andl (andl h)) ?_ | refine allT_cons (fun _ => rfl) ?_) ?_
        refine thenK_n ?_
        refine W.cond rfl (fun c4 => ?_) (fun c4 => ?_)
        · skip
          refine W.seq ?_
          refine W.region ?_
          refine S.pure tOk zOk rfl rfl rfl ?_
          refine thenK_n ?_
          refine W.ret ?_
          refine thenK_r ?_
          exact ⟨_, rfl, rfl, LeV.of_eq (congrArg (fun x => V.one (C.d (D.int .i64 x))) (spE_o c1 c2 c3 c4).symm)⟩
        · skip
          refine W.skip ?_
          refine thenK_n ?_
          refine W.seq ?_
          refine W.region ?_
          refine S.pure tOk zOk rfl rfl rfl ?_
          refine thenK_n ?_
          refine W.ret ?_
          exact ⟨_, rfl, rfl, LeV.of_eq (congrArg (fun x => V.one (C.d (D.int .i64 x))) (spE_ok c1 c2 c3 c4).symm)⟩

theorem pc_ver_CheckRange (ss : List Sp) (hl : ss.length ≤ 1000000000) (hv : ∀ s ∈ ss, SpLen s) :
    PureCall Tryz.prog J 21 [rgV ss] (.one (.d (.int .i64 (rangeE ss)))) := by
  refine PureCall.of_body tOk (fn := Tryz.f21) Tryz.func21 (by kernel_rfl) rfl (Nat.le_of_ble_eq_true rfl) (fun E => ?_)
  refine W.seq ?_
  refine W.region ?_
  refine S.box rfl rfl rfl rfl ?_
  refine S.pure tOk zOk rfl rfl rfl ?_
  refine thenK_n ?_
  refine W.seq ?_
  refine W.seq ?_
  refine W.region ?_
  refine S.pure tOk zOk rfl rfl rfl ?_
  refine S.pure tOk zOk rfl rfl rfl ?_
  refine S.pure tOk zOk rfl rfl rfl ?_
  refine S.pure tOk zOk rfl rfl rfl ?_
  refine thenK_n ?_
  refine W.cond rfl (fun c1 => ?_) (fun c1 => ?_)
  · skip
    refine W.seq ?_
    refine W.region ?_
    refine S.pure tOk zOk rfl rfl rfl ?_
    refine thenK_n ?_
    refine W.ret ?_
    refine thenK_r ?_
    exact ⟨_, rfl, rfl, LeV.of_eq (congrArg (fun x => V.one (C.d (D.int .i64 x))) (rangeE_large (by simpa using c1)).symm)⟩
  · skip
    have hlen := rangeE_list (ss := ss) (by simpa using c1)
    refine W.skip ?_
    refine thenK_n ?_
    refine W.seq ?_
    refine W.seq ?_
    refine W.region ?_
    refine S.pure tOk zOk rfl rfl rfl ?_
    refine S.pure tOk zOk rfl rfl rfl ?_
    refine S.pure tOk zOk rfl rfl rfl ?_
    refine S.pure tOk zOk rfl rfl rfl ?_
    refine thenK_n ?_
    refine W.block ?_
    refine W.loop (fun k st => ∃ i : Nat, i ≤ ss.length ∧ (((List.range ss.length).map (spAt ss)).take i).all (· == 0) = true ∧ k = ss.length - i ∧ ∃ t b2 r2 m2, st = ⟨t, [[.d (.vec 10 (ss.map spD))]] ++ b2, [] ++ r2, [] ++ m2⟩ ∧ holdsL t [(1, .one (.ptr 0 0)), (12, .one (.d (.vec 10 (ss.map spD)))), (13, .one (.d (.int .i64 ((ss.map spD).length : Int)))), (14, .one (.d (.int .i64 (i : Int))))]) (ss.length) ⟨0, Nat.zero_le _, by simp, rfl, _, _, _, _, rfl, rfl, rfl, rfl, rfl, trivial⟩ ?_
    rintro k0 _ ⟨i, f0_0, f0_1, rfl, t0, bb0, rr0, mm0, rfl, hh0⟩
    refine W.keepR _ _ _ _ _ _ _ hh0 rfl ?_
    refine W.seq ?_
    refine W.region ?_
    refine S.pure tOk zOk rfl rfl rfl ?_
    refine thenK_n ?_
    refine W.seq ?_
    refine W.cond rfl (fun c2 => ?_) (fun c2 => ?_)
    · skip
      have hi := row_lt c2
      have hs := sp_at hv hi
      refine W.skip ?_
      refine thenK_n ?_
      refine W.seq ?_
      refine W.block ?_
      refine W.seq ?_
      refine W.region ?_
      refine S.pure tOk zOk rfl rfl rfl ?_
      refine S.pureE tOk zOk rfl (row_ok hi) (row_at Sp.z hi) rfl ?_
      refine S.pure tOk zOk rfl rfl rfl ?_
      refine S.alloc tOk rfl rfl rfl rfl ?_
      refine S.pure tOk zOk rfl rfl rfl ?_
      refine S.store tOk rfl rfl rfl rfl rfl rfl rfl rfl ?_
      refine thenK_n ?_
      refine W.seq ?_
      refine W.seq ?_
      refine W.region ?_
      refine S.pure tOk zOk rfl rfl rfl ?_
      refine S.call rfl rfl rfl rfl rfl (pc_ver_spanFault (ss.getD i Sp.z) hs.1 hs.2) ?_
      refine S.pure tOk zOk rfl rfl rfl ?_
      refine thenK_n ?_
      refine W.seq ?_
      refine W.region ?_
      refine S.pure tOk zOk rfl rfl rfl ?_
      refine S.pure tOk zOk rfl rfl rfl ?_
      refine thenK_n ?_
      refine W.cond rfl (fun c3 => ?_) (fun c3 => ?_)
      · skip
        refine W.seq ?_
        refine W.region ?_
        refine S.pure tOk zOk rfl rfl rfl ?_
        refine S.pure tOk zOk rfl rfl rfl ?_
        refine thenK_n ?_
        refine W.ret ?_
        refine thenK_r ?_
        refine blockK_r ?_
        refine thenK_r ?_
        refine thenK_r ?_
        refine blockK_r ?_
        refine thenK_r ?_
        exact ⟨_, rfl, rfl, LeV.of_eq (congrArg (fun x => V.one (C.d (D.int .i64 x))) (hlen.trans (spAt_hit hi f0_1 (spAt_own c3) (by simpa using c3))).symm)⟩
      · skip
        refine W.skip ?_
        refine thenK_n ?_
        refine W.seq ?_
        refine W.seq ?_
        refine W.region ?_
        refine S.pure tOk zOk rfl rfl rfl ?_
        refine S.pure tOk zOk rfl rfl rfl ?_
        refine thenK_n ?_
        refine W.cond rfl (fun c4 => ?_) (fun c4 => ?_)
        · skip
          refine W.exit ?_
          refine thenK_e ?_
          refine blockK_x ?_
          refine thenK_n ?_
          refine W.region ?_
          refine S.pure tOk zOk rfl rfl rfl ?_
          refine S.pure tOk zOk rfl rfl rfl ?_
          refine loop_n (ss.length - (i + 1)) (by omega) ⟨i + 1, hi, all_take_succ (d := 0) (by simpa using hi) f0_1 (spAt_go hi (spAt_first c3 c4)), rfl, _, _, _, _, rfl, rfl, rfl, rfl, inc_i64 (by omega), trivial⟩
        · skip
          have hi1 : i - 1 < ss.length := by omega
          have hs1 := sp_at hv hi1
          refine W.skip ?_
          refine thenK_n ?_
          refine W.seq ?_
          refine W.region ?_
          refine S.pure tOk zOk rfl rfl rfl ?_
          refine S.pure tOk zOk rfl rfl rfl ?_
          refine S.pure tOk zOk rfl rfl rfl ?_
          refine S.pureE tOk zOk rfl rfl (dec_i64 c4 (by omega)) rfl ?_
          refine S.pureE tOk zOk rfl (row_ok hi1) (row_at Sp.z hi1) rfl ?_
          refine S.pure tOk zOk rfl rfl rfl ?_
          refine S.alloc tOk rfl rfl rfl rfl ?_
          refine S.store tOk rfl rfl rfl rfl rfl rfl rfl rfl ?_
          refine thenK_n ?_
          refine W.seq ?_
          refine W.region ?_
          refine S.pure tOk zOk rfl rfl rfl ?_
          refine S.pure tOk zOk rfl rfl rfl ?_
          refine S.pure tOk zOk rfl rfl rfl ?_
          refine S.pure tOk zOk rfl rfl rfl ?_
          refine S.pureG tOk zOk rfl rfl (by repeat first | exact allT_nil | refine allT_cons (fun h => h) ?_ | refine allT_cons (fun h => andl h) ?_ | refine allT_cons (fun h => andl (andl h)) ?_ | refine allT_cons (fun _ => rfl) ?_) (fun _ => rfl) rfl ?_
          refine S.pureG tOk zOk rfl rfl (by repeat first | exact allT_nil | refine allT_cons (fun h => h) ?_ | refine allT_cons (fun h => andl h) ?_ | refine allT_cons (fun h => andl (andl h)) ?_ | refine allT_cons (fun _ => rfl) ?_) (fun _ => rfl) rfl ?_
          refine S.pureG tOk zOk rfl rfl (by repeat first | exact allT_nil | refine allT_cons (fun h => h) ?_ | refine allT_cons (fun h => andl h) ?_ | refine allT_cons (fun h => andl (andl h)) ?_ | refine allT_cons (fun _ => rfl) ?_) (fun _ => rfl) rfl ?_
          refine S.pickOr tOk zOk rfl rfl (by repeat first | exact allT_nil | refine allT_cons (fun h => h) ?_ | refine allT_cons (fun h => andl h) ?_ | refine allT_cons (fun h => andl (andl h)) ?_ | refine allT_cons (fun _ => rfl) ?_) ?_
          refine S.pure tOk zOk rfl rfl rfl ?_
          refine S.pureG tOk zOk rfl rfl (by repeat first | exact allT_nil | refine allT_cons (fun h => h) ?_ | refine allT_cons (fun h => andl h) ?_ | refine allT_cons (fun h => andl (andl h)) ?_ | refine allT_cons (fun _ => rfl) ?_) (fun _ => rfl) rfl ?_
          refine S.pureG tOk zOk rfl rfl (by repeat first | exact allT_nil | refine allT_cons (fun h => h) ?_ | refine allT_cons (fun h => andl h) ?_ | refine allT_cons (fun h => andl (andl h)) ?_ | refine allT_cons (fun _ => rfl) ?_) (fun _ => rfl) rfl ?_
          refine S.pureG tOk zOk rfl rfl (by repeat first | exact allT_nil | refine allT_cons (fun h => h) ?_ | refine allT_cons (fun h => andl h) ?_ | refine allT_cons (fun h => andl (andl h)) ?_ | refine allT_cons (fun _ => rfl) ?_) (fun _ => rfl) rfl ?_
          refine S.pureG tOk zOk rfl rfl (by repeat first | exact allT_nil | refine allT_cons (fun h => h) ?_ | refine allT_cons (fun h => andl h) ?_ | refine allT_cons (fun h => andl (andl h)) ?_ | refine allT_cons (fun _ => rfl) ?_) (fun _ => rfl) rfl ?_
          refine S.callG rfl rfl rfl rfl (by repeat first | exact allT_nil | refine allT_cons (fun h => h) ?_ | refine allT_cons (fun h => andl h) ?_ | refine allT_cons (fun h => andl (andl h)) ?_ | refine allT_cons (fun _ => rfl) ?_) rfl rfl (fun _ => pc_ver_Order (ss.getD i Sp.z).f (ss.getD (i - 1) Sp.z).t hs.1 hs1.2) ?_
          refine S.pureG tOk zOk rfl rfl (by repeat first | exact allT_nil | refine allT_cons (fun h => h) ?_ | refine allT_cons (fun h => andl h) ?_ | refine allT_cons (fun h => andl (andl h)) ?_ | refine allT_cons (fun _ => rfl) ?_) (fun _ => rfl) rfl ?_
          refine S.pickOr tOk zOk rfl rfl (by repeat first | exact allT_nil | refine allT_cons (fun h => h) ?_ | refine allT_cons (fun h => andl h) ?_ | refine allT_cons (fun h => andl (andl h)) ?_ | refine allT_cons (fun _ => rfl) ?_) ?_
          refine thenK_n ?_
          refine W.cond rfl (fun c5 => ?_) (fun c5 => ?_)
          · skip
            refine W.seq ?_
            refine W.region ?_
            refine S.pure tOk zOk rfl rfl rfl ?_
            refine thenK_n ?_
            refine W.ret ?_
            refine blockK_r ?_
            refine thenK_r ?_
            refine thenK_r ?_
            refine blockK_r ?_
            refine thenK_r ?_
            exact ⟨_, rfl, rfl, LeV.of_eq (congrArg (fun x => V.one (C.d (D.int .i64 x))) (hlen.trans (spAt_hit hi f0_1 (spAt_bad c3 c4 c5) (by decide))).symm)⟩
          · skip
            refine W.skip ?_
            refine blockK_n ?_
            refine thenK_n ?_
            refine W.region ?_
            refine S.pure tOk zOk rfl rfl rfl ?_
            refine S.pure tOk zOk rfl rfl rfl ?_
            refine loop_n (ss.length - (i + 1)) (by omega) ⟨i + 1, hi, all_take_succ (d := 0) (by simpa using hi) f0_1 (spAt_go hi (spAt_ok c3 c4 c5)), rfl, _, _, _, _, rfl, rfl, rfl, rfl, inc_i64 (by omega), trivial⟩
    · skip
      have hi := row_ge c2
      refine W.exit ?_
      refine thenK_e ?_
      refine thenK_e ?_
      refine blockK_x ?_
      refine thenK_n ?_
      refine W.seq ?_
      refine W.region ?_
      refine S.pure tOk zOk rfl rfl rfl ?_
      refine thenK_n ?_
      refine W.ret ?_
      exact ⟨_, rfl, rfl, LeV.of_eq (congrArg (fun x => V.one (C.d (D.int .i64 x))) (hlen.trans (firstNe_none (by simpa using hi) f0_1)).symm)⟩

theorem pc_itemless : True := trivial

theorem pc_ver_isRow (s : List UInt8) (hs : s.length < 4294967281) :
    PureCall Tryz.prog J 124 [.one (.d (.str s))] (.one (.d (.bool (rowB s)))) := by
  refine PureCall.of_body tOk (fn := Tryz.f124) Tryz.func124 (by kernel_rfl) rfl (Nat.le_of_ble_eq_true rfl) (fun E => ?_)
  refine W.seq ?_
  refine W.region ?_
  refine S.pure tOk zOk rfl rfl rfl ?_
  refine thenK_n ?_
  refine W.seq ?_
  refine W.region ?_
  refine S.pure tOk zOk rfl rfl rfl ?_
  refine S.call rfl rfl rfl rfl rfl (pc_Contains _ _ (by omega)) ?_
  refine S.pure tOk zOk rfl rfl rfl ?_
  refine S.pure tOk zOk rfl rfl rfl ?_
  refine thenK_n ?_
  refine W.ret ?_
  exact ⟨_, rfl, rfl, LeV.refl _⟩

theorem pc_ver_wrong (s : List UInt8) (hs : s.length < 4294967281) :
    PureCall Tryz.prog J 50 [.one (.d (.str s))] (.one (.d (.bool (wrongB s)))) := by
  refine PureCall.of_body tOk (fn := Tryz.f50) Tryz.func50 (by kernel_rfl) rfl (Nat.le_of_ble_eq_true rfl) (fun E => ?_)
  refine W.seq ?_
  refine W.region ?_
  refine S.pure tOk zOk rfl rfl rfl ?_
  refine thenK_n ?_
  refine W.seq ?_
  refine W.region ?_
  refine S.pure tOk zOk rfl rfl rfl ?_
  refine S.call rfl rfl rfl rfl rfl (pc_ver_Parse _ (by omega)) ?_
  refine S.pure tOk zOk rfl rfl rfl ?_
  refine S.pure tOk zOk rfl rfl rfl ?_
  refine S.pure tOk zOk rfl rfl rfl ?_
  refine S.alloc tOk rfl rfl rfl rfl ?_
  refine S.store tOk rfl rfl rfl rfl rfl rfl rfl rfl ?_
  refine S.pure tOk zOk rfl rfl rfl ?_
  refine thenK_n ?_
  refine W.seq ?_
  refine W.region ?_
  refine S.pure tOk zOk rfl rfl rfl ?_
  refine S.pure tOk zOk rfl rfl rfl ?_
  refine S.pure tOk zOk rfl rfl rfl ?_
  refine thenK_n ?_
  refine W.ret ?_
  exact ⟨_, rfl, rfl, LeV.refl _⟩

end Go.Proofs.YtnphejkeflngcaaGreatDoor

set_option linter.unusedVariables false
set_option linter.unusedSimpArgs false
set_option maxRecDepth 100000
set_option maxHeartbeats 4000000
namespace Go.Proofs.YtnphejkeflngcaaGreatDoor
open Go
open Go.RowKit

theorem pc_ver_spanText (s : Sp) (h1 : s.f.e.length < 1000000000) (h2 : s.t.e.length < 1000000000) (ho : SpOk s) :
    PureCall Tryz.prog J 44 [spV s] (.one (.d (.str (spT s)))) := by
  have ht1 := Ver.text_le ho.1
  have ht2 := Ver.text_le ho.2
  unfold Ver.text at ht1 ht2
  refine PureCall.of_body tOk (fn := Tryz.f44) Tryz.func44 (by kernel_rfl) rfl (Nat.le_of_ble_eq_true rfl) (fun E => ?_)
  refine W.seq ?_
  refine W.region ?_
  refine S.box rfl rfl rfl rfl ?_
  refine S.pure tOk zOk rfl rfl rfl ?_
  refine thenK_n ?_
  refine W.seq ?_
  refine W.block ?_
  refine W.seq ?_
  refine W.region ?_
  refine S.pure tOk zOk rfl rfl rfl ?_
  refine S.pure tOk zOk rfl rfl rfl ?_
  refine S.pure tOk zOk rfl rfl rfl ?_
  refine S.pureG tOk zOk rfl rfl (by repeat first | exact allT_nil | refine allT_cons (fun h => h) ?_ | refine allT_cons (fun h => andl h) ?_ | refine allT_cons (fun h => andl (andl h)) ?_ | refine allT_cons (fun _ => rfl) ?_) (fun _ => rfl) rfl ?_
  refine S.pureG tOk zOk rfl rfl (by repeat first | exact allT_nil | refine allT_cons (fun h => h) ?_ | refine allT_cons (fun h => andl h) ?_ | refine allT_cons (fun h => andl (andl h)) ?_ | refine allT_cons (fun _ => rfl) ?_) (fun _ => rfl) rfl ?_
  refine S.pickAnd tOk zOk rfl rfl (by repeat first | exact allT_nil | refine allT_cons (fun h => h) ?_ | refine allT_cons (fun h => andl h) ?_ | refine allT_cons (fun h => andl (andl h)) ?_ | refine allT_cons (fun _ => rfl) ?_) ?_
  refine S.pure tOk zOk rfl rfl rfl ?_
  refine thenK_n ?_
  refine W.cond rfl (fun c1 => ?_) (fun c1 => ?_)
  · skip
    refine W.seq ?_
    refine W.regionD mixed (by kernel_rfl) ?_
    refine D.pure tOk zOk rfl rfl rfl rfl ?_
    refine D.pure tOk zOk rfl rfl rfl rfl ?_
    refine D.call rfl rfl rfl rfl rfl (pc_ver_text s.f (by omega) ho.1) ?_
    refine D.pure tOk zOk rfl rfl (cat_ok (by simp [-List.getD_eq_getElem?_getD]; omega)) rfl ?_
    refine D.pure tOk zOk rfl rfl (cat_ok (by simp [-List.getD_eq_getElem?_getD]; omega)) rfl ?_
    refine D.pure tOk zOk rfl rfl rfl rfl ?_
    refine D.pure tOk zOk rfl rfl rfl rfl ?_
    refine D.call rfl rfl rfl rfl rfl (pc_ver_text s.t (by omega) ho.2) ?_
    refine D.pure tOk zOk rfl rfl (cat_ok (by simp [-List.getD_eq_getElem?_getD]; omega)) rfl ?_
    refine D.pure tOk zOk rfl rfl rfl rfl ?_
    refine thenK_n ?_
    refine W.ret ?_
    refine blockK_r ?_
    refine thenK_r ?_
    exact ⟨_, rfl, rfl, LeV.of_force rfl (by simp_all [spT, Ver.text])⟩
  · skip
    refine W.seq ?_
    refine W.region ?_
    refine S.pure tOk zOk rfl rfl rfl ?_
    refine S.pure tOk zOk rfl rfl rfl ?_
    refine S.pure tOk zOk rfl rfl rfl ?_
    refine thenK_n ?_
    refine W.cond rfl (fun c2 => ?_) (fun c2 => ?_)
    · skip
      refine W.seq ?_
      refine W.region ?_
      refine S.pure tOk zOk rfl rfl rfl ?_
      refine S.pure tOk zOk rfl rfl rfl ?_
      refine S.call rfl rfl rfl rfl rfl (pc_ver_text s.f (by omega) ho.1) ?_
      refine S.pure tOk zOk rfl (cat_ok (by simp [-List.getD_eq_getElem?_getD]; omega)) rfl ?_
      refine S.pure tOk zOk rfl rfl rfl ?_
      refine thenK_n ?_
      refine W.ret ?_
      refine blockK_r ?_
      refine thenK_r ?_
      exact ⟨_, rfl, rfl, LeV.of_force rfl (by simp_all [spT, Ver.text])⟩
    · skip
      refine W.seq ?_
      refine W.region ?_
      refine S.pure tOk zOk rfl rfl rfl ?_
      refine S.pure tOk zOk rfl rfl rfl ?_
      refine S.pure tOk zOk rfl rfl rfl ?_
      refine thenK_n ?_
      refine W.cond rfl (fun c3 => ?_) (fun c3 => ?_)
      · skip
        refine W.seq ?_
        refine W.region ?_
        refine S.pure tOk zOk rfl rfl rfl ?_
        refine S.pure tOk zOk rfl rfl rfl ?_
        refine S.call rfl rfl rfl rfl rfl (pc_ver_text s.t (by omega) ho.2) ?_
        refine S.pure tOk zOk rfl (cat_ok (by simp [-List.getD_eq_getElem?_getD]; omega)) rfl ?_
        refine S.pure tOk zOk rfl rfl rfl ?_
        refine thenK_n ?_
        refine W.ret ?_
        refine blockK_r ?_
        refine thenK_r ?_
        exact ⟨_, rfl, rfl, LeV.of_force rfl (by simp_all [spT, Ver.text])⟩
      · skip
        refine W.skip ?_
        refine blockK_n ?_
        refine thenK_n ?_
        refine W.seq ?_
        refine W.region ?_
        refine S.pure tOk zOk rfl rfl rfl ?_
        refine thenK_n ?_
        refine W.ret ?_
        exact ⟨_, rfl, rfl, LeV.of_force rfl (by simp_all [spT, Ver.text])⟩

theorem pc_ver_PrintRange (ss : List Sp) (hl : ss.length ≤ 2000000) (hv : ∀ s ∈ ss, s.f.e.length < 2000000 ∧ s.t.e.length < 2000000) (ho : ∀ s ∈ ss, SpOk s) (hj : (Lib.join (ss.map spT) [44, 32]).length ≤ 140737488355328) :
    PureCall Tryz.prog J 8 [rgV ss] (.tup [.one (.d (.str (printR ss).1)), .one (.d (.int .i64 (printR ss).2))]) := by
  refine PureCall.of_body tOk (fn := Tryz.f8) Tryz.func8 (by kernel_rfl) rfl (Nat.le_of_ble_eq_true rfl) (fun E => ?_)
  refine W.seq ?_
  refine W.region ?_
  refine S.box rfl rfl rfl rfl ?_
  refine S.pure tOk zOk rfl rfl rfl ?_
  refine S.pure tOk zOk rfl rfl rfl ?_
  refine thenK_n ?_
  refine W.seq ?_
  refine W.seq ?_
  refine W.region ?_
  refine S.pure tOk zOk rfl rfl rfl ?_
  refine S.call rfl rfl rfl rfl rfl (pc_ver_CheckRange ss (by omega) (fun s hs => by have := hv s hs; constructor <;> omega)) ?_
  refine S.pure tOk zOk rfl rfl rfl ?_
  refine thenK_n ?_
  refine W.seq ?_
  refine W.region ?_
  refine S.pure tOk zOk rfl rfl rfl ?_
  refine S.pure tOk zOk rfl rfl rfl ?_
  refine thenK_n ?_
  refine W.cond rfl (fun c1 => ?_) (fun c1 => ?_)
  · skip
    refine W.seq ?_
    refine W.region ?_
    refine S.pure tOk zOk rfl rfl rfl ?_
    refine S.pure tOk zOk rfl rfl rfl ?_
    refine S.pure tOk zOk rfl rfl rfl ?_
    refine thenK_n ?_
    refine W.ret ?_
    refine thenK_r ?_
    exact ⟨_, rfl, rfl, LeV.of_force rfl (by simp_all [printR])⟩
  · skip
    refine W.skip ?_
    refine thenK_n ?_
    refine W.seq ?_
    refine W.seq ?_
    refine W.region ?_
    refine S.pure tOk zOk rfl rfl rfl ?_
    refine S.pure tOk zOk rfl rfl rfl ?_
    refine S.pure tOk zOk rfl rfl rfl ?_
    refine S.pure tOk zOk rfl rfl rfl ?_
    refine thenK_n ?_
    refine W.cond rfl (fun c2 => ?_) (fun c2 => ?_)
    · skip
      refine W.seq ?_
      refine W.region ?_
      refine S.pure tOk zOk rfl rfl rfl ?_
      refine S.pure tOk zOk rfl rfl rfl ?_
      refine thenK_n ?_
      refine W.ret ?_
      refine thenK_r ?_
      exact ⟨_, rfl, rfl, LeV.of_force rfl (by simp_all [printR])⟩
    · skip
      refine W.skip ?_
      refine thenK_n ?_
      refine W.seq ?_
      refine W.region ?_
      refine S.pure tOk zOk rfl rfl rfl ?_
      refine thenK_n ?_
      refine W.seq ?_
      refine W.seq ?_
      refine W.newRow 5 1 9 rfl ?_
      refine W.region ?_
      refine S.pure tOk zOk rfl rfl rfl ?_
      refine S.pure tOk zOk rfl rfl rfl ?_
      refine S.pure tOk zOk rfl rfl rfl ?_
      refine S.pure tOk zOk rfl rfl rfl ?_
      refine thenK_n ?_
      refine W.block ?_
      refine W.loop (fun k st => ∃ i : Nat, ∃ v : Nat, ∃ al : Bool, i ≤ ss.length ∧ k = ss.length - i ∧ ∃ t b2 r2 m2, st = ⟨t, [] ++ b2, [some ⟨al, v, 1, 9, (((ss.take i).map spT).map fun x => [D.str x])⟩] ++ r2, [] ++ m2⟩ ∧ holdsL t [(5, .one (.row 0 v 0 (((ss.take i).map spT).map fun x => [D.str x]).length)), (18, .one (.d (.vec 10 (ss.map spD)))), (19, .one (.d (.int .i64 ((ss.map spD).length : Int)))), (20, .one (.d (.int .i64 (i : Int))))]) (ss.length) ⟨0, 0, false, Nat.zero_le _, rfl, _, _, _, _, rfl, rfl, rfl, rfl, rfl, trivial⟩ ?_
      rintro k0 _ ⟨i, v, al, f0_0, rfl, t0, bb0, rr0, mm0, rfl, hh0⟩
      refine W.keepR _ _ _ _ _ _ _ hh0 rfl ?_
      refine W.seq ?_
      refine W.region ?_
      refine S.pure tOk zOk rfl rfl rfl ?_
      refine thenK_n ?_
      refine W.seq ?_
      refine W.cond rfl (fun c3 => ?_) (fun c3 => ?_)
      · skip
        have hi := row_lt c3
        have hsp := sp_at2 hv hi
        refine W.skip ?_
        refine thenK_n ?_
        refine W.seq ?_
        refine W.block ?_
        refine W.seq ?_
        refine W.region ?_
        refine S.pureE tOk zOk rfl (row_ok hi) (row_at Sp.z hi) rfl ?_
        refine S.pure tOk zOk rfl rfl rfl ?_
        refine S.alloc tOk rfl rfl rfl rfl ?_
        refine S.store tOk rfl rfl rfl rfl rfl rfl rfl rfl ?_
        refine thenK_n ?_
        refine W.region ?_
        refine S.pure tOk zOk rfl rfl rfl ?_
        refine S.pure tOk zOk rfl rfl rfl ?_
        refine S.call rfl rfl rfl rfl rfl (pc_ver_spanText (ss.getD i Sp.z) (by omega) (by omega) (ok_at ho hi)) ?_
        refine S.slice tOk rfl rfl ?_
        refine S.append tOk rfl rfl rfl rfl rfl rfl rfl rfl rfl rfl rfl rfl (by show _ + 1 ≤ _; simp; omega) rfl (take_snoc2 Sp.z hi) rfl ?_
        refine S.pure tOk zOk rfl rfl rfl ?_
        refine blockK_n ?_
        refine thenK_n ?_
        refine W.region ?_
        refine S.pure tOk zOk rfl rfl rfl ?_
        refine S.pure tOk zOk rfl rfl rfl ?_
        refine loop_n (ss.length - (i + 1)) (by omega) ⟨i + 1, _, _, hi, rfl, _, _, _, _, rfl, rfl, rfl, rfl, inc_i64 (by omega), trivial⟩
      · skip
        have hi := row_ge c3
        refine W.exit ?_
        refine thenK_e ?_
        refine thenK_e ?_
        refine blockK_x ?_
        refine thenK_n ?_
        refine W.seq ?_
        refine W.freeze (q := ⟨_, _, _, _, _⟩) [5] rfl (by intro k hk; simp at hk; subst hk; rfl) ?_
        have hts : ss.take i = ss := List.take_of_length_le hi
        rw [hts]
        generalize hss : ss.map spT = ss' at hj ⊢
        have hsl : ss'.length ≤ 2000000 := by rw [← hss]; simpa using hl
        refine W.region ?_
        refine S.pure tOk zOk rfl rfl rfl ?_
        refine S.call rfl rfl rfl rfl rfl (pc_Join ss' [44, 32] (by omega) hj) ?_
        refine S.pure tOk zOk rfl rfl rfl ?_
        refine S.pure tOk zOk rfl rfl rfl ?_
        refine thenK_n ?_
        refine W.ret ?_
        exact ⟨_, rfl, rfl, LeV.of_force rfl (by rw [printR, if_neg (Bool.eq_false_iff.1 c1), if_neg (by simpa using c2), ← hss]; simp)⟩

theorem pc_outref2_RangeText (ss : List Sp) (hl : ss.length ≤ 2000000) (hv : ∀ s ∈ ss, s.f.e.length < 2000000 ∧ s.t.e.length < 2000000) (ho : ∀ s ∈ ss, SpOk s) (hj : (Lib.join (ss.map spT) [44, 32]).length ≤ 140737488355328) :
    PureCall Tryz.prog J 11 [rgV ss] (.one (.d (.str (if (ss.length : Int) == 0 then [110, 111, 110, 101] else Lib.join (ss.map spT) [44, 32])))) := by
  refine PureCall.of_body tOk (fn := Tryz.f11) Tryz.func11 (by kernel_rfl) rfl (Nat.le_of_ble_eq_true rfl) (fun E => ?_)
  refine W.seq ?_
  refine W.region ?_
  refine S.box rfl rfl rfl rfl ?_
  refine S.pure tOk zOk rfl rfl rfl ?_
  refine thenK_n ?_
  refine W.seq ?_
  refine W.seq ?_
  refine W.region ?_
  refine S.pure tOk zOk rfl rfl rfl ?_
  refine S.pure tOk zOk rfl rfl rfl ?_
  refine S.pure tOk zOk rfl rfl rfl ?_
  refine S.pure tOk zOk rfl rfl rfl ?_
  refine thenK_n ?_
  refine W.cond rfl (fun c1 => ?_) (fun c1 => ?_)
  · skip
    refine W.seq ?_
    refine W.region ?_
    refine S.pure tOk zOk rfl rfl rfl ?_
    refine thenK_n ?_
    refine W.ret ?_
    refine thenK_r ?_
    exact ⟨_, rfl, rfl, LeV.of_force rfl (by simp_all [rangeE])⟩
  · skip
    refine W.skip ?_
    refine thenK_n ?_
    refine W.seq ?_
    refine W.region ?_
    refine S.pure tOk zOk rfl rfl rfl ?_
    refine thenK_n ?_
    refine W.seq ?_
    refine W.seq ?_
    refine W.newRow 3 1 9 rfl ?_
    refine W.region ?_
    refine S.pure tOk zOk rfl rfl rfl ?_
    refine S.pure tOk zOk rfl rfl rfl ?_
    refine S.pure tOk zOk rfl rfl rfl ?_
    refine S.pure tOk zOk rfl rfl rfl ?_
    refine thenK_n ?_
    refine W.block ?_
    refine W.loop (fun k st => ∃ i : Nat, ∃ v : Nat, ∃ al : Bool, i ≤ ss.length ∧ k = ss.length - i ∧ ∃ t b2 r2 m2, st = ⟨t, [] ++ b2, [some ⟨al, v, 1, 9, (((ss.take i).map spT).map fun x => [D.str x])⟩] ++ r2, [] ++ m2⟩ ∧ holdsL t [(3, .one (.row 0 v 0 (((ss.take i).map spT).map fun x => [D.str x]).length)), (12, .one (.d (.vec 10 (ss.map spD)))), (13, .one (.d (.int .i64 ((ss.map spD).length : Int)))), (14, .one (.d (.int .i64 (i : Int))))]) (ss.length) ⟨0, 0, false, Nat.zero_le _, rfl, _, _, _, _, rfl, rfl, rfl, rfl, rfl, trivial⟩ ?_
    rintro k0 _ ⟨i, v, al, f0_0, rfl, t0, bb0, rr0, mm0, rfl, hh0⟩
    refine W.keepR _ _ _ _ _ _ _ hh0 rfl ?_
    refine W.seq ?_
    refine W.region ?_
    refine S.pure tOk zOk rfl rfl rfl ?_
    refine thenK_n ?_
    refine W.seq ?_
    refine W.cond rfl (fun c2 => ?_) (fun c2 => ?_)
    · skip
      have hi := row_lt c2
      have hsp := sp_at2 hv hi
      have hos := ok_at ho hi
      have ht1 := Ver.text_le hos.1
      have ht2 := Ver.text_le hos.2
      unfold Ver.text at ht1 ht2
      refine W.skip ?_
      refine thenK_n ?_
      refine W.seq ?_
      refine W.block ?_
      refine W.seq ?_
      refine W.region ?_
      refine S.pureE tOk zOk rfl (row_ok hi) (row_at Sp.z hi) rfl ?_
      refine S.pure tOk zOk rfl rfl rfl ?_
      refine S.alloc tOk rfl rfl rfl rfl ?_
      refine S.store tOk rfl rfl rfl rfl rfl rfl rfl rfl ?_
      refine thenK_n ?_
      refine W.seq ?_
      refine W.region ?_
      refine S.pure tOk zOk rfl rfl rfl ?_
      refine thenK_n ?_
      refine W.seq ?_
      refine W.seq ?_
      refine W.newRow 6 1 9 rfl ?_
      refine W.region ?_
      refine S.pure tOk zOk rfl rfl rfl ?_
      refine S.pure tOk zOk rfl rfl rfl ?_
      refine thenK_n ?_
      refine W.cond rfl (fun c3 => ?_) (fun c3 => ?_)
      · skip
        refine W.region ?_
        refine S.pure tOk zOk rfl rfl rfl ?_
        refine S.pure tOk zOk rfl rfl rfl ?_
        refine S.pure tOk zOk rfl rfl rfl ?_
        refine S.call rfl rfl rfl rfl rfl (pc_outref2_VersionText (ss.getD i Sp.z).f (by omega) hos.1) ?_
        refine S.pure tOk zOk rfl (cat_ok (by simp [-List.getD_eq_getElem?_getD]; omega)) rfl ?_
        refine S.slice tOk rfl rfl ?_
        refine S.append tOk rfl rfl rfl rfl rfl rfl rfl rfl rfl rfl rfl rfl (Nat.le_of_ble_eq_true rfl) rfl (rfl) rfl ?_
        refine S.pure tOk zOk rfl rfl rfl ?_
        refine thenK_n ?_
        refine W.seq ?_
        refine W.seq ?_
        refine W.region ?_
        refine S.pure tOk zOk rfl rfl rfl ?_
        refine S.pure tOk zOk rfl rfl rfl ?_
        refine thenK_n ?_
        refine W.cond rfl (fun c4 => ?_) (fun c4 => ?_)
        · skip
          refine W.region ?_
          refine S.pure tOk zOk rfl rfl rfl ?_
          refine S.pure tOk zOk rfl rfl rfl ?_
          refine S.pure tOk zOk rfl rfl rfl ?_
          refine S.call rfl rfl rfl rfl rfl (pc_outref2_VersionText (ss.getD i Sp.z).t (by omega) hos.2) ?_
          refine S.pure tOk zOk rfl (cat_ok (by simp [-List.getD_eq_getElem?_getD]; omega)) rfl ?_
          refine S.slice tOk rfl rfl ?_
          refine S.append tOk rfl rfl rfl rfl rfl rfl rfl rfl rfl rfl rfl rfl (Nat.le_of_ble_eq_true rfl) rfl (rfl) rfl ?_
          refine S.pure tOk zOk rfl rfl rfl ?_
          refine thenK_n ?_
          refine W.seq ?_
          refine W.seq ?_
          refine W.freeze (ri := 1) (q := ⟨_, _, _, _, _⟩) [6] rfl (by intro k hk; simp at hk; subst hk; rfl) ?_
          refine W.region ?_
          refine S.pure tOk zOk rfl rfl rfl ?_
          refine S.pure tOk zOk rfl rfl rfl ?_
          refine S.pure tOk zOk rfl rfl rfl ?_
          refine thenK_n ?_
          refine W.condF rfl rfl ?_
          refine W.skip ?_
          refine thenK_n ?_
          refine W.region ?_
          refine S.pure tOk zOk rfl rfl rfl ?_
          refine S.pure tOk zOk rfl rfl rfl ?_
          refine S.call rfl rfl rfl rfl rfl (pc_Join [([62, 61] ++ textB (ss.getD i Sp.z).f.a (ss.getD i Sp.z).f.b (ss.getD i Sp.z).f.c (ss.getD i Sp.z).f.e), ([60] ++ textB (ss.getD i Sp.z).t.a (ss.getD i Sp.z).t.b (ss.getD i Sp.z).t.c (ss.getD i Sp.z).t.e)] [32] (by simp) (by simp [Lib.join, List.intercalate, List.intersperse, -List.getD_eq_getElem?_getD] <;> omega)) ?_
          refine S.slice tOk rfl rfl ?_
          refine S.append tOk rfl rfl rfl rfl rfl rfl rfl rfl rfl rfl rfl rfl (by show _ + 1 ≤ _; simp; omega) rfl (take_snoc3 (spT_both c3 c4) hi) rfl ?_
          refine S.pure tOk zOk rfl rfl rfl ?_
          refine blockK_n ?_
          refine thenK_n ?_
          refine W.region ?_
          refine S.pure tOk zOk rfl rfl rfl ?_
          refine S.pure tOk zOk rfl rfl rfl ?_
          refine loop_n (ss.length - (i + 1)) (by omega) ⟨i + 1, _, _, hi, rfl, _, _, _, _, rfl, rfl, rfl, rfl, inc_i64 (by omega), trivial⟩
        · skip
          refine W.skip ?_
          refine thenK_n ?_
          refine W.seq ?_
          refine W.seq ?_
          refine W.freeze (ri := 1) (q := ⟨_, _, _, _, _⟩) [6] rfl (by intro k hk; simp at hk; subst hk; rfl) ?_
          refine W.region ?_
          refine S.pure tOk zOk rfl rfl rfl ?_
          refine S.pure tOk zOk rfl rfl rfl ?_
          refine S.pure tOk zOk rfl rfl rfl ?_
          refine thenK_n ?_
          refine W.condF rfl rfl ?_
          refine W.skip ?_
          refine thenK_n ?_
          refine W.region ?_
          refine S.pure tOk zOk rfl rfl rfl ?_
          refine S.pure tOk zOk rfl rfl rfl ?_
          refine S.call rfl rfl rfl rfl rfl (pc_Join [([62, 61] ++ textB (ss.getD i Sp.z).f.a (ss.getD i Sp.z).f.b (ss.getD i Sp.z).f.c (ss.getD i Sp.z).f.e)] [32] (by simp) (by simp [Lib.join, List.intercalate, List.intersperse, -List.getD_eq_getElem?_getD] <;> omega)) ?_
          refine S.slice tOk rfl rfl ?_
          refine S.append tOk rfl rfl rfl rfl rfl rfl rfl rfl rfl rfl rfl rfl (by show _ + 1 ≤ _; simp; omega) rfl (take_snoc3 (spT_from c3 c4) hi) rfl ?_
          refine S.pure tOk zOk rfl rfl rfl ?_
          refine blockK_n ?_
          refine thenK_n ?_
          refine W.region ?_
          refine S.pure tOk zOk rfl rfl rfl ?_
          refine S.pure tOk zOk rfl rfl rfl ?_
          refine loop_n (ss.length - (i + 1)) (by omega) ⟨i + 1, _, _, hi, rfl, _, _, _, _, rfl, rfl, rfl, rfl, inc_i64 (by omega), trivial⟩
      · skip
        refine W.skip ?_
        refine thenK_n ?_
        refine W.seq ?_
        refine W.seq ?_
        refine W.region ?_
        refine S.pure tOk zOk rfl rfl rfl ?_
        refine S.pure tOk zOk rfl rfl rfl ?_
        refine thenK_n ?_
        refine W.cond rfl (fun c7 => ?_) (fun c7 => ?_)
        · skip
          refine W.region ?_
          refine S.pure tOk zOk rfl rfl rfl ?_
          refine S.pure tOk zOk rfl rfl rfl ?_
          refine S.pure tOk zOk rfl rfl rfl ?_
          refine S.call rfl rfl rfl rfl rfl (pc_outref2_VersionText (ss.getD i Sp.z).t (by omega) hos.2) ?_
          refine S.pure tOk zOk rfl (cat_ok (by simp [-List.getD_eq_getElem?_getD]; omega)) rfl ?_
          refine S.slice tOk rfl rfl ?_
          refine S.append tOk rfl rfl rfl rfl rfl rfl rfl rfl rfl rfl rfl rfl (Nat.le_of_ble_eq_true rfl) rfl (rfl) rfl ?_
          refine S.pure tOk zOk rfl rfl rfl ?_
          refine thenK_n ?_
          refine W.seq ?_
          refine W.seq ?_
          refine W.freeze (ri := 1) (q := ⟨_, _, _, _, _⟩) [6] rfl (by intro k hk; simp at hk; subst hk; rfl) ?_
          refine W.region ?_
          refine S.pure tOk zOk rfl rfl rfl ?_
          refine S.pure tOk zOk rfl rfl rfl ?_
          refine S.pure tOk zOk rfl rfl rfl ?_
          refine thenK_n ?_
          refine W.condF rfl rfl ?_
          refine W.skip ?_
          refine thenK_n ?_
          refine W.region ?_
          refine S.pure tOk zOk rfl rfl rfl ?_
          refine S.pure tOk zOk rfl rfl rfl ?_
          refine S.call rfl rfl rfl rfl rfl (pc_Join [([60] ++ textB (ss.getD i Sp.z).t.a (ss.getD i Sp.z).t.b (ss.getD i Sp.z).t.c (ss.getD i Sp.z).t.e)] [32] (by simp) (by simp [Lib.join, List.intercalate, List.intersperse, -List.getD_eq_getElem?_getD] <;> omega)) ?_
          refine S.slice tOk rfl rfl ?_
          refine S.append tOk rfl rfl rfl rfl rfl rfl rfl rfl rfl rfl rfl rfl (by show _ + 1 ≤ _; simp; omega) rfl (take_snoc3 (spT_to c3 c7) hi) rfl ?_
          refine S.pure tOk zOk rfl rfl rfl ?_
          refine blockK_n ?_
          refine thenK_n ?_
          refine W.region ?_
          refine S.pure tOk zOk rfl rfl rfl ?_
          refine S.pure tOk zOk rfl rfl rfl ?_
          refine loop_n (ss.length - (i + 1)) (by omega) ⟨i + 1, _, _, hi, rfl, _, _, _, _, rfl, rfl, rfl, rfl, inc_i64 (by omega), trivial⟩
        · skip
          refine W.skip ?_
          refine thenK_n ?_
          refine W.seq ?_
          refine W.seq ?_
          refine W.freeze (ri := 1) (q := ⟨_, _, _, _, _⟩) [6] rfl (by intro k hk; simp at hk; subst hk; rfl) ?_
          refine W.region ?_
          refine S.pure tOk zOk rfl rfl rfl ?_
          refine S.pure tOk zOk rfl rfl rfl ?_
          refine S.pure tOk zOk rfl rfl rfl ?_
          refine thenK_n ?_
          refine W.condT rfl rfl ?_
          refine W.region ?_
          refine S.slice tOk rfl rfl ?_
          refine S.pure tOk zOk rfl rfl rfl ?_
          refine thenK_n ?_
          refine W.region ?_
          refine S.pure tOk zOk rfl rfl rfl ?_
          refine S.pure tOk zOk rfl rfl rfl ?_
          refine S.call rfl rfl rfl rfl rfl (pc_Join [[42]] [32] (by simp) (by simp [Lib.join, List.intercalate, List.intersperse, -List.getD_eq_getElem?_getD] <;> omega)) ?_
          refine S.slice tOk rfl rfl ?_
          refine S.append tOk rfl rfl rfl rfl rfl rfl rfl rfl rfl rfl rfl rfl (by show _ + 1 ≤ _; simp; omega) rfl (take_snoc3 (spT_all c3 c7) hi) rfl ?_
          refine S.pure tOk zOk rfl rfl rfl ?_
          refine blockK_n ?_
          refine thenK_n ?_
          refine W.region ?_
          refine S.pure tOk zOk rfl rfl rfl ?_
          refine S.pure tOk zOk rfl rfl rfl ?_
          refine loop_n (ss.length - (i + 1)) (by omega) ⟨i + 1, _, _, hi, rfl, _, _, _, _, rfl, rfl, rfl, rfl, inc_i64 (by omega), trivial⟩
    · skip
      have hi := row_ge c2
      refine W.exit ?_
      refine thenK_e ?_
      refine thenK_e ?_
      refine blockK_x ?_
      refine thenK_n ?_
      refine W.seq ?_
      refine W.freeze (q := ⟨_, _, _, _, _⟩) [3] rfl (by intro k hk; simp at hk; subst hk; rfl) ?_
      have hts : ss.take i = ss := List.take_of_length_le hi
      rw [hts]
      generalize hss : ss.map spT = ss' at hj ⊢
      have hsl : ss'.length ≤ 2000000 := by rw [← hss]; simpa using hl
      refine W.region ?_
      refine S.pure tOk zOk rfl rfl rfl ?_
      refine S.call rfl rfl rfl rfl rfl (pc_Join ss' [44, 32] (by omega) hj) ?_
      refine S.pure tOk zOk rfl rfl rfl ?_
      refine thenK_n ?_
      refine W.ret ?_
      exact ⟨_, rfl, rfl, LeV.of_force rfl (by rw [if_neg (by simpa using c1)])⟩

end Go.Proofs.YtnphejkeflngcaaGreatDoor

/- Plain words: the order of versions the other way round. -/
set_option linter.unusedVariables false
set_option linter.unusedSimpArgs false
namespace Go.Proofs.YtnphejkeflngcaaGreatDoor
open Go
theorem cmpInt_neg (x y : Int) : Lib.compareInt y x = -Lib.compareInt x y := by
  unfold Lib.compareInt
  by_cases h1 : x < y
  · rw [if_pos h1, if_neg (by omega), if_pos h1]; rfl
  · by_cases h2 : y < x
    · rw [if_pos h2, if_neg h1, if_pos h2]
    · rw [if_neg h2, if_neg h1, if_neg h1, if_neg h2]; rfl
theorem cmpBytes_neg : ∀ (a b : List UInt8), Lib.compareBytes b a = -Lib.compareBytes a b
  | [], [] => rfl
  | [], _ :: _ => rfl
  | _ :: _, [] => rfl
  | a :: l, b :: m => by
    have ih := cmpBytes_neg l m
    by_cases h1 : a < b
    · have h2 : ¬ b < a := by
        have h1' : a.toNat < b.toNat := h1
        show ¬ b.toNat < a.toNat
        omega
      simp only [Lib.compareBytes, h1, h2, if_true, if_false]; rfl
    · by_cases h2 : b < a
      · simp only [Lib.compareBytes, h1, h2, if_true, if_false]
      · simp only [Lib.compareBytes, h1, h2, if_false]; exact ih
theorem cwB_neg (a b : List UInt8) : cwB b a = -cwB a b := by
  unfold cwB
  cases ha : numeralB a <;> cases hb : numeralB b <;> simp only [Bool.and_true, Bool.and_false, Bool.false_and, Bool.true_and, if_true, if_false, Bool.false_eq_true]
  · exact cmpBytes_neg a b
  · rfl
  · by_cases h : a.length = b.length
    · rw [if_neg (by simp [h]), if_neg (by simp [h])]; exact cmpBytes_neg a b
    · rw [if_pos (by simp; omega), if_pos (by simp; omega)]; exact cmpInt_neg _ _
theorem firstNe_neg (l : List Int) : firstNe (l.map fun x => -x) = -firstNe l := by
  induction l with
  | nil => rfl
  | cons a l ih =>
    unfold firstNe at ih ⊢
    by_cases h : a = 0
    · subst h; simpa using ih
    · have h' : ¬ -a = 0 := by omega
      simp [List.find?_cons, bne_iff_ne, h, h']
theorem zip_neg : ∀ (xs ys : List (List UInt8)), List.zipWith cwB ys xs = (List.zipWith cwB xs ys).map fun x => -x
  | [], ys => by cases ys <;> rfl
  | x :: xs, [] => rfl
  | x :: xs, y :: ys => by simp only [List.zipWith_cons_cons, List.map_cons, zip_neg xs ys, cwB_neg x y]
theorem rowsB_neg (xs ys : List (List UInt8)) : rowsB ys xs = -rowsB xs ys := by
  unfold rowsB
  rw [zip_neg, firstNe_neg]
  by_cases h : firstNe (List.zipWith cwB xs ys) = 0
  · rw [h]; exact cmpInt_neg _ _
  · have h' : ¬ -firstNe (List.zipWith cwB xs ys) = 0 := by omega
    rw [if_pos (by simpa using h), if_pos (by simpa using h')]
theorem ceB_neg (a b : List UInt8) : ceB b a = -ceB a b := by
  unfold ceB
  by_cases h : a = b
  · subst h; simp
  · have h1 : (a == b) = false := by simpa using h
    have h2 : (b == a) = false := by rw [beq_eq_false_iff_ne]; exact fun e => h e.symm
    rw [h1, h2]
    cases ha : (a == []) <;> cases hb : (b == [])
    · exact rowsB_neg _ _
    · rfl
    · rfl
    · exact absurd ((by simpa using ha : a = []).trans (by simpa using hb : b = []).symm) h
theorem orderB_neg (v w : Ver) : orderB w v = -orderB v w := by
  unfold orderB
  rw [← firstNe_neg]
  simp only [List.map_cons, List.map_nil, cmpInt_neg v.a w.a, cmpInt_neg v.b w.b, cmpInt_neg v.c w.c, ceB_neg v.e w.e]
/-- Where a span's own form is right. -/
theorem check_z : Ver.z.check = 0 := by decide
theorem form_f {s : Sp} (h : ((!(s.f.eqb Ver.z) && !s.hf) || (!(s.t.eqb Ver.z) && !s.ht)) = false) : (s.hf = false → s.f = Ver.z) ∧ (s.ht = false → s.t = Ver.z) := by
  rw [Bool.or_eq_false_iff] at h
  constructor
  · intro hf
    have := h.1
    rw [hf] at this
    simp at this
    exact Ver.eqb_iff.1 this
  · intro ht
    have := h.2
    rw [ht] at this
    simp at this
    exact Ver.eqb_iff.1 this
/-- The reference's errors of a span, in its order, are the program's. -/
def formR (s : Sp) : Bool := (!s.hf && !(s.f.eqb Ver.z)) || (!s.ht && !(s.t.eqb Ver.z))
theorem formR_eq (s : Sp) : formR s = ((!(s.f.eqb Ver.z) && !s.hf) || (!(s.t.eqb Ver.z) && !s.ht)) := by
  unfold formR; rw [Bool.and_comm, Bool.and_comm (!s.ht)]
theorem spanR_form {s : Sp} (h : formR s = true) : spanE s = 2 := spE_form (by rw [← formR_eq]; exact h)
theorem spanR_ver {s : Sp} (h : formR s = false) (h2 : (firstB s.f.check s.t.check != 0) = true) : spanE s = firstB s.f.check s.t.check := by
  rw [formR_eq] at h
  obtain ⟨hf, ht⟩ := form_f h
  unfold firstB at h2 ⊢
  by_cases hc : s.f.check = 0
  · simp only [hc, bne_self_eq_false, Bool.false_eq_true, if_false] at h2 ⊢
    have h3 : s.ht = true := by
      cases hh : s.ht with
      | true => rfl
      | false => rw [ht hh, check_z] at h2; cases h2
    exact spE_t h (by simp [hc]) (by rw [h3]; simpa using h2)
  · rw [if_pos (by simpa using hc)]
    have h3 : s.hf = true := by
      cases hh : s.hf with
      | true => rfl
      | false => rw [hf hh] at hc; exact absurd check_z hc
    exact spE_f h (by rw [h3]; simpa using hc)
theorem checks_0 {s : Sp} (h2 : (firstB s.f.check s.t.check != 0) = false) : s.f.check = 0 ∧ s.t.check = 0 := by
  unfold firstB at h2
  by_cases hc : s.f.check = 0
  · exact ⟨hc, by simpa [hc] using h2⟩
  · simp [hc] at h2
theorem spanR_order {s : Sp} (h : formR s = false) (h2 : (firstB s.f.check s.t.check != 0) = false) (h3 : ((s.hf && s.ht) && decide (compareR s.f s.t ≥ 0)) = true) : spanE s = 7 := by
  rw [formR_eq] at h
  obtain ⟨c1, c2⟩ := checks_0 h2
  rw [compare_eq c1 c2] at h3
  exact spE_o h (by simp [c1]) (by simp [c2]) h3
theorem spanR_ok {s : Sp} (h : formR s = false) (h2 : (firstB s.f.check s.t.check != 0) = false) (h3 : ((s.hf && s.ht) && decide (compareR s.f s.t ≥ 0)) = false) : spanE s = 0 := by
  rw [formR_eq] at h
  obtain ⟨c1, c2⟩ := checks_0 h2
  rw [compare_eq c1 c2] at h3
  exact spE_ok h (by simp [c1]) (by simp [c2]) h3
/-- A span without fault has right versions. -/
theorem span_checks {s : Sp} (h : spanE s = 0) : s.f.check = 0 ∧ s.t.check = 0 := by
  have hform : ((!(s.f.eqb Ver.z) && !s.hf) || (!(s.t.eqb Ver.z) && !s.ht)) = false := by
    cases hh : ((!(s.f.eqb Ver.z) && !s.hf) || (!(s.t.eqb Ver.z) && !s.ht)) with
    | false => rfl
    | true => rw [spE_form hh] at h; cases h
  obtain ⟨hf, ht⟩ := form_f hform
  have h1 : s.f.check = 0 := by
    apply Decidable.byContradiction; intro hc
    have hh : s.hf = true := by
      cases hh : s.hf with
      | true => rfl
      | false => rw [hf hh] at hc; exact absurd check_z hc
    rw [spE_f hform (by rw [hh]; simpa using hc)] at h
    exact hc h
  refine ⟨h1, ?_⟩
  apply Decidable.byContradiction; intro hc
  have hh : s.ht = true := by
    cases hh : s.ht with
    | true => rfl
    | false => rw [ht hh] at hc; exact absurd check_z hc
  rw [spE_t hform (by simp [h1]) (by rw [hh]; simpa using hc)] at h
  exact hc h
theorem prev_ok {ss : List Sp} {i : Nat} (hi : i < ss.length) (h0 : 0 < i) (ht : (((List.range ss.length).map (spAt ss)).take i).all (· == 0) = true) : spanE (ss.getD (i - 1) Sp.z) = 0 := by
  have h1 : spAt ss (i - 1) = 0 := by
    have h2 := List.all_eq_true.1 ht (spAt ss (i - 1)) (by
      rw [List.mem_iff_getElem?]
      refine ⟨i - 1, ?_⟩
      rw [List.getElem?_take, if_pos (by omega)]
      have : i - 1 < ss.length := by omega
      simp [this])
    simpa using h2
  apply Decidable.byContradiction; intro hne
  rw [spAt_own (by simpa using hne)] at h1
  exact hne h1
theorem behindR {p s : Sp} (hp : p.t.check = 0) (hs : s.f.check = 0) : decide (compareR p.t s.f ≥ 0) = decide (orderB s.f p.t ≤ 0) := by
  rw [compare_eq hp hs, orderB_neg s.f p.t]
  simp only [decide_eq_decide]; omega

theorem spAt_form {ss : List Sp} {i : Nat} (h : formR (ss.getD i Sp.z) = true) : spAt ss i = 2 := (spAt_own (by rw [spanR_form h]; rfl)).trans (spanR_form h)
theorem spAt_ver {ss : List Sp} {i : Nat} (h : formR (ss.getD i Sp.z) = false) (h2 : (firstB (ss.getD i Sp.z).f.check (ss.getD i Sp.z).t.check != 0) = true) : spAt ss i = firstB (ss.getD i Sp.z).f.check (ss.getD i Sp.z).t.check :=
  (spAt_own (by rw [spanR_ver h h2]; exact h2)).trans (spanR_ver h h2)
theorem spAt_ord {ss : List Sp} {i : Nat} (h : formR (ss.getD i Sp.z) = false) (h2 : (firstB (ss.getD i Sp.z).f.check (ss.getD i Sp.z).t.check != 0) = false)
    (h3 : (((ss.getD i Sp.z).hf && (ss.getD i Sp.z).ht) && decide (compareR (ss.getD i Sp.z).f (ss.getD i Sp.z).t ≥ 0)) = true) : spAt ss i = 7 := (spAt_own (by rw [spanR_order h h2 h3]; rfl)).trans (spanR_order h h2 h3)
section
variable {ss : List Sp} {i : Nat} (hi : i < ss.length) (ht : (((List.range ss.length).map (spAt ss)).take i).all (· == 0) = true) (h : formR (ss.getD i Sp.z) = false) (h2 : (firstB (ss.getD i Sp.z).f.check (ss.getD i Sp.z).t.check != 0) = false)
  (h3 : (((ss.getD i Sp.z).hf && (ss.getD i Sp.z).ht) && decide (compareR (ss.getD i Sp.z).f (ss.getD i Sp.z).t ≥ 0)) = false)
include hi ht h h2 h3
theorem spAt_r7 (h6 : (decide ((i : Int) > 0) && ((!(ss.getD (i - 1) Sp.z).ht || !(ss.getD i Sp.z).hf) || decide (compareR (ss.getD (i - 1) Sp.z).t (ss.getD i Sp.z).f ≥ 0))) = true) : spAt ss i = 7 := by
  rw [Bool.and_eq_true] at h6
  have h0 : 0 < i := by have := of_decide_eq_true h6.1; omega
  have hp := (span_checks (prev_ok hi h0 ht)).2
  rw [behindR hp (checks_0 h2).1] at h6
  exact spAt_bad (by rw [spanR_ok h h2 h3]; rfl) (by simp; omega) h6.2
theorem spAt_r0 (h6 : (decide ((i : Int) > 0) && ((!(ss.getD (i - 1) Sp.z).ht || !(ss.getD i Sp.z).hf) || decide (compareR (ss.getD (i - 1) Sp.z).t (ss.getD i Sp.z).f ≥ 0))) = false) : spAt ss i = 0 := by
  by_cases h0 : 0 < i
  · have hp := (span_checks (prev_ok hi h0 ht)).2
    rw [show decide ((i : Int) > 0) = true from decide_eq_true (by omega), Bool.true_and, behindR hp (checks_0 h2).1] at h6
    exact spAt_ok (by rw [spanR_ok h h2 h3]; rfl) (by simp; omega) h6
  · exact spAt_first (by rw [spanR_ok h h2 h3]; rfl) (by simp; omega)
end
end Go.Proofs.YtnphejkeflngcaaGreatDoor
