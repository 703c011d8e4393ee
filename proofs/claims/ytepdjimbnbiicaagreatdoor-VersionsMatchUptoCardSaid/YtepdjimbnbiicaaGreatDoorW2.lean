import Derived.Test.YtepdjimbnbiicaaGreatDoorW1
import Derived.Test.YtepdjimbnbiicaaGreatDoorL2
import Derived.Lib.ItoaLen
set_option linter.unusedVariables false
set_option linter.unusedSimpArgs false
set_option maxRecDepth 100000
namespace Go.Proofs.YtepdjimbnbiicaaGreatDoor
open Go
open Go.RowKit

theorem pc_ver_Check (v : Ver) (he : v.e.length < 4294967281) :
    PureCall Tryz.prog J 22 [verV v] (.one (.d (.int .i64 v.check))) := by
  refine PureCall.of_body tOk (fn := Tryz.f22) Tryz.func22 (by kernel_rfl) rfl (Nat.le_of_ble_eq_true rfl) (fun E => ?_)
  refine W.seq ?_
  refine W.region ?_
  refine S.box rfl rfl rfl rfl ?_
  refine S.pure tOk zOk rfl rfl rfl ?_
  refine thenK_n ?_
  refine W.seq ?_
  refine W.seq ?_
  refine W.region ?_
  refine S.pure tOk zOk rfl rfl rfl ?_
  refine S.pure tOk zOk rfl rfl rfl ?_
  refine S.pure tOk zOk rfl rfl rfl ?_
  refine S.pure tOk zOk rfl rfl rfl ?_
  refine S.pure tOk zOk rfl rfl rfl ?_
  refine S.pure tOk zOk rfl rfl rfl ?_
  refine S.pure tOk zOk rfl rfl rfl ?_
  refine S.pure tOk zOk rfl rfl rfl ?_
  refine thenK_n ?_
  refine W.block ?_
  refine W.rounds 4 ?_
  refine WR.succ ?_
  refine W.seq ?_
  refine W.region ?_
  refine S.pure tOk zOk rfl rfl rfl ?_
  refine thenK_n ?_
  refine W.seq ?_
  refine W.condT rfl rfl ?_
  refine W.skip ?_
  refine thenK_n ?_
  refine W.seq ?_
  refine W.block ?_
  refine W.seq ?_
  refine W.region ?_
  refine S.pure tOk zOk rfl (by first | rfl | exact idx_ok (by omega) (by omega)) rfl ?_
  refine S.pure tOk zOk rfl rfl rfl ?_
  refine thenK_n ?_
  refine W.seq ?_
  refine W.region ?_
  refine S.pure tOk zOk rfl rfl rfl ?_
  refine S.call rfl rfl rfl rfl rfl (pc_ver_outside _ _ _) ?_
  refine thenK_n ?_
  refine W.cond rfl (fun c2 => ?_) (fun c2 => ?_)
  · skip
    refine W.seq ?_
    refine W.region ?_
    refine S.pure tOk zOk rfl rfl rfl ?_
    refine thenK_n ?_
    refine W.ret ?_
    refine blockK_r ?_
    refine thenK_r ?_
    refine thenK_r ?_
    refine blockK_r ?_
    refine thenK_r ?_
    exact ⟨_, rfl, rfl, LeV.of_force rfl (by simp_all [Ver.check, checkB, outsideN])⟩
  · skip
    refine W.skip ?_
    refine blockK_n ?_
    refine thenK_n ?_
    refine W.region ?_
    refine S.pure tOk zOk rfl rfl rfl ?_
    refine S.pure tOk zOk rfl rfl rfl ?_
    refine thenK_n ?_
    refine WR.succ ?_
    refine W.seq ?_
    refine W.region ?_
    refine S.pure tOk zOk rfl rfl rfl ?_
    refine thenK_n ?_
    refine W.seq ?_
    refine W.condT rfl rfl ?_
    refine W.skip ?_
    refine thenK_n ?_
    refine W.seq ?_
    refine W.block ?_
    refine W.seq ?_
    refine W.region ?_
    refine S.pure tOk zOk rfl (by first | rfl | exact idx_ok (by omega) (by omega)) rfl ?_
    refine S.pure tOk zOk rfl rfl rfl ?_
    refine thenK_n ?_
    refine W.seq ?_
    refine W.region ?_
    refine S.pure tOk zOk rfl rfl rfl ?_
    refine S.call rfl rfl rfl rfl rfl (pc_ver_outside _ _ _) ?_
    refine thenK_n ?_
    refine W.cond rfl (fun c4 => ?_) (fun c4 => ?_)
    · skip
      refine W.seq ?_
      refine W.region ?_
      refine S.pure tOk zOk rfl rfl rfl ?_
      refine thenK_n ?_
      refine W.ret ?_
      refine blockK_r ?_
      refine thenK_r ?_
      refine thenK_r ?_
      refine blockK_r ?_
      refine thenK_r ?_
      exact ⟨_, rfl, rfl, LeV.of_force rfl (by simp_all [Ver.check, checkB, outsideN])⟩
    · skip
      refine W.skip ?_
      refine blockK_n ?_
      refine thenK_n ?_
      refine W.region ?_
      refine S.pure tOk zOk rfl rfl rfl ?_
      refine S.pure tOk zOk rfl rfl rfl ?_
      refine thenK_n ?_
      refine WR.succ ?_
      refine W.seq ?_
      refine W.region ?_
      refine S.pure tOk zOk rfl rfl rfl ?_
      refine thenK_n ?_
      refine W.seq ?_
      refine W.condT rfl rfl ?_
      refine W.skip ?_
      refine thenK_n ?_
      refine W.seq ?_
      refine W.block ?_
      refine W.seq ?_
      refine W.region ?_
      refine S.pure tOk zOk rfl (by first | rfl | exact idx_ok (by omega) (by omega)) rfl ?_
      refine S.pure tOk zOk rfl rfl rfl ?_
      refine thenK_n ?_
      refine W.seq ?_
      refine W.region ?_
      refine S.pure tOk zOk rfl rfl rfl ?_
      refine S.call rfl rfl rfl rfl rfl (pc_ver_outside _ _ _) ?_
      refine thenK_n ?_
      refine W.cond rfl (fun c6 => ?_) (fun c6 => ?_)
      · skip
        refine W.seq ?_
        refine W.region ?_
        refine S.pure tOk zOk rfl rfl rfl ?_
        refine thenK_n ?_
        refine W.ret ?_
        refine blockK_r ?_
        refine thenK_r ?_
        refine thenK_r ?_
        refine blockK_r ?_
        refine thenK_r ?_
        exact ⟨_, rfl, rfl, LeV.of_force rfl (by simp_all [Ver.check, checkB, outsideN])⟩
      · skip
        refine W.skip ?_
        refine blockK_n ?_
        refine thenK_n ?_
        refine W.region ?_
        refine S.pure tOk zOk rfl rfl rfl ?_
        refine S.pure tOk zOk rfl rfl rfl ?_
        refine thenK_n ?_
        refine WR.succ ?_
        refine W.seq ?_
        refine W.region ?_
        refine S.pure tOk zOk rfl rfl rfl ?_
        refine thenK_n ?_
        refine W.seq ?_
        refine W.condF rfl rfl ?_
        refine W.exit ?_
        refine thenK_e ?_
        refine thenK_e ?_
        refine blockK_x ?_
        refine thenK_n ?_
        refine W.seq ?_
        refine W.seq ?_
        refine W.region ?_
        refine S.pure tOk zOk rfl rfl rfl ?_
        refine S.pure tOk zOk rfl rfl rfl ?_
        refine S.pure tOk zOk rfl rfl rfl ?_
        refine S.pure tOk zOk rfl rfl rfl ?_
        refine S.pureG tOk zOk rfl rfl (by repeat first | exact allT_nil | refine allT_cons (fun h => h) ?_ | refine allT_cons (fun h => andl h) ?_ | refine allT_cons (fun h => andl (andl h)) ?_ | refine allT_cons (fun _ => rfl) ?_) (fun _ => rfl) rfl ?_
        refine S.pureG tOk zOk rfl rfl (by repeat first | exact allT_nil | refine allT_cons (fun h => h) ?_ | refine allT_cons (fun h => andl h) ?_ | refine allT_cons (fun h => andl (andl h)) ?_ | refine allT_cons (fun _ => rfl) ?_) (fun _ => rfl) rfl ?_
        refine S.callG rfl rfl rfl rfl (by repeat first | exact allT_nil | refine allT_cons (fun h => h) ?_ | refine allT_cons (fun h => andl h) ?_ | refine allT_cons (fun h => andl (andl h)) ?_ | refine allT_cons (fun _ => rfl) ?_) rfl rfl (fun _ => pc_ver_isEarly _ (by omega)) ?_
        refine S.pureG tOk zOk rfl rfl (by repeat first | exact allT_nil | refine allT_cons (fun h => h) ?_ | refine allT_cons (fun h => andl h) ?_ | refine allT_cons (fun h => andl (andl h)) ?_ | refine allT_cons (fun _ => rfl) ?_) (fun _ => rfl) rfl ?_
        refine S.pickAnd tOk zOk rfl rfl (by repeat first | exact allT_nil | refine allT_cons (fun h => h) ?_ | refine allT_cons (fun h => andl h) ?_ | refine allT_cons (fun h => andl (andl h)) ?_ | refine allT_cons (fun _ => rfl) ?_) ?_
        refine thenK_n ?_
        refine W.cond rfl (fun c8 => ?_) (fun c8 => ?_)
        · skip
          refine W.seq ?_
          refine W.region ?_
          refine S.pure tOk zOk rfl rfl rfl ?_
          refine thenK_n ?_
          refine W.ret ?_
          refine thenK_r ?_
          exact ⟨_, rfl, rfl, LeV.of_force rfl (by simp_all [Ver.check, checkB, outsideN])⟩
        · skip
          refine W.skip ?_
          refine thenK_n ?_
          refine W.seq ?_
          refine W.region ?_
          refine S.pure tOk zOk rfl rfl rfl ?_
          refine thenK_n ?_
          refine W.ret ?_
          exact ⟨_, rfl, rfl, LeV.of_force rfl (by simp_all [Ver.check, checkB, outsideN])⟩

theorem pc_ver_text (v : Ver) (he : v.e.length < 4294967281) (ho : VerOk v) :
    PureCall Tryz.prog J 55 [verV v] (.one (.d (.str (textB v.a v.b v.c v.e)))) := by
  have h1 := Lib.itoa_length_le v.a ho.1 ho.2.1
  have h2 := Lib.itoa_length_le v.b ho.2.2.1 ho.2.2.2.1
  have h3 := Lib.itoa_length_le v.c ho.2.2.2.2.1 ho.2.2.2.2.2
  refine PureCall.of_body tOk (fn := Tryz.f55) Tryz.func55 (by kernel_rfl) rfl (Nat.le_of_ble_eq_true rfl) (fun E => ?_)
  refine W.seq ?_
  refine W.region ?_
  refine S.box rfl rfl rfl rfl ?_
  refine S.pure tOk zOk rfl rfl rfl ?_
  refine thenK_n ?_
  refine W.seq ?_
  refine W.regionD mixed (by kernel_rfl) ?_
  refine D.pure tOk zOk rfl rfl rfl rfl ?_
  refine D.pure tOk zOk rfl rfl rfl rfl ?_
  refine D.call rfl rfl rfl rfl rfl (pc_Itoa _ ho.1 ho.2.1) ?_
  refine D.pure tOk zOk rfl rfl (cat_ok (by simp; omega)) rfl ?_
  refine D.pure tOk zOk rfl rfl rfl rfl ?_
  refine D.pure tOk zOk rfl rfl rfl rfl ?_
  refine D.call rfl rfl rfl rfl rfl (pc_Itoa _ ho.2.2.1 ho.2.2.2.1) ?_
  refine D.pure tOk zOk rfl rfl (cat_ok (by simp; omega)) rfl ?_
  refine D.pure tOk zOk rfl rfl (cat_ok (by simp; omega)) rfl ?_
  refine D.pure tOk zOk rfl rfl rfl rfl ?_
  refine D.pure tOk zOk rfl rfl rfl rfl ?_
  refine D.call rfl rfl rfl rfl rfl (pc_Itoa _ ho.2.2.2.2.1 ho.2.2.2.2.2) ?_
  refine D.pure tOk zOk rfl rfl (cat_ok (by simp; omega)) rfl ?_
  refine D.pure tOk zOk rfl rfl rfl rfl ?_
  refine thenK_n ?_
  refine W.seq ?_
  refine W.seq ?_
  refine W.region ?_
  refine S.pure tOk zOk rfl rfl rfl ?_
  refine S.pure tOk zOk rfl rfl rfl ?_
  refine S.pure tOk zOk rfl rfl rfl ?_
  refine thenK_n ?_
  refine W.cond rfl (fun c1 => ?_) (fun c1 => ?_)
  · skip
    refine W.region ?_
    refine S.pure tOk zOk rfl rfl rfl ?_
    refine S.pure tOk zOk rfl rfl rfl ?_
    refine S.pure tOk zOk rfl rfl rfl ?_
    refine S.pure tOk zOk rfl (cat_ok (by simp; omega)) rfl ?_
    refine S.pure tOk zOk rfl (cat_ok (by simp; omega)) rfl ?_
    refine S.pure tOk zOk rfl rfl rfl ?_
    refine thenK_n ?_
    refine W.seq ?_
    refine W.region ?_
    refine S.pure tOk zOk rfl rfl rfl ?_
    refine S.pure tOk zOk rfl rfl rfl ?_
    refine thenK_n ?_
    refine W.ret ?_
    exact ⟨_, rfl, rfl, LeV.of_force rfl (by simp_all [textB])⟩
  · skip
    refine W.skip ?_
    refine thenK_n ?_
    refine W.seq ?_
    refine W.region ?_
    refine S.pure tOk zOk rfl rfl rfl ?_
    refine S.pure tOk zOk rfl rfl rfl ?_
    refine thenK_n ?_
    refine W.ret ?_
    exact ⟨_, rfl, rfl, LeV.of_force rfl (by simp_all [textB])⟩

theorem pc_ver_Print (v : Ver) (he : v.e.length < 4294967281) (ho : VerOk v) :
    PureCall Tryz.prog J 17 [verV v] (.tup [.one (.d (.str (printB v).1)), .one (.d (.int .i64 (printB v).2))]) := by
  refine PureCall.of_body tOk (fn := Tryz.f17) Tryz.func17 (by kernel_rfl) rfl (Nat.le_of_ble_eq_true rfl) (fun E => ?_)
  refine W.seq ?_
  refine W.region ?_
  refine S.box rfl rfl rfl rfl ?_
  refine S.pure tOk zOk rfl rfl rfl ?_
  refine S.pure tOk zOk rfl rfl rfl ?_
  refine thenK_n ?_
  refine W.seq ?_
  refine W.seq ?_
  refine W.region ?_
  refine S.pure tOk zOk rfl rfl rfl ?_
  refine S.call rfl rfl rfl rfl rfl (pc_ver_Check _ he) ?_
  refine S.pure tOk zOk rfl rfl rfl ?_
  refine thenK_n ?_
  refine W.seq ?_
  refine W.region ?_
  refine S.pure tOk zOk rfl rfl rfl ?_
  refine S.pure tOk zOk rfl rfl rfl ?_
  refine thenK_n ?_
  refine W.cond rfl (fun c1 => ?_) (fun c1 => ?_)
  · skip
    refine W.seq ?_
    refine W.region ?_
    refine S.pure tOk zOk rfl rfl rfl ?_
    refine S.pure tOk zOk rfl rfl rfl ?_
    refine S.pure tOk zOk rfl rfl rfl ?_
    refine thenK_n ?_
    refine W.ret ?_
    refine thenK_r ?_
    exact ⟨_, rfl, rfl, LeV.of_force rfl (by simp_all [printB])⟩
  · skip
    refine W.skip ?_
    refine thenK_n ?_
    refine W.seq ?_
    refine W.region ?_
    refine S.pure tOk zOk rfl rfl rfl ?_
    refine S.call rfl rfl rfl rfl rfl (pc_ver_text _ he ho) ?_
    refine S.pure tOk zOk rfl rfl rfl ?_
    refine S.pure tOk zOk rfl rfl rfl ?_
    refine thenK_n ?_
    refine W.ret ?_
    exact ⟨_, rfl, rfl, LeV.of_force rfl (by simp_all [printB])⟩

theorem pc_ver_number (s : List UInt8) (hs : s.length < 4294967281) :
    PureCall Tryz.prog J 71 [.one (.d (.str s))] (.tup [.one (.d (.int .i64 (numB s).1)), .one (.d (.bool (numB s).2))]) := by
  refine PureCall.of_body tOk (fn := Tryz.f71) Tryz.func71 (by kernel_rfl) rfl (Nat.le_of_ble_eq_true rfl) (fun E => ?_)
  refine W.seq ?_
  refine W.region ?_
  refine S.pure tOk zOk rfl rfl rfl ?_
  refine S.pure tOk zOk rfl rfl rfl ?_
  refine thenK_n ?_
  refine W.seq ?_
  refine W.seq ?_
  refine W.region ?_
  refine S.pure tOk zOk rfl rfl rfl ?_
  refine S.call rfl rfl rfl rfl rfl (pc_ver_each _ _ _ _ (by omega) (fun c => pc_ver_isDigit c)) ?_
  refine S.pure tOk zOk rfl rfl rfl ?_
  refine S.pure tOk zOk rfl rfl rfl ?_
  refine S.pureG tOk zOk rfl rfl (by repeat first | exact allT_nil | refine allT_cons (fun h => h) ?_ | refine allT_cons (fun h => andl h) ?_ | refine allT_cons (fun h => andl (andl h)) ?_ | refine allT_cons (fun _ => rfl) ?_) (fun _ => rfl) rfl ?_
  refine S.pureG tOk zOk rfl rfl (by repeat first | exact allT_nil | refine allT_cons (fun h => h) ?_ | refine allT_cons (fun h => andl h) ?_ | refine allT_cons (fun h => andl (andl h)) ?_ | refine allT_cons (fun _ => rfl) ?_) (fun h => idx_ok (Int.le_refl _) (eachB_pos (by simpa using h))) rfl ?_
  refine S.pureG tOk zOk rfl rfl (by repeat first | exact allT_nil | refine allT_cons (fun h => h) ?_ | refine allT_cons (fun h => andl h) ?_ | refine allT_cons (fun h => andl (andl h)) ?_ | refine allT_cons (fun _ => rfl) ?_) (fun _ => rfl) rfl ?_
  refine S.pureG tOk zOk rfl rfl (by repeat first | exact allT_nil | refine allT_cons (fun h => h) ?_ | refine allT_cons (fun h => andl h) ?_ | refine allT_cons (fun h => andl (andl h)) ?_ | refine allT_cons (fun _ => rfl) ?_) (fun _ => rfl) rfl ?_
  refine S.pureG tOk zOk rfl rfl (by repeat first | exact allT_nil | refine allT_cons (fun h => h) ?_ | refine allT_cons (fun h => andl h) ?_ | refine allT_cons (fun h => andl (andl h)) ?_ | refine allT_cons (fun _ => rfl) ?_) (fun _ => rfl) rfl ?_
  refine S.pureG tOk zOk rfl rfl (by repeat first | exact allT_nil | refine allT_cons (fun h => h) ?_ | refine allT_cons (fun h => andl h) ?_ | refine allT_cons (fun h => andl (andl h)) ?_ | refine allT_cons (fun _ => rfl) ?_) (fun _ => rfl) rfl ?_
  refine S.pickAndG tOk zOk rfl rfl rfl (by repeat first | exact allT_nil | refine allT_cons (fun h => h) ?_ | refine allT_cons (fun h => andl h) ?_ | refine allT_cons (fun h => andl (andl h)) ?_ | refine allT_cons (fun _ => rfl) ?_) (by repeat first | exact allT_nil | refine allT_cons (fun h => h) ?_ | refine allT_cons (fun h => andl h) ?_ | refine allT_cons (fun h => andl (andl h)) ?_ | refine allT_cons (fun _ => rfl) ?_) ?_
  refine S.pickOr tOk zOk rfl rfl (by repeat first | exact allT_nil | refine allT_cons (fun h => h) ?_ | refine allT_cons (fun h => andl h) ?_ | refine allT_cons (fun h => andl (andl h)) ?_ | refine allT_cons (fun _ => rfl) ?_) ?_
  refine thenK_n ?_
  refine W.cond rfl (fun c1 => ?_) (fun c1 => ?_)
  · skip
    refine W.seq ?_
    refine W.region ?_
    refine S.pure tOk zOk rfl rfl rfl ?_
    refine S.pure tOk zOk rfl rfl rfl ?_
    refine thenK_n ?_
    refine W.ret ?_
    refine thenK_r ?_
    exact ⟨_, rfl, rfl, LeV.of_force rfl (by rw [show numB s = (0, false) from if_pos c1]; rfl)⟩
  · skip
    refine W.skip ?_
    refine thenK_n ?_
    refine W.seq ?_
    refine W.region ?_
    refine S.pure tOk zOk rfl rfl rfl ?_
    refine S.call rfl rfl rfl rfl rfl (pc_Atoi _ (by omega)) ?_
    refine S.pure tOk zOk rfl rfl rfl ?_
    refine S.pure tOk zOk rfl rfl rfl ?_
    refine S.pure tOk zOk rfl rfl rfl ?_
    refine S.pure tOk zOk rfl rfl rfl ?_
    refine S.pure tOk zOk rfl rfl rfl ?_
    refine thenK_n ?_
    refine W.seq ?_
    refine W.regionD mixed (by kernel_rfl) ?_
    refine D.pure tOk zOk rfl rfl rfl rfl ?_
    refine D.pure tOk zOk rfl rfl rfl rfl ?_
    refine D.pure tOk zOk rfl rfl rfl rfl ?_
    refine D.pure tOk zOk rfl rfl rfl rfl ?_
    refine D.pure tOk zOk rfl rfl rfl rfl ?_
    refine thenK_n ?_
    refine W.ret ?_
    exact ⟨_, rfl, rfl, LeV.of_force rfl (by rw [show numB s = (atoiV s, atoiOk s) from if_neg (Bool.eq_false_iff.1 c1)])⟩

theorem pc_cmp_Or_int_ (xs : List Int) (hl : xs.length ≤ 1000000) :
    PureCall Tryz.prog J 67 [.one (.d (.vec 1 (xs.map fun x => [.int .i64 x])))] (.one (.d (.int .i64 (firstNe xs)))) := by
  refine PureCall.of_body tOk (fn := Tryz.f67) Tryz.func67 (by kernel_rfl) rfl (Nat.le_of_ble_eq_true rfl) (fun E => ?_)
  refine W.seq ?_
  refine W.region ?_
  refine S.pure tOk zOk rfl rfl rfl ?_
  refine thenK_n ?_
  refine W.seq ?_
  refine W.region ?_
  refine S.pure tOk zOk rfl rfl rfl ?_
  refine thenK_n ?_
  refine W.seq ?_
  refine W.seq ?_
  refine W.region ?_
  refine S.pure tOk zOk rfl rfl rfl ?_
  refine S.pure tOk zOk rfl rfl rfl ?_
  refine S.pure tOk zOk rfl rfl rfl ?_
  refine thenK_n ?_
  refine W.block ?_
  refine W.loop (fun k st => ∃ i : Nat, i ≤ xs.length ∧ (xs.take i).all (· == 0) = true ∧ k = xs.length - i ∧ ∃ t b2, st = ⟨t, [] ++ b2, [], []⟩ ∧ holdsL t [(3, .one (.d (.int .i64 0))), (6, .one (.d (.vec 1 (xs.map fun x => [.int .i64 x])))), (7, .one (.d (.int .i64 ((xs.map fun x => ([.int .i64 x] : List D)).length : Int)))), (8, .one (.d (.int .i64 (i : Int))))]) (xs.length) ⟨0, Nat.zero_le _, by simp, rfl, _, _, rfl, rfl, rfl, rfl, rfl, trivial⟩ ?_
  rintro k0 _ ⟨i, f0_0, f0_1, rfl, t0, bb0, rfl, hh0⟩
  refine W.keepD _ _ _ hh0 rfl ?_
  refine W.seq ?_
  refine W.region ?_
  refine S.pure tOk zOk rfl rfl rfl ?_
  refine thenK_n ?_
  refine W.seq ?_
  refine W.cond rfl (fun c1 => ?_) (fun c1 => ?_)
  · skip
    have hi := row_lt c1
    refine W.skip ?_
    refine thenK_n ?_
    refine W.seq ?_
    refine W.block ?_
    refine W.seq ?_
    refine W.region ?_
    refine S.pureE tOk zOk rfl (row_ok hi) (row_at 0 hi) rfl ?_
    refine S.pure tOk zOk rfl rfl rfl ?_
    refine S.pure tOk zOk rfl rfl rfl ?_
    refine thenK_n ?_
    refine W.seq ?_
    refine W.region ?_
    refine S.pure tOk zOk rfl rfl rfl ?_
    refine S.pure tOk zOk rfl rfl rfl ?_
    refine S.pure tOk zOk rfl rfl rfl ?_
    refine thenK_n ?_
    refine W.cond rfl (fun c2 => ?_) (fun c2 => ?_)
    · skip
      refine W.seq ?_
      refine W.region ?_
      refine S.pure tOk zOk rfl rfl rfl ?_
      refine S.pure tOk zOk rfl rfl rfl ?_
      refine thenK_n ?_
      refine W.ret ?_
      refine blockK_r ?_
      refine thenK_r ?_
      refine thenK_r ?_
      refine blockK_r ?_
      refine thenK_r ?_
      exact ⟨_, rfl, rfl, LeV.of_force rfl (by rw [firstNe_hit hi f0_1 (by simpa using c2)])⟩
    · skip
      refine W.skip ?_
      refine blockK_n ?_
      refine thenK_n ?_
      refine W.region ?_
      refine S.pure tOk zOk rfl rfl rfl ?_
      refine S.pure tOk zOk rfl rfl rfl ?_
      refine loop_n (xs.length - (i + 1)) (by omega) ⟨i + 1, hi, all_take_succ (d := 0) hi f0_1 (by simpa using c2), rfl, _, _, rfl, rfl, rfl, rfl, inc_i64 (by omega), trivial⟩
  · skip
    have hi := row_ge c1
    refine W.exit ?_
    refine thenK_e ?_
    refine thenK_e ?_
    refine blockK_x ?_
    refine thenK_n ?_
    refine W.seq ?_
    refine W.region ?_
    refine S.pure tOk zOk rfl rfl rfl ?_
    refine S.pure tOk zOk rfl rfl rfl ?_
    refine thenK_n ?_
    refine W.ret ?_
    exact ⟨_, rfl, rfl, LeV.of_force rfl (by rw [firstNe_none hi f0_1])⟩

theorem pc_ver_compareWords (a b : List UInt8) (ha : a.length < 4294967281) (hb : b.length < 4294967281) :
    PureCall Tryz.prog J 122 [.one (.d (.str a)), .one (.d (.str b))] (.one (.d (.int .i64 (cwB a b)))) := by
  refine PureCall.of_body tOk (fn := Tryz.f122) Tryz.func122 (by kernel_rfl) rfl (Nat.le_of_ble_eq_true rfl) (fun E => ?_)
  refine W.seq ?_
  refine W.region ?_
  refine S.pure tOk zOk rfl rfl rfl ?_
  refine thenK_n ?_
  refine W.seq ?_
  refine W.region ?_
  refine S.pure tOk zOk rfl rfl rfl ?_
  refine S.call rfl rfl rfl rfl rfl (pc_ver_isNumeral _ (by omega)) ?_
  refine S.pure tOk zOk rfl rfl rfl ?_
  refine S.call rfl rfl rfl rfl rfl (pc_ver_isNumeral _ (by omega)) ?_
  refine S.pure tOk zOk rfl rfl rfl ?_
  refine S.pure tOk zOk rfl rfl rfl ?_
  refine thenK_n ?_
  refine W.seq ?_
  refine W.block ?_
  refine W.seq ?_
  refine W.region ?_
  refine S.pure tOk zOk rfl rfl rfl ?_
  refine S.pure tOk zOk rfl rfl rfl ?_
  refine S.pureG tOk zOk rfl rfl (by repeat first | exact allT_nil | refine allT_cons (fun h => h) ?_ | refine allT_cons (fun h => andl h) ?_ | refine allT_cons (fun h => andl (andl h)) ?_ | refine allT_cons (fun _ => rfl) ?_) (fun _ => rfl) rfl ?_
  refine S.pickAnd tOk zOk rfl rfl (by repeat first | exact allT_nil | refine allT_cons (fun h => h) ?_ | refine allT_cons (fun h => andl h) ?_ | refine allT_cons (fun h => andl (andl h)) ?_ | refine allT_cons (fun _ => rfl) ?_) ?_
  refine S.pure tOk zOk rfl rfl rfl ?_
  refine thenK_n ?_
  refine W.cond rfl (fun c1 => ?_) (fun c1 => ?_)
  · skip
    refine W.seq ?_
    refine W.region ?_
    refine S.pure tOk zOk rfl rfl rfl ?_
    refine S.pure tOk zOk rfl rfl rfl ?_
    refine S.pure tOk zOk rfl rfl rfl ?_
    refine S.pure tOk zOk rfl rfl rfl ?_
    refine S.pure tOk zOk rfl rfl rfl ?_
    refine thenK_n ?_
    refine W.cond rfl (fun c2 => ?_) (fun c2 => ?_)
    · skip
      refine W.seq ?_
      refine W.region ?_
      refine S.pure tOk zOk rfl rfl rfl ?_
      refine S.pure tOk zOk rfl rfl rfl ?_
      refine S.pure tOk zOk rfl rfl rfl ?_
      refine S.pure tOk zOk rfl rfl rfl ?_
      refine S.call rfl rfl rfl rfl rfl (pc_cmpInt _ _) ?_
      refine S.pure tOk zOk rfl rfl rfl ?_
      refine thenK_n ?_
      refine W.ret ?_
      refine blockK_r ?_
      refine thenK_r ?_
      exact ⟨_, rfl, rfl, LeV.of_force rfl (by simp_all [cwB])⟩
    · skip
      refine W.skip ?_
      refine blockK_n ?_
      refine thenK_n ?_
      refine W.seq ?_
      refine W.region ?_
      refine S.pure tOk zOk rfl rfl rfl ?_
      refine S.pure tOk zOk rfl rfl rfl ?_
      refine S.call rfl rfl rfl rfl rfl (pc_Compare _ _) ?_
      refine S.pure tOk zOk rfl rfl rfl ?_
      refine thenK_n ?_
      refine W.ret ?_
      exact ⟨_, rfl, rfl, LeV.of_force rfl (by simp_all [cwB])⟩
  · skip
    refine W.seq ?_
    refine W.region ?_
    refine S.pure tOk zOk rfl rfl rfl ?_
    refine S.pure tOk zOk rfl rfl rfl ?_
    refine thenK_n ?_
    refine W.cond rfl (fun c3 => ?_) (fun c3 => ?_)
    · skip
      refine W.seq ?_
      refine W.region ?_
      refine S.pure tOk zOk rfl rfl rfl ?_
      refine thenK_n ?_
      refine W.ret ?_
      refine blockK_r ?_
      refine thenK_r ?_
      exact ⟨_, rfl, rfl, LeV.of_force rfl (by simp_all [cwB])⟩
    · skip
      refine W.seq ?_
      refine W.region ?_
      refine S.pure tOk zOk rfl rfl rfl ?_
      refine S.pure tOk zOk rfl rfl rfl ?_
      refine thenK_n ?_
      refine W.cond rfl (fun c4 => ?_) (fun c4 => ?_)
      · skip
        refine W.seq ?_
        refine W.region ?_
        refine S.pure tOk zOk rfl rfl rfl ?_
        refine thenK_n ?_
        refine W.ret ?_
        refine blockK_r ?_
        refine thenK_r ?_
        exact ⟨_, rfl, rfl, LeV.of_force rfl (by simp_all [cwB])⟩
      · skip
        refine W.skip ?_
        refine blockK_n ?_
        refine thenK_n ?_
        refine W.seq ?_
        refine W.region ?_
        refine S.pure tOk zOk rfl rfl rfl ?_
        refine S.pure tOk zOk rfl rfl rfl ?_
        refine S.call rfl rfl rfl rfl rfl (pc_Compare _ _) ?_
        refine S.pure tOk zOk rfl rfl rfl ?_
        refine thenK_n ?_
        refine W.ret ?_
        exact ⟨_, rfl, rfl, LeV.of_force rfl (by simp_all [cwB])⟩

theorem pc_ver_compareEarly (a b : List UInt8) (ha : a.length < 4294967281) (hb : b.length < 4294967281) :
    PureCall Tryz.prog J 91 [.one (.d (.str a)), .one (.d (.str b))] (.one (.d (.int .i64 (ceB a b)))) := by
  have hl := split_le a [46]
  have hl2 := split_le b [46]
  refine PureCall.of_body tOk (fn := Tryz.f91) Tryz.func91 (by kernel_rfl) rfl (Nat.le_of_ble_eq_true rfl) (fun E => ?_)
  refine W.seq ?_
  refine W.region ?_
  refine S.pure tOk zOk rfl rfl rfl ?_
  refine thenK_n ?_
  refine W.seq ?_
  refine W.block ?_
  refine W.seq ?_
  refine W.region ?_
  refine S.pure tOk zOk rfl rfl rfl ?_
  refine S.pure tOk zOk rfl rfl rfl ?_
  refine S.pure tOk zOk rfl rfl rfl ?_
  refine S.pure tOk zOk rfl rfl rfl ?_
  refine thenK_n ?_
  refine W.cond rfl (fun c1 => ?_) (fun c1 => ?_)
  · skip
    refine W.seq ?_
    refine W.region ?_
    refine S.pure tOk zOk rfl rfl rfl ?_
    refine thenK_n ?_
    refine W.ret ?_
    refine blockK_r ?_
    refine thenK_r ?_
    exact ⟨_, rfl, rfl, LeV.of_force rfl (by simp_all [ceB])⟩
  · skip
    refine W.seq ?_
    refine W.region ?_
    refine S.pure tOk zOk rfl rfl rfl ?_
    refine S.pure tOk zOk rfl rfl rfl ?_
    refine S.pure tOk zOk rfl rfl rfl ?_
    refine thenK_n ?_
    refine W.cond rfl (fun c2 => ?_) (fun c2 => ?_)
    · skip
      refine W.seq ?_
      refine W.region ?_
      refine S.pure tOk zOk rfl rfl rfl ?_
      refine thenK_n ?_
      refine W.ret ?_
      refine blockK_r ?_
      refine thenK_r ?_
      exact ⟨_, rfl, rfl, LeV.of_force rfl (by simp_all [ceB])⟩
    · skip
      refine W.seq ?_
      refine W.region ?_
      refine S.pure tOk zOk rfl rfl rfl ?_
      refine S.pure tOk zOk rfl rfl rfl ?_
      refine S.pure tOk zOk rfl rfl rfl ?_
      refine thenK_n ?_
      refine W.cond rfl (fun c3 => ?_) (fun c3 => ?_)
      · skip
        refine W.seq ?_
        refine W.region ?_
        refine S.pure tOk zOk rfl rfl rfl ?_
        refine thenK_n ?_
        refine W.ret ?_
        refine blockK_r ?_
        refine thenK_r ?_
        exact ⟨_, rfl, rfl, LeV.of_force rfl (by simp_all [ceB])⟩
      · skip
        refine W.skip ?_
        refine blockK_n ?_
        refine thenK_n ?_
        refine W.seq ?_
        refine W.region ?_
        refine S.pure tOk zOk rfl rfl rfl ?_
        refine S.call rfl rfl rfl rfl rfl (pc_Split _ _ ha (by decide)) ?_
        refine S.pure tOk zOk rfl rfl rfl ?_
        refine S.call rfl rfl rfl rfl rfl (pc_Split _ _ hb (by decide)) ?_
        refine S.pure tOk zOk rfl rfl rfl ?_
        refine S.pure tOk zOk rfl rfl rfl ?_
        refine thenK_n ?_
        refine W.seq ?_
        refine W.seq ?_
        refine W.region ?_
        refine S.pure tOk zOk rfl rfl rfl ?_
        refine S.pure tOk zOk rfl rfl rfl ?_
        refine S.pure tOk zOk rfl rfl rfl ?_
        refine S.pure tOk zOk rfl rfl rfl ?_
        refine S.pure tOk zOk rfl rfl rfl ?_
        refine S.pure tOk zOk rfl rfl rfl ?_
        refine thenK_n ?_
        refine W.block ?_
        refine W.loop (fun k st => ∃ i : Nat, i ≤ (Lib.split a [46]).length ∧ ((List.zipWith cwB (Lib.split a [46]) (Lib.split b [46])).take i).all (· == 0) = true ∧ k = (Lib.split a [46]).length - i ∧ ∃ t b2, st = ⟨t, [] ++ b2, [], []⟩ ∧ holdsL t [(5, .one (.d (.vec 1 ((Lib.split a [46]).map fun x => [.str x])))), (6, .one (.d (.vec 1 ((Lib.split b [46]).map fun x => [.str x])))), (27, .one (.d (.int .i64 (if (((Lib.split b [46]).map fun x => [D.str x]).length : Int) < (((Lib.split a [46]).map fun x => [D.str x]).length : Int) then (((Lib.split b [46]).map fun x => [D.str x]).length : Int) else (((Lib.split a [46]).map fun x => [D.str x]).length : Int))))), (28, .one (.d (.int .i64 (i : Int))))]) ((Lib.split a [46]).length) ⟨0, Nat.zero_le _, by simp, rfl, _, _, rfl, rfl, rfl, rfl, rfl, trivial⟩ ?_
        rintro k1 _ ⟨i, f1_0, f1_1, rfl, t1, bb1, rfl, hh1⟩
        refine W.keepD _ _ _ hh1 rfl ?_
        refine W.seq ?_
        refine W.region ?_
        refine S.pure tOk zOk rfl rfl rfl ?_
        refine thenK_n ?_
        refine W.seq ?_
        refine W.cond rfl (fun c4 => ?_) (fun c4 => ?_)
        · skip
          have hi := min_lt (xs := Lib.split a [46]) (ys := Lib.split b [46]) (by simp) (by simp) c4
          refine W.skip ?_
          refine thenK_n ?_
          refine W.seq ?_
          refine W.block ?_
          refine W.seq ?_
          refine W.region ?_
          refine S.pure tOk zOk rfl rfl rfl ?_
          refine S.pure tOk zOk rfl rfl rfl ?_
          refine thenK_n ?_
          refine W.seq ?_
          refine W.regionD mixed (by kernel_rfl) ?_
          refine D.pure tOk zOk rfl rfl rfl rfl ?_
          refine D.pure tOk zOk rfl rfl rfl rfl ?_
          refine D.pureE tOk zOk rfl rfl (row_ok hi.1) (row_at [] hi.1) rfl ?_
          refine D.pure tOk zOk rfl rfl rfl rfl ?_
          refine D.pure tOk zOk rfl rfl rfl rfl ?_
          refine D.pure tOk zOk rfl rfl rfl rfl ?_
          refine D.pureE tOk zOk rfl rfl (row_ok hi.2) (row_at [] hi.2) rfl ?_
          refine D.pure tOk zOk rfl rfl rfl rfl ?_
          refine D.call rfl rfl rfl rfl rfl (pc_ver_compareWords _ _ (by have := @split_at a [46] i; omega) (by have := @split_at b [46] i; omega)) ?_
          refine D.pure tOk zOk rfl rfl rfl rfl ?_
          refine thenK_n ?_
          refine W.seq ?_
          refine W.region ?_
          refine S.pure tOk zOk rfl rfl rfl ?_
          refine S.pure tOk zOk rfl rfl rfl ?_
          refine thenK_n ?_
          refine W.cond rfl (fun c5 => ?_) (fun c5 => ?_)
          · skip
            refine W.seq ?_
            refine W.region ?_
            refine S.pure tOk zOk rfl rfl rfl ?_
            refine S.pure tOk zOk rfl rfl rfl ?_
            refine thenK_n ?_
            refine W.ret ?_
            refine blockK_r ?_
            refine thenK_r ?_
            refine thenK_r ?_
            refine blockK_r ?_
            refine thenK_r ?_
            exact ⟨_, rfl, rfl, LeV.of_force rfl (by
      have hz := zip_at (f := cwB) [] [] hi.1 hi.2
      have hc : cwB ((Lib.split a [46]).getD i []) ((Lib.split b [46]).getD i []) ≠ 0 := by simpa using c5
      have hh := firstNe_hit (by simp; omega) f1_1 (by rw [hz]; exact hc); rw [hz] at hh; rw [ceB, rowsB, hh]; simp_all)⟩
          · skip
            refine W.skip ?_
            refine blockK_n ?_
            refine thenK_n ?_
            refine W.region ?_
            refine S.pure tOk zOk rfl rfl rfl ?_
            refine S.pure tOk zOk rfl rfl rfl ?_
            refine loop_n ((Lib.split a [46]).length - (i + 1)) (by omega) ⟨i + 1, by omega, all_take_succ (d := 0) (by simp; omega) f1_1 (by rw [zip_at [] [] hi.1 hi.2]; simpa using c5), rfl, _, _, rfl, rfl, rfl, rfl, inc_i64 (by omega), trivial⟩
        · skip
          have hi := min_ge (xs := Lib.split a [46]) (ys := Lib.split b [46]) (by simp) (by simp) c4
          refine W.exit ?_
          refine thenK_e ?_
          refine thenK_e ?_
          refine blockK_x ?_
          refine thenK_n ?_
          refine W.seq ?_
          refine W.region ?_
          refine S.pure tOk zOk rfl rfl rfl ?_
          refine S.pure tOk zOk rfl rfl rfl ?_
          refine S.pure tOk zOk rfl rfl rfl ?_
          refine S.pure tOk zOk rfl rfl rfl ?_
          refine S.call rfl rfl rfl rfl rfl (pc_cmpInt _ _) ?_
          refine S.pure tOk zOk rfl rfl rfl ?_
          refine thenK_n ?_
          refine W.ret ?_
          exact ⟨_, rfl, rfl, LeV.of_force rfl (by have hh := firstNe_none (l := List.zipWith cwB (Lib.split a [46]) (Lib.split b [46])) (by simp; omega) f1_1; rw [ceB, rowsB, hh]; simp_all)⟩

theorem pc_ver_Order (v w : Ver) (hv : v.e.length < 4294967281) (hw : w.e.length < 4294967281) :
    PureCall Tryz.prog J 56 [verV v, verV w] (.one (.d (.int .i64 (orderB v w)))) := by
  refine PureCall.of_body tOk (fn := Tryz.f56) Tryz.func56 (by kernel_rfl) rfl (Nat.le_of_ble_eq_true rfl) (fun E => ?_)
  refine W.seq ?_
  refine W.region ?_
  refine S.box rfl rfl rfl rfl ?_
  refine S.box rfl rfl rfl rfl ?_
  refine S.pure tOk zOk rfl rfl rfl ?_
  refine thenK_n ?_
  refine W.seq ?_
  refine W.regionD mixed (by kernel_rfl) ?_
  refine D.pure tOk zOk rfl rfl rfl rfl ?_
  refine D.pure tOk zOk rfl rfl rfl rfl ?_
  refine D.pure tOk zOk rfl rfl rfl rfl ?_
  refine D.pure tOk zOk rfl rfl rfl rfl ?_
  refine D.call rfl rfl rfl rfl rfl (pc_cmpInt _ _) ?_
  refine D.pure tOk zOk rfl rfl rfl rfl ?_
  refine D.pure tOk zOk rfl rfl rfl rfl ?_
  refine D.pure tOk zOk rfl rfl rfl rfl ?_
  refine D.pure tOk zOk rfl rfl rfl rfl ?_
  refine D.call rfl rfl rfl rfl rfl (pc_cmpInt _ _) ?_
  refine D.pure tOk zOk rfl rfl rfl rfl ?_
  refine D.pure tOk zOk rfl rfl rfl rfl ?_
  refine D.pure tOk zOk rfl rfl rfl rfl ?_
  refine D.pure tOk zOk rfl rfl rfl rfl ?_
  refine D.call rfl rfl rfl rfl rfl (pc_cmpInt _ _) ?_
  refine D.pure tOk zOk rfl rfl rfl rfl ?_
  refine D.pure tOk zOk rfl rfl rfl rfl ?_
  refine D.pure tOk zOk rfl rfl rfl rfl ?_
  refine D.pure tOk zOk rfl rfl rfl rfl ?_
  refine D.call rfl rfl rfl rfl rfl (pc_ver_compareEarly _ _ (by omega) (by omega)) ?_
  refine D.slice tOk rfl rfl ?_
  refine D.call rfl rfl rfl rfl rfl (pc_cmp_Or_int_ [_, _, _, _] (by simp)) ?_
  refine D.pure tOk zOk rfl rfl rfl rfl ?_
  refine thenK_n ?_
  refine W.ret ?_
  exact ⟨_, rfl, rfl, LeV.refl _⟩

theorem pc_ver_Compare (v w : Ver) (hv : v.e.length < 4294967281) (hw : w.e.length < 4294967281) :
    PureCall Tryz.prog J 18 [verV v, verV w] (.tup [.one (.d (.int .i64 (compareB v w).1)), .one (.d (.int .i64 (compareB v w).2))]) := by
  refine PureCall.of_body tOk (fn := Tryz.f18) Tryz.func18 (by kernel_rfl) rfl (Nat.le_of_ble_eq_true rfl) (fun E => ?_)
  refine W.seq ?_
  refine W.region ?_
  refine S.box rfl rfl rfl rfl ?_
  refine S.box rfl rfl rfl rfl ?_
  refine S.pure tOk zOk rfl rfl rfl ?_
  refine S.pure tOk zOk rfl rfl rfl ?_
  refine thenK_n ?_
  refine W.seq ?_
  refine W.seq ?_
  refine W.region ?_
  refine S.pure tOk zOk rfl rfl rfl ?_
  refine S.pure tOk zOk rfl rfl rfl ?_
  refine S.pure tOk zOk rfl rfl rfl ?_
  refine S.pure tOk zOk rfl rfl rfl ?_
  refine thenK_n ?_
  refine W.block ?_
  refine W.rounds 3 ?_
  refine WR.succ ?_
  refine W.seq ?_
  refine W.region ?_
  refine S.pure tOk zOk rfl rfl rfl ?_
  refine thenK_n ?_
  refine W.seq ?_
  refine W.condT rfl rfl ?_
  refine W.skip ?_
  refine thenK_n ?_
  refine W.seq ?_
  refine W.block ?_
  refine W.seq ?_
  refine W.region ?_
  refine S.pure tOk zOk rfl (by first | rfl | exact idx_ok (by omega) (by omega)) rfl ?_
  refine S.alloc tOk rfl rfl rfl rfl ?_
  refine S.store tOk rfl rfl rfl rfl rfl rfl rfl rfl ?_
  refine thenK_n ?_
  refine W.seq ?_
  refine W.region ?_
  refine S.pure tOk zOk rfl rfl rfl ?_
  refine S.call rfl rfl rfl rfl rfl (pc_ver_Check ⟨_, _, _, _⟩ (by first | exact hv | exact hw)) ?_
  refine S.pure tOk zOk rfl rfl rfl ?_
  refine thenK_n ?_
  refine W.seq ?_
  refine W.region ?_
  refine S.pure tOk zOk rfl rfl rfl ?_
  refine S.pure tOk zOk rfl rfl rfl ?_
  refine thenK_n ?_
  refine W.cond rfl (fun c2 => ?_) (fun c2 => ?_)
  · skip
    refine W.seq ?_
    refine W.region ?_
    refine S.pure tOk zOk rfl rfl rfl ?_
    refine S.pure tOk zOk rfl rfl rfl ?_
    refine S.pure tOk zOk rfl rfl rfl ?_
    refine thenK_n ?_
    refine W.ret ?_
    refine blockK_r ?_
    refine thenK_r ?_
    refine thenK_r ?_
    refine blockK_r ?_
    refine thenK_r ?_
    exact ⟨_, rfl, rfl, LeV.of_force rfl (by simp_all [compareB])⟩
  · skip
    refine W.skip ?_
    refine blockK_n ?_
    refine thenK_n ?_
    refine W.region ?_
    refine S.pure tOk zOk rfl rfl rfl ?_
    refine S.pure tOk zOk rfl rfl rfl ?_
    refine thenK_n ?_
    refine WR.succ ?_
    refine W.seq ?_
    refine W.region ?_
    refine S.pure tOk zOk rfl rfl rfl ?_
    refine thenK_n ?_
    refine W.seq ?_
    refine W.condT rfl rfl ?_
    refine W.skip ?_
    refine thenK_n ?_
    refine W.seq ?_
    refine W.block ?_
    refine W.seq ?_
    refine W.region ?_
    refine S.pure tOk zOk rfl (by first | rfl | exact idx_ok (by omega) (by omega)) rfl ?_
    refine S.alloc tOk rfl rfl rfl rfl ?_
    refine S.store tOk rfl rfl rfl rfl rfl rfl rfl rfl ?_
    refine thenK_n ?_
    refine W.seq ?_
    refine W.region ?_
    refine S.pure tOk zOk rfl rfl rfl ?_
    refine S.call rfl rfl rfl rfl rfl (pc_ver_Check ⟨_, _, _, _⟩ (by first | exact hv | exact hw)) ?_
    refine S.pure tOk zOk rfl rfl rfl ?_
    refine thenK_n ?_
    refine W.seq ?_
    refine W.region ?_
    refine S.pure tOk zOk rfl rfl rfl ?_
    refine S.pure tOk zOk rfl rfl rfl ?_
    refine thenK_n ?_
    refine W.cond rfl (fun c4 => ?_) (fun c4 => ?_)
    · skip
      refine W.seq ?_
      refine W.region ?_
      refine S.pure tOk zOk rfl rfl rfl ?_
      refine S.pure tOk zOk rfl rfl rfl ?_
      refine S.pure tOk zOk rfl rfl rfl ?_
      refine thenK_n ?_
      refine W.ret ?_
      refine blockK_r ?_
      refine thenK_r ?_
      refine thenK_r ?_
      refine blockK_r ?_
      refine thenK_r ?_
      exact ⟨_, rfl, rfl, LeV.of_force rfl (by simp_all [compareB])⟩
    · skip
      refine W.skip ?_
      refine blockK_n ?_
      refine thenK_n ?_
      refine W.region ?_
      refine S.pure tOk zOk rfl rfl rfl ?_
      refine S.pure tOk zOk rfl rfl rfl ?_
      refine thenK_n ?_
      refine WR.succ ?_
      refine W.seq ?_
      refine W.region ?_
      refine S.pure tOk zOk rfl rfl rfl ?_
      refine thenK_n ?_
      refine W.seq ?_
      refine W.condF rfl rfl ?_
      refine W.exit ?_
      refine thenK_e ?_
      refine thenK_e ?_
      refine blockK_x ?_
      refine thenK_n ?_
      refine W.seq ?_
      refine W.region ?_
      refine S.pure tOk zOk rfl rfl rfl ?_
      refine S.pure tOk zOk rfl rfl rfl ?_
      refine S.call rfl rfl rfl rfl rfl (pc_ver_Order _ _ (by omega) (by omega)) ?_
      refine S.pure tOk zOk rfl rfl rfl ?_
      refine S.pure tOk zOk rfl rfl rfl ?_
      refine thenK_n ?_
      refine W.ret ?_
      exact ⟨_, rfl, rfl, LeV.of_force rfl (by simp_all [compareB])⟩

theorem pc_ver_Next (v : Ver) (he : v.e.length < 4294967281) (p : Int) :
    PureCall Tryz.prog J 19 [verV v, .one (.d (.int .i64 p))] (.tup [verV (nextB v p).1, .one (.d (.int .i64 (nextB v p).2))]) := by
  refine PureCall.of_body tOk (fn := Tryz.f19) Tryz.func19 (by kernel_rfl) rfl (Nat.le_of_ble_eq_true rfl) (fun E => ?_)
  refine W.seq ?_
  refine W.region ?_
  refine S.box rfl rfl rfl rfl ?_
  refine S.alloc tOk rfl rfl rfl rfl ?_
  refine S.pure tOk zOk rfl rfl rfl ?_
  refine thenK_n ?_
  refine W.seq ?_
  refine W.seq ?_
  refine W.region ?_
  refine S.pure tOk zOk rfl rfl rfl ?_
  refine S.call rfl rfl rfl rfl rfl (pc_ver_Check v he) ?_
  refine S.pure tOk zOk rfl rfl rfl ?_
  refine thenK_n ?_
  refine W.seq ?_
  refine W.region ?_
  refine S.pure tOk zOk rfl rfl rfl ?_
  refine S.pure tOk zOk rfl rfl rfl ?_
  refine thenK_n ?_
  refine W.cond rfl (fun c1 => ?_) (fun c1 => ?_)
  · skip
    refine W.seq ?_
    refine W.region ?_
    refine S.pure tOk zOk rfl rfl rfl ?_
    refine S.pure tOk zOk rfl rfl rfl ?_
    refine S.store tOk rfl rfl rfl rfl rfl rfl rfl rfl ?_
    refine S.pure tOk zOk rfl rfl rfl ?_
    refine thenK_n ?_
    refine W.ret ?_
    refine thenK_r ?_
    exact ⟨_, rfl, rfl, LeV.of_force rfl (by simp_all [nextB, nextOk, Ver.check, Ver.z, w1, verV])⟩
  · skip
    refine W.skip ?_
    refine thenK_n ?_
    refine W.seq ?_
    refine W.region ?_
    refine S.pure tOk zOk rfl rfl rfl ?_
    refine S.pure tOk zOk rfl rfl rfl ?_
    refine S.pure tOk zOk rfl rfl rfl ?_
    refine S.pure tOk zOk rfl rfl rfl ?_
    refine S.pure tOk zOk rfl rfl rfl ?_
    refine S.pure tOk zOk rfl rfl rfl ?_
    refine S.pure tOk zOk rfl rfl rfl ?_
    refine S.alloc tOk rfl rfl rfl rfl ?_
    refine S.store tOk rfl rfl rfl rfl rfl rfl rfl rfl ?_
    refine thenK_n ?_
    refine W.seq ?_
    refine W.block ?_
    refine W.seq ?_
    refine W.region ?_
    refine S.pure tOk zOk rfl rfl rfl ?_
    refine S.pure tOk zOk rfl rfl rfl ?_
    refine S.pure tOk zOk rfl rfl rfl ?_
    refine thenK_n ?_
    refine W.cond rfl (fun c2 => ?_) (fun c2 => ?_)
    · skip
      refine W.region ?_
      refine S.pure tOk zOk rfl rfl rfl ?_
      refine S.pure tOk zOk rfl rfl rfl ?_
      refine S.pure tOk zOk rfl rfl rfl ?_
      refine S.pure tOk zOk rfl rfl rfl ?_
      refine S.store tOk rfl rfl rfl rfl rfl rfl rfl rfl ?_
      refine blockK_n ?_
      refine thenK_n ?_
      refine W.seq ?_
      refine W.seq ?_
      refine W.region ?_
      refine S.pure tOk zOk rfl rfl rfl ?_
      refine S.call rfl rfl rfl rfl rfl (pc_ver_Check ⟨w1 v.a, 0, 0, []⟩ (by decide : ([] : List UInt8).length < _)) ?_
      refine S.pure tOk zOk rfl rfl rfl ?_
      refine thenK_n ?_
      refine W.cond rfl (fun c3 => ?_) (fun c3 => ?_)
      · skip
        refine W.seq ?_
        refine W.region ?_
        refine S.pure tOk zOk rfl rfl rfl ?_
        refine S.store tOk rfl rfl rfl rfl rfl rfl rfl rfl ?_
        refine S.pure tOk zOk rfl rfl rfl ?_
        refine thenK_n ?_
        refine W.ret ?_
        refine thenK_r ?_
        exact ⟨_, rfl, rfl, LeV.of_force rfl (by simp_all [nextB, nextOk, Ver.check, Ver.z, w1, verV])⟩
      · skip
        refine W.skip ?_
        refine thenK_n ?_
        refine W.seq ?_
        refine W.region ?_
        refine S.pure tOk zOk rfl rfl rfl ?_
        refine S.store tOk rfl rfl rfl rfl rfl rfl rfl rfl ?_
        refine S.pure tOk zOk rfl rfl rfl ?_
        refine thenK_n ?_
        refine W.ret ?_
        exact ⟨_, rfl, rfl, LeV.of_force rfl (by simp_all [nextB, nextOk, Ver.check, Ver.z, w1, verV])⟩
    · skip
      refine W.seq ?_
      refine W.region ?_
      refine S.pure tOk zOk rfl rfl rfl ?_
      refine S.pure tOk zOk rfl rfl rfl ?_
      refine S.pure tOk zOk rfl rfl rfl ?_
      refine thenK_n ?_
      refine W.cond rfl (fun c4 => ?_) (fun c4 => ?_)
      · skip
        refine W.region ?_
        refine S.pure tOk zOk rfl rfl rfl ?_
        refine S.pure tOk zOk rfl rfl rfl ?_
        refine S.pure tOk zOk rfl rfl rfl ?_
        refine S.pure tOk zOk rfl rfl rfl ?_
        refine S.store tOk rfl rfl rfl rfl rfl rfl rfl rfl ?_
        refine S.pure tOk zOk rfl rfl rfl ?_
        refine S.store tOk rfl rfl rfl rfl rfl rfl rfl rfl ?_
        refine blockK_n ?_
        refine thenK_n ?_
        refine W.seq ?_
        refine W.seq ?_
        refine W.region ?_
        refine S.pure tOk zOk rfl rfl rfl ?_
        refine S.call rfl rfl rfl rfl rfl (pc_ver_Check ⟨v.a, w1 v.b, 0, []⟩ (by decide : ([] : List UInt8).length < _)) ?_
        refine S.pure tOk zOk rfl rfl rfl ?_
        refine thenK_n ?_
        refine W.cond rfl (fun c5 => ?_) (fun c5 => ?_)
        · skip
          refine W.seq ?_
          refine W.region ?_
          refine S.pure tOk zOk rfl rfl rfl ?_
          refine S.store tOk rfl rfl rfl rfl rfl rfl rfl rfl ?_
          refine S.pure tOk zOk rfl rfl rfl ?_
          refine thenK_n ?_
          refine W.ret ?_
          refine thenK_r ?_
          exact ⟨_, rfl, rfl, LeV.of_force rfl (by simp_all [nextB, nextOk, Ver.check, Ver.z, w1, verV])⟩
        · skip
          refine W.skip ?_
          refine thenK_n ?_
          refine W.seq ?_
          refine W.region ?_
          refine S.pure tOk zOk rfl rfl rfl ?_
          refine S.store tOk rfl rfl rfl rfl rfl rfl rfl rfl ?_
          refine S.pure tOk zOk rfl rfl rfl ?_
          refine thenK_n ?_
          refine W.ret ?_
          exact ⟨_, rfl, rfl, LeV.of_force rfl (by simp_all [nextB, nextOk, Ver.check, Ver.z, w1, verV])⟩
      · skip
        refine W.seq ?_
        refine W.region ?_
        refine S.pure tOk zOk rfl rfl rfl ?_
        refine S.pure tOk zOk rfl rfl rfl ?_
        refine S.pure tOk zOk rfl rfl rfl ?_
        refine S.pureG tOk zOk rfl rfl (by repeat first | exact allT_nil | refine allT_cons (fun h => h) ?_ | refine allT_cons (fun h => andl h) ?_ | refine allT_cons (fun h => andl (andl h)) ?_ | refine allT_cons (fun _ => rfl) ?_) (fun _ => rfl) rfl ?_
        refine S.pureG tOk zOk rfl rfl (by repeat first | exact allT_nil | refine allT_cons (fun h => h) ?_ | refine allT_cons (fun h => andl h) ?_ | refine allT_cons (fun h => andl (andl h)) ?_ | refine allT_cons (fun _ => rfl) ?_) (fun _ => rfl) rfl ?_
        refine S.pureG tOk zOk rfl rfl (by repeat first | exact allT_nil | refine allT_cons (fun h => h) ?_ | refine allT_cons (fun h => andl h) ?_ | refine allT_cons (fun h => andl (andl h)) ?_ | refine allT_cons (fun _ => rfl) ?_) (fun _ => rfl) rfl ?_
        refine S.pickAnd tOk zOk rfl rfl (by repeat first | exact allT_nil | refine allT_cons (fun h => h) ?_ | refine allT_cons (fun h => andl h) ?_ | refine allT_cons (fun h => andl (andl h)) ?_ | refine allT_cons (fun _ => rfl) ?_) ?_
        refine S.pure tOk zOk rfl rfl rfl ?_
        refine thenK_n ?_
        refine W.cond rfl (fun c6 => ?_) (fun c6 => ?_)
        · skip
          refine W.region ?_
          refine S.pure tOk zOk rfl rfl rfl ?_
          refine S.pure tOk zOk rfl rfl rfl ?_
          refine S.pure tOk zOk rfl rfl rfl ?_
          refine S.pure tOk zOk rfl rfl rfl ?_
          refine S.store tOk rfl rfl rfl rfl rfl rfl rfl rfl ?_
          refine blockK_n ?_
          refine thenK_n ?_
          refine W.seq ?_
          refine W.seq ?_
          refine W.region ?_
          refine S.pure tOk zOk rfl rfl rfl ?_
          refine S.call rfl rfl rfl rfl rfl (pc_ver_Check ⟨v.a, v.b, w1 v.c, []⟩ (by decide : ([] : List UInt8).length < _)) ?_
          refine S.pure tOk zOk rfl rfl rfl ?_
          refine thenK_n ?_
          refine W.cond rfl (fun c7 => ?_) (fun c7 => ?_)
          · skip
            refine W.seq ?_
            refine W.region ?_
            refine S.pure tOk zOk rfl rfl rfl ?_
            refine S.store tOk rfl rfl rfl rfl rfl rfl rfl rfl ?_
            refine S.pure tOk zOk rfl rfl rfl ?_
            refine thenK_n ?_
            refine W.ret ?_
            refine thenK_r ?_
            exact ⟨_, rfl, rfl, LeV.of_force rfl (by simp_all [nextB, nextOk, Ver.check, Ver.z, w1, verV])⟩
          · skip
            refine W.skip ?_
            refine thenK_n ?_
            refine W.seq ?_
            refine W.region ?_
            refine S.pure tOk zOk rfl rfl rfl ?_
            refine S.store tOk rfl rfl rfl rfl rfl rfl rfl rfl ?_
            refine S.pure tOk zOk rfl rfl rfl ?_
            refine thenK_n ?_
            refine W.ret ?_
            exact ⟨_, rfl, rfl, LeV.of_force rfl (by simp_all [nextB, nextOk, Ver.check, Ver.z, w1, verV])⟩
        · skip
          refine W.seq ?_
          refine W.region ?_
          refine S.pure tOk zOk rfl rfl rfl ?_
          refine S.pure tOk zOk rfl rfl rfl ?_
          refine S.pure tOk zOk rfl rfl rfl ?_
          refine thenK_n ?_
          refine W.cond rfl (fun c8 => ?_) (fun c8 => ?_)
          · skip
            refine W.seq ?_
            refine W.region ?_
            refine S.pure tOk zOk rfl rfl rfl ?_
            refine S.store tOk rfl rfl rfl rfl rfl rfl rfl rfl ?_
            refine S.pure tOk zOk rfl rfl rfl ?_
            refine thenK_n ?_
            refine W.ret ?_
            refine blockK_r ?_
            refine thenK_r ?_
            exact ⟨_, rfl, rfl, LeV.of_force rfl (by simp_all [nextB, nextOk, Ver.check, Ver.z, w1, verV])⟩
          · skip
            refine W.skip ?_
            refine blockK_n ?_
            refine thenK_n ?_
            refine W.seq ?_
            refine W.seq ?_
            refine W.region ?_
            refine S.pure tOk zOk rfl rfl rfl ?_
            refine S.call rfl rfl rfl rfl rfl (pc_ver_Check ⟨v.a, v.b, v.c, []⟩ (by decide : ([] : List UInt8).length < _)) ?_
            refine S.pure tOk zOk rfl rfl rfl ?_
            refine thenK_n ?_
            refine W.cond rfl (fun c9 => ?_) (fun c9 => ?_)
            · skip
              refine W.seq ?_
              refine W.region ?_
              refine S.pure tOk zOk rfl rfl rfl ?_
              refine S.store tOk rfl rfl rfl rfl rfl rfl rfl rfl ?_
              refine S.pure tOk zOk rfl rfl rfl ?_
              refine thenK_n ?_
              refine W.ret ?_
              refine thenK_r ?_
              exact ⟨_, rfl, rfl, LeV.of_force rfl (by simp_all [nextB, nextOk, Ver.check, Ver.z, w1, verV])⟩
            · skip
              refine W.skip ?_
              refine thenK_n ?_
              refine W.seq ?_
              refine W.region ?_
              refine S.pure tOk zOk rfl rfl rfl ?_
              refine S.store tOk rfl rfl rfl rfl rfl rfl rfl rfl ?_
              refine S.pure tOk zOk rfl rfl rfl ?_
              refine thenK_n ?_
              refine W.ret ?_
              exact ⟨_, rfl, rfl, LeV.of_force rfl (by simp_all [nextB, nextOk, Ver.check, Ver.z, w1, verV])⟩

theorem pc_ver_Parse (s : List UInt8) (hs : s.length < 4294967281) :
    PureCall Tryz.prog J 31 [.one (.d (.str s))] (.tup [verV (parseB s).1, .one (.d (.int .i64 (parseB s).2))]) := by
  have hc := cut_le s [45]
  have hm := fun i => @split_at (Lib.cut s [45]).1 [46] i
  have hsp := pc_Split (Lib.cut s [45]).1 [46] (by omega) (by decide)
  unfold parseB
  generalize hws : Lib.split (Lib.cut s [45]).1 [46] = ws at hm hsp ⊢
  refine PureCall.of_body tOk (fn := Tryz.f31) Tryz.func31 (by kernel_rfl) rfl (Nat.le_of_ble_eq_true rfl) (fun E => ?_)
  refine W.seq ?_
  refine W.region ?_
  refine S.alloc tOk rfl rfl rfl rfl ?_
  refine S.pure tOk zOk rfl rfl rfl ?_
  refine thenK_n ?_
  refine W.seq ?_
  refine W.region ?_
  refine S.pure tOk zOk rfl rfl rfl ?_
  refine S.call rfl rfl rfl rfl rfl (pc_Cut _ _ hs) ?_
  refine S.pure tOk zOk rfl rfl rfl ?_
  refine S.pure tOk zOk rfl rfl rfl ?_
  refine S.pure tOk zOk rfl rfl rfl ?_
  refine S.pure tOk zOk rfl rfl rfl ?_
  refine S.pure tOk zOk rfl rfl rfl ?_
  refine S.pure tOk zOk rfl rfl rfl ?_
  refine S.pure tOk zOk rfl rfl rfl ?_
  refine thenK_n ?_
  refine W.seq ?_
  refine W.region ?_
  refine S.pure tOk zOk rfl rfl rfl ?_
  refine S.call rfl rfl rfl rfl rfl (hsp) ?_
  refine S.pure tOk zOk rfl rfl rfl ?_
  refine thenK_n ?_
  refine W.seq ?_
  refine W.seq ?_
  refine W.region ?_
  refine S.pure tOk zOk rfl rfl rfl ?_
  refine S.pure tOk zOk rfl rfl rfl ?_
  refine S.pure tOk zOk rfl rfl rfl ?_
  refine S.pure tOk zOk rfl rfl rfl ?_
  refine S.pureG tOk zOk rfl rfl (by repeat first | exact allT_nil | refine allT_cons (fun h => h) ?_ | refine allT_cons (fun h => andl h) ?_ | refine allT_cons (fun h => andl (andl h)) ?_ | refine allT_cons (fun _ => rfl) ?_) (fun _ => rfl) rfl ?_
  refine S.pureG tOk zOk rfl rfl (by repeat first | exact allT_nil | refine allT_cons (fun h => h) ?_ | refine allT_cons (fun h => andl h) ?_ | refine allT_cons (fun h => andl (andl h)) ?_ | refine allT_cons (fun _ => rfl) ?_) (fun _ => rfl) rfl ?_
  refine S.pureG tOk zOk rfl rfl (by repeat first | exact allT_nil | refine allT_cons (fun h => h) ?_ | refine allT_cons (fun h => andl h) ?_ | refine allT_cons (fun h => andl (andl h)) ?_ | refine allT_cons (fun _ => rfl) ?_) (fun _ => rfl) rfl ?_
  refine S.pureG tOk zOk rfl rfl (by repeat first | exact allT_nil | refine allT_cons (fun h => h) ?_ | refine allT_cons (fun h => andl h) ?_ | refine allT_cons (fun h => andl (andl h)) ?_ | refine allT_cons (fun _ => rfl) ?_) (fun _ => rfl) rfl ?_
  refine S.pickAndG tOk zOk rfl rfl rfl (by repeat first | exact allT_nil | refine allT_cons (fun h => h) ?_ | refine allT_cons (fun h => andl h) ?_ | refine allT_cons (fun h => andl (andl h)) ?_ | refine allT_cons (fun _ => rfl) ?_) (by repeat first | exact allT_nil | refine allT_cons (fun h => h) ?_ | refine allT_cons (fun h => andl h) ?_ | refine allT_cons (fun h => andl (andl h)) ?_ | refine allT_cons (fun _ => rfl) ?_) ?_
  refine S.pickOr tOk zOk rfl rfl (by repeat first | exact allT_nil | refine allT_cons (fun h => h) ?_ | refine allT_cons (fun h => andl h) ?_ | refine allT_cons (fun h => andl (andl h)) ?_ | refine allT_cons (fun _ => rfl) ?_) ?_
  refine thenK_n ?_
  refine W.cond rfl (fun c1 => ?_) (fun c1 => ?_)
  · skip
    refine W.seq ?_
    refine W.region ?_
    refine S.pure tOk zOk rfl rfl rfl ?_
    refine S.store tOk rfl rfl rfl rfl rfl rfl rfl rfl ?_
    refine S.pure tOk zOk rfl rfl rfl ?_
    refine thenK_n ?_
    refine W.ret ?_
    refine thenK_r ?_
    exact ⟨_, rfl, rfl, LeV.of_force rfl (by simp_all [parseW, verV, Ver.z])⟩
  · skip
    have h3 : ws.length = 3 := by simp at c1; omega
    obtain ⟨p, q, r, rfl⟩ := three h3
    refine W.skip ?_
    refine thenK_n ?_
    refine W.seq ?_
    refine W.region ?_
    refine S.alloc tOk rfl rfl rfl rfl ?_
    refine thenK_n ?_
    refine W.seq ?_
    refine W.seq ?_
    refine W.region ?_
    refine S.pure tOk zOk rfl rfl rfl ?_
    refine S.pure tOk zOk rfl rfl rfl ?_
    refine S.pure tOk zOk rfl rfl rfl ?_
    refine thenK_n ?_
    refine W.block ?_
    refine W.rounds 4 ?_
    refine WR.succ ?_
    refine W.seq ?_
    refine W.region ?_
    refine S.pure tOk zOk rfl rfl rfl ?_
    refine thenK_n ?_
    refine W.seq ?_
    refine W.condT rfl rfl ?_
    refine W.skip ?_
    refine thenK_n ?_
    refine W.seq ?_
    refine W.block ?_
    refine W.seq ?_
    refine W.region ?_
    refine S.pure tOk zOk rfl rfl rfl ?_
    refine S.pure tOk zOk rfl (by first | rfl | exact idx_ok (by omega) (by omega)) rfl ?_
    refine S.pure tOk zOk rfl rfl rfl ?_
    refine S.pure tOk zOk rfl rfl rfl ?_
    refine S.pure tOk zOk rfl rfl rfl ?_
    refine thenK_n ?_
    refine W.seq ?_
    refine W.region ?_
    refine S.pure tOk zOk rfl rfl rfl ?_
    refine S.call rfl rfl rfl rfl rfl (pc_ver_number _ (by first | (have := hm 0; simp at this; omega) | (have := hm 1; simp at this; omega) | (have := hm 2; simp at this; omega))) ?_
    refine S.pure tOk zOk rfl rfl rfl ?_
    refine S.pure tOk zOk rfl rfl rfl ?_
    refine S.pure tOk zOk rfl rfl rfl ?_
    refine S.pure tOk zOk rfl rfl rfl ?_
    refine S.pure tOk zOk rfl rfl rfl ?_
    refine thenK_n ?_
    refine W.seq ?_
    refine W.seq ?_
    refine W.region ?_
    refine S.pure tOk zOk rfl rfl rfl ?_
    refine S.pure tOk zOk rfl rfl rfl ?_
    refine thenK_n ?_
    refine W.cond rfl (fun c3 => ?_) (fun c3 => ?_)
    · skip
      refine W.seq ?_
      refine W.region ?_
      refine S.pure tOk zOk rfl rfl rfl ?_
      refine S.store tOk rfl rfl rfl rfl rfl rfl rfl rfl ?_
      refine S.pure tOk zOk rfl rfl rfl ?_
      refine thenK_n ?_
      refine W.ret ?_
      refine thenK_r ?_
      refine blockK_r ?_
      refine thenK_r ?_
      refine thenK_r ?_
      refine blockK_r ?_
      refine thenK_r ?_
      exact ⟨_, rfl, rfl, LeV.of_force rfl (by rw [parse_ok c1]; clear c1; simp_all [threeB, verV, Ver.z, Ver.check])⟩
    · skip
      refine W.skip ?_
      refine thenK_n ?_
      refine W.region ?_
      refine S.pure tOk zOk rfl rfl rfl ?_
      refine S.pure tOk zOk rfl rfl rfl ?_
      refine S.pure tOk zOk rfl (by first | rfl | exact idx_ok (by omega) (by omega)) rfl ?_
      refine S.store tOk rfl rfl rfl rfl rfl rfl rfl rfl ?_
      refine blockK_n ?_
      refine thenK_n ?_
      refine W.region ?_
      refine S.pure tOk zOk rfl rfl rfl ?_
      refine S.pure tOk zOk rfl rfl rfl ?_
      refine thenK_n ?_
      refine WR.succ ?_
      refine W.seq ?_
      refine W.region ?_
      refine S.pure tOk zOk rfl rfl rfl ?_
      refine thenK_n ?_
      refine W.seq ?_
      refine W.condT rfl rfl ?_
      refine W.skip ?_
      refine thenK_n ?_
      refine W.seq ?_
      refine W.block ?_
      refine W.seq ?_
      refine W.region ?_
      refine S.pure tOk zOk rfl rfl rfl ?_
      refine S.pure tOk zOk rfl (by first | rfl | exact idx_ok (by omega) (by omega)) rfl ?_
      refine S.pure tOk zOk rfl rfl rfl ?_
      refine S.pure tOk zOk rfl rfl rfl ?_
      refine S.pure tOk zOk rfl rfl rfl ?_
      refine thenK_n ?_
      refine W.seq ?_
      refine W.region ?_
      refine S.pure tOk zOk rfl rfl rfl ?_
      refine S.call rfl rfl rfl rfl rfl (pc_ver_number _ (by first | (have := hm 0; simp at this; omega) | (have := hm 1; simp at this; omega) | (have := hm 2; simp at this; omega))) ?_
      refine S.pure tOk zOk rfl rfl rfl ?_
      refine S.pure tOk zOk rfl rfl rfl ?_
      refine S.pure tOk zOk rfl rfl rfl ?_
      refine S.pure tOk zOk rfl rfl rfl ?_
      refine S.pure tOk zOk rfl rfl rfl ?_
      refine thenK_n ?_
      refine W.seq ?_
      refine W.seq ?_
      refine W.region ?_
      refine S.pure tOk zOk rfl rfl rfl ?_
      refine S.pure tOk zOk rfl rfl rfl ?_
      refine thenK_n ?_
      refine W.cond rfl (fun c5 => ?_) (fun c5 => ?_)
      · skip
        refine W.seq ?_
        refine W.region ?_
        refine S.pure tOk zOk rfl rfl rfl ?_
        refine S.store tOk rfl rfl rfl rfl rfl rfl rfl rfl ?_
        refine S.pure tOk zOk rfl rfl rfl ?_
        refine thenK_n ?_
        refine W.ret ?_
        refine thenK_r ?_
        refine blockK_r ?_
        refine thenK_r ?_
        refine thenK_r ?_
        refine blockK_r ?_
        refine thenK_r ?_
        exact ⟨_, rfl, rfl, LeV.of_force rfl (by rw [parse_ok c1]; clear c1; simp_all [threeB, verV, Ver.z, Ver.check])⟩
      · skip
        refine W.skip ?_
        refine thenK_n ?_
        refine W.region ?_
        refine S.pure tOk zOk rfl rfl rfl ?_
        refine S.pure tOk zOk rfl rfl rfl ?_
        refine S.pure tOk zOk rfl (by first | rfl | exact idx_ok (by omega) (by omega)) rfl ?_
        refine S.store tOk rfl rfl rfl rfl rfl rfl rfl rfl ?_
        refine blockK_n ?_
        refine thenK_n ?_
        refine W.region ?_
        refine S.pure tOk zOk rfl rfl rfl ?_
        refine S.pure tOk zOk rfl rfl rfl ?_
        refine thenK_n ?_
        refine WR.succ ?_
        refine W.seq ?_
        refine W.region ?_
        refine S.pure tOk zOk rfl rfl rfl ?_
        refine thenK_n ?_
        refine W.seq ?_
        refine W.condT rfl rfl ?_
        refine W.skip ?_
        refine thenK_n ?_
        refine W.seq ?_
        refine W.block ?_
        refine W.seq ?_
        refine W.region ?_
        refine S.pure tOk zOk rfl rfl rfl ?_
        refine S.pure tOk zOk rfl (by first | rfl | exact idx_ok (by omega) (by omega)) rfl ?_
        refine S.pure tOk zOk rfl rfl rfl ?_
        refine S.pure tOk zOk rfl rfl rfl ?_
        refine S.pure tOk zOk rfl rfl rfl ?_
        refine thenK_n ?_
        refine W.seq ?_
        refine W.region ?_
        refine S.pure tOk zOk rfl rfl rfl ?_
        refine S.call rfl rfl rfl rfl rfl (pc_ver_number _ (by first | (have := hm 0; simp at this; omega) | (have := hm 1; simp at this; omega) | (have := hm 2; simp at this; omega))) ?_
        refine S.pure tOk zOk rfl rfl rfl ?_
        refine S.pure tOk zOk rfl rfl rfl ?_
        refine S.pure tOk zOk rfl rfl rfl ?_
        refine S.pure tOk zOk rfl rfl rfl ?_
        refine S.pure tOk zOk rfl rfl rfl ?_
        refine thenK_n ?_
        refine W.seq ?_
        refine W.seq ?_
        refine W.region ?_
        refine S.pure tOk zOk rfl rfl rfl ?_
        refine S.pure tOk zOk rfl rfl rfl ?_
        refine thenK_n ?_
        refine W.cond rfl (fun c7 => ?_) (fun c7 => ?_)
        · skip
          refine W.seq ?_
          refine W.region ?_
          refine S.pure tOk zOk rfl rfl rfl ?_
          refine S.store tOk rfl rfl rfl rfl rfl rfl rfl rfl ?_
          refine S.pure tOk zOk rfl rfl rfl ?_
          refine thenK_n ?_
          refine W.ret ?_
          refine thenK_r ?_
          refine blockK_r ?_
          refine thenK_r ?_
          refine thenK_r ?_
          refine blockK_r ?_
          refine thenK_r ?_
          exact ⟨_, rfl, rfl, LeV.of_force rfl (by rw [parse_ok c1]; clear c1; simp_all [threeB, verV, Ver.z, Ver.check])⟩
        · skip
          refine W.skip ?_
          refine thenK_n ?_
          refine W.region ?_
          refine S.pure tOk zOk rfl rfl rfl ?_
          refine S.pure tOk zOk rfl rfl rfl ?_
          refine S.pure tOk zOk rfl (by first | rfl | exact idx_ok (by omega) (by omega)) rfl ?_
          refine S.store tOk rfl rfl rfl rfl rfl rfl rfl rfl ?_
          refine blockK_n ?_
          refine thenK_n ?_
          refine W.region ?_
          refine S.pure tOk zOk rfl rfl rfl ?_
          refine S.pure tOk zOk rfl rfl rfl ?_
          refine thenK_n ?_
          refine WR.succ ?_
          refine W.seq ?_
          refine W.region ?_
          refine S.pure tOk zOk rfl rfl rfl ?_
          refine thenK_n ?_
          refine W.seq ?_
          refine W.condF rfl rfl ?_
          refine W.exit ?_
          refine thenK_e ?_
          refine thenK_e ?_
          refine blockK_x ?_
          refine thenK_n ?_
          refine W.seq ?_
          refine W.region ?_
          refine S.pure tOk zOk rfl (by first | rfl | exact idx_ok (by omega) (by omega)) rfl ?_
          refine S.pure tOk zOk rfl rfl rfl ?_
          refine S.pure tOk zOk rfl (by first | rfl | exact idx_ok (by omega) (by omega)) rfl ?_
          refine S.pure tOk zOk rfl rfl rfl ?_
          refine S.pure tOk zOk rfl (by first | rfl | exact idx_ok (by omega) (by omega)) rfl ?_
          refine S.pure tOk zOk rfl rfl rfl ?_
          refine S.pure tOk zOk rfl rfl rfl ?_
          refine S.pure tOk zOk rfl rfl rfl ?_
          refine S.alloc tOk rfl rfl rfl rfl ?_
          refine S.store tOk rfl rfl rfl rfl rfl rfl rfl rfl ?_
          refine thenK_n ?_
          refine W.seq ?_
          refine W.seq ?_
          refine W.region ?_
          refine S.pure tOk zOk rfl rfl rfl ?_
          refine S.call rfl rfl rfl rfl rfl (pc_ver_Check ⟨(numB p).1, (numB q).1, (numB r).1, (Lib.cut s [45]).2.1⟩ (by show (Lib.cut s [45]).2.1.length < _; omega)) ?_
          refine S.pure tOk zOk rfl rfl rfl ?_
          refine thenK_n ?_
          refine W.seq ?_
          refine W.region ?_
          refine S.pure tOk zOk rfl rfl rfl ?_
          refine S.pure tOk zOk rfl rfl rfl ?_
          refine thenK_n ?_
          refine W.cond rfl (fun c9 => ?_) (fun c9 => ?_)
          · skip
            refine W.seq ?_
            refine W.region ?_
            refine S.pure tOk zOk rfl rfl rfl ?_
            refine S.pure tOk zOk rfl rfl rfl ?_
            refine S.store tOk rfl rfl rfl rfl rfl rfl rfl rfl ?_
            refine S.pure tOk zOk rfl rfl rfl ?_
            refine thenK_n ?_
            refine W.ret ?_
            refine thenK_r ?_
            exact ⟨_, rfl, rfl, LeV.of_force rfl (by rw [parse_ok c1]; clear c1; simp_all [threeB, verV, Ver.z, Ver.check])⟩
          · skip
            refine W.skip ?_
            refine thenK_n ?_
            refine W.seq ?_
            refine W.region ?_
            refine S.pure tOk zOk rfl rfl rfl ?_
            refine S.store tOk rfl rfl rfl rfl rfl rfl rfl rfl ?_
            refine S.pure tOk zOk rfl rfl rfl ?_
            refine thenK_n ?_
            refine W.ret ?_
            exact ⟨_, rfl, rfl, LeV.of_force rfl (by rw [parse_ok c1]; clear c1; simp_all [threeB, verV, Ver.z, Ver.check])⟩

end Go.Proofs.YtepdjimbnbiicaaGreatDoor
