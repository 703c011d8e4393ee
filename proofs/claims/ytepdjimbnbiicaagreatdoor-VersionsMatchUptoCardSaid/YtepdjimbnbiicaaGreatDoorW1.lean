import Derived.Test.YtepdjimbnbiicaaGreatDoorA14
import Derived.Test.YtepdjimbnbiicaaGreatDoorTy
import Derived.Test.YtepdjimbnbiicaaGreatDoorL1
import Derived.Test.YtepdjimbnbiicaaGreatDoorV1
set_option linter.unusedVariables false
set_option linter.unusedSimpArgs false
set_option maxRecDepth 100000
namespace Go.Proofs.YtepdjimbnbiicaaGreatDoor
open Go
open Go.RowKit

theorem pc_ver_isDigit (c : Int) :
    PureCall Tryz.prog J 63 [.one (.d (.int .u8 c))] (.one (.d (.bool (isDigit c)))) := by
  refine PureCall.of_body tOk (fn := Tryz.f63) Tryz.func63 (by kernel_rfl) rfl (Nat.le_of_ble_eq_true rfl) (fun E => ?_)
  refine W.seq ?_
  refine W.region ?_
  refine S.pure tOk zOk rfl rfl rfl ?_
  refine thenK_n ?_
  refine W.seq ?_
  refine W.region ?_
  refine S.pure tOk zOk rfl rfl rfl ?_
  refine S.pure tOk zOk rfl rfl rfl ?_
  refine S.pure tOk zOk rfl rfl rfl ?_
  refine S.pureG tOk zOk rfl rfl (by repeat first | exact allT_nil | refine allT_cons (fun h => h) ?_ | refine allT_cons (fun h => andl h) ?_ | refine allT_cons (fun h => andl (andl h)) ?_ | refine allT_cons (fun _ => rfl) ?_) (fun _ => rfl) rfl ?_
  refine S.pureG tOk zOk rfl rfl (by repeat first | exact allT_nil | refine allT_cons (fun h => h) ?_ | refine allT_cons (fun h => andl h) ?_ | refine allT_cons (fun h => andl (andl h)) ?_ | refine allT_cons (fun _ => rfl) ?_) (fun _ => rfl) rfl ?_
  refine S.pickAnd tOk zOk rfl rfl (by repeat first | exact allT_nil | refine allT_cons (fun h => h) ?_ | refine allT_cons (fun h => andl h) ?_ | refine allT_cons (fun h => andl (andl h)) ?_ | refine allT_cons (fun _ => rfl) ?_) ?_
  refine S.pure tOk zOk rfl rfl rfl ?_
  refine thenK_n ?_
  refine W.ret ?_
  exact ⟨_, rfl, rfl, LeV.refl _⟩

theorem pc_ver_isSmall (c : Int) :
    PureCall Tryz.prog J 62 [.one (.d (.int .u8 c))] (.one (.d (.bool (isSmall c)))) := by
  refine PureCall.of_body tOk (fn := Tryz.f62) Tryz.func62 (by kernel_rfl) rfl (Nat.le_of_ble_eq_true rfl) (fun E => ?_)
  refine W.seq ?_
  refine W.region ?_
  refine S.pure tOk zOk rfl rfl rfl ?_
  refine thenK_n ?_
  refine W.seq ?_
  refine W.region ?_
  refine S.pure tOk zOk rfl rfl rfl ?_
  refine S.pure tOk zOk rfl rfl rfl ?_
  refine S.pure tOk zOk rfl rfl rfl ?_
  refine S.pureG tOk zOk rfl rfl (by repeat first | exact allT_nil | refine allT_cons (fun h => h) ?_ | refine allT_cons (fun h => andl h) ?_ | refine allT_cons (fun h => andl (andl h)) ?_ | refine allT_cons (fun _ => rfl) ?_) (fun _ => rfl) rfl ?_
  refine S.pureG tOk zOk rfl rfl (by repeat first | exact allT_nil | refine allT_cons (fun h => h) ?_ | refine allT_cons (fun h => andl h) ?_ | refine allT_cons (fun h => andl (andl h)) ?_ | refine allT_cons (fun _ => rfl) ?_) (fun _ => rfl) rfl ?_
  refine S.pickAnd tOk zOk rfl rfl (by repeat first | exact allT_nil | refine allT_cons (fun h => h) ?_ | refine allT_cons (fun h => andl h) ?_ | refine allT_cons (fun h => andl (andl h)) ?_ | refine allT_cons (fun _ => rfl) ?_) ?_
  refine S.pure tOk zOk rfl rfl rfl ?_
  refine thenK_n ?_
  refine W.ret ?_
  exact ⟨_, rfl, rfl, LeV.refl _⟩

theorem pc_ver_outside (n l h : Int) :
    PureCall Tryz.prog J 58 [.one (.d (.int .i64 n)), .one (.d (.int .i64 l)), .one (.d (.int .i64 h))] (.one (.d (.bool (outsideB n l h)))) := by
  refine PureCall.of_body tOk (fn := Tryz.f58) Tryz.func58 (by kernel_rfl) rfl (Nat.le_of_ble_eq_true rfl) (fun E => ?_)
  refine W.seq ?_
  refine W.region ?_
  refine S.pure tOk zOk rfl rfl rfl ?_
  refine thenK_n ?_
  refine W.seq ?_
  refine W.region ?_
  refine S.pure tOk zOk rfl rfl rfl ?_
  refine S.pure tOk zOk rfl rfl rfl ?_
  refine S.pure tOk zOk rfl rfl rfl ?_
  refine S.pure tOk zOk rfl rfl rfl ?_
  refine S.pureG tOk zOk rfl rfl (by repeat first | exact allT_nil | refine allT_cons (fun h => h) ?_ | refine allT_cons (fun h => andl h) ?_ | refine allT_cons (fun h => andl (andl h)) ?_ | refine allT_cons (fun _ => rfl) ?_) (fun _ => rfl) rfl ?_
  refine S.pureG tOk zOk rfl rfl (by repeat first | exact allT_nil | refine allT_cons (fun h => h) ?_ | refine allT_cons (fun h => andl h) ?_ | refine allT_cons (fun h => andl (andl h)) ?_ | refine allT_cons (fun _ => rfl) ?_) (fun _ => rfl) rfl ?_
  refine S.pureG tOk zOk rfl rfl (by repeat first | exact allT_nil | refine allT_cons (fun h => h) ?_ | refine allT_cons (fun h => andl h) ?_ | refine allT_cons (fun h => andl (andl h)) ?_ | refine allT_cons (fun _ => rfl) ?_) (fun _ => rfl) rfl ?_
  refine S.pickOr tOk zOk rfl rfl (by repeat first | exact allT_nil | refine allT_cons (fun h => h) ?_ | refine allT_cons (fun h => andl h) ?_ | refine allT_cons (fun h => andl (andl h)) ?_ | refine allT_cons (fun _ => rfl) ?_) ?_
  refine S.pure tOk zOk rfl rfl rfl ?_
  refine thenK_n ?_
  refine W.ret ?_
  exact ⟨_, rfl, rfl, LeV.refl _⟩

theorem pc_ver_each (φ : Int → Bool) (s : List UInt8) (m : Int) (f : FuncId) (hs : s.length ≤ 4611686018427387904) (hφ : ∀ c, PureCall Tryz.prog J f [.one (.d (.int .u8 c))] (.one (.d (.bool (φ c))))) :
    PureCall Tryz.prog J 60 [.one (.d (.str s)), .one (.d (.int .i64 m)), .one (.d (.fn f))] (.one (.d (.bool (eachB φ s m)))) := by
  refine PureCall.of_body tOk (fn := Tryz.f60) Tryz.func60 (by kernel_rfl) rfl (Nat.le_of_ble_eq_true rfl) (fun E => ?_)
  refine W.seq ?_
  refine W.region ?_
  refine S.pure tOk zOk rfl rfl rfl ?_
  refine thenK_n ?_
  refine W.seq ?_
  refine W.seq ?_
  refine W.region ?_
  refine S.pure tOk zOk rfl rfl rfl ?_
  refine thenK_n ?_
  refine W.block ?_
  refine W.loop (fun k st => ∃ i : Nat, i ≤ s.length ∧ (s.take i).all (fun c => φ (bI c)) = true ∧ k = s.length - i ∧ ∃ t b2, st = ⟨t, [] ++ b2, [], []⟩ ∧ holdsL t [(0, .one (.d (.str s))), (1, .one (.d (.int .i64 m))), (2, .one (.d (.fn f))), (7, .one (.d (.int .i64 (i : Int))))]) (s.length) ⟨0, Nat.zero_le _, by simp, rfl, _, _, rfl, rfl, rfl, rfl, rfl, trivial⟩ ?_
  rintro k0 _ ⟨i, f0_0, f0_1, rfl, t0, bb0, rfl, hh0⟩
  refine W.keepD _ _ _ hh0 rfl ?_
  refine W.seq ?_
  refine W.seq ?_
  refine W.region ?_
  refine S.pure tOk zOk rfl rfl rfl ?_
  refine S.pure tOk zOk rfl rfl rfl ?_
  refine S.pure tOk zOk rfl rfl rfl ?_
  refine S.pure tOk zOk rfl rfl rfl ?_
  refine thenK_n ?_
  refine W.cond rfl (fun c1 => ?_) (fun c1 => ?_)
  · skip
    have hi : i < s.length := by simpa using c1
    refine W.skip ?_
    refine thenK_n ?_
    refine W.seq ?_
    refine W.block ?_
    refine W.seq ?_
    refine W.region ?_
    refine S.pure tOk zOk rfl rfl rfl ?_
    refine S.pure tOk zOk rfl rfl rfl ?_
    refine S.pure tOk zOk rfl rfl rfl ?_
    refine S.pure tOk zOk rfl (str_ok hi) rfl ?_
    refine S.call rfl rfl rfl rfl rfl (hφ _) ?_
    refine S.pure tOk zOk rfl rfl rfl ?_
    refine thenK_n ?_
    refine W.cond rfl (fun c2 => ?_) (fun c2 => ?_)
    · skip
      refine W.seq ?_
      refine W.region ?_
      refine S.pure tOk zOk rfl rfl rfl ?_
      refine thenK_n ?_
      refine W.ret ?_
      refine blockK_r ?_
      refine thenK_r ?_
      refine thenK_r ?_
      refine blockK_r ?_
      refine thenK_r ?_
      exact ⟨_, rfl, rfl, LeV.of_eq (by rw [eachB, all_false_of (d := 0) (φ := fun c => φ (bI c)) hi (by simpa [bI] using c2)]; rfl)⟩
    · skip
      refine W.skip ?_
      refine blockK_n ?_
      refine thenK_n ?_
      refine W.region ?_
      refine S.pure tOk zOk rfl rfl rfl ?_
      refine S.pure tOk zOk rfl rfl rfl ?_
      refine S.pure tOk zOk rfl rfl rfl ?_
      refine loop_n (s.length - (i + 1)) (by omega) ⟨i + 1, by omega, all_take_succ (d := 0) (φ := fun c => φ (bI c)) hi f0_1 (by simpa [bI] using c2), rfl, _, _, rfl, rfl, rfl, rfl, inc_i64 (by omega), trivial⟩
  · skip
    have hi : s.length ≤ i := by simpa using c1
    refine W.exit ?_
    refine thenK_e ?_
    refine thenK_e ?_
    refine blockK_x ?_
    refine thenK_n ?_
    refine W.seq ?_
    refine W.region ?_
    refine S.pure tOk zOk rfl rfl rfl ?_
    refine S.pure tOk zOk rfl rfl rfl ?_
    refine S.pure tOk zOk rfl rfl rfl ?_
    refine S.pureG tOk zOk rfl rfl (by repeat first | exact allT_nil | refine allT_cons (fun h => h) ?_ | refine allT_cons (fun h => andl h) ?_ | refine allT_cons (fun h => andl (andl h)) ?_ | refine allT_cons (fun _ => rfl) ?_) (fun _ => rfl) rfl ?_
    refine S.pureG tOk zOk rfl rfl (by repeat first | exact allT_nil | refine allT_cons (fun h => h) ?_ | refine allT_cons (fun h => andl h) ?_ | refine allT_cons (fun h => andl (andl h)) ?_ | refine allT_cons (fun _ => rfl) ?_) (fun _ => rfl) rfl ?_
    refine S.pureG tOk zOk rfl rfl (by repeat first | exact allT_nil | refine allT_cons (fun h => h) ?_ | refine allT_cons (fun h => andl h) ?_ | refine allT_cons (fun h => andl (andl h)) ?_ | refine allT_cons (fun _ => rfl) ?_) (fun _ => rfl) rfl ?_
    refine S.pureG tOk zOk rfl rfl (by repeat first | exact allT_nil | refine allT_cons (fun h => h) ?_ | refine allT_cons (fun h => andl h) ?_ | refine allT_cons (fun h => andl (andl h)) ?_ | refine allT_cons (fun _ => rfl) ?_) (fun _ => rfl) rfl ?_
    refine S.pickAnd tOk zOk rfl rfl (by repeat first | exact allT_nil | refine allT_cons (fun h => h) ?_ | refine allT_cons (fun h => andl h) ?_ | refine allT_cons (fun h => andl (andl h)) ?_ | refine allT_cons (fun _ => rfl) ?_) ?_
    refine S.pure tOk zOk rfl rfl rfl ?_
    refine thenK_n ?_
    refine W.ret ?_
    exact ⟨_, rfl, rfl, LeV.of_eq (by rw [eachB, all_of_take hi f0_1]; rfl)⟩

theorem pc_ver_IsName_1 (c : Int) :
    PureCall Tryz.prog J 61 [.one (.d (.int .u8 c))] (.one (.d (.bool (nameC c)))) := by
  refine PureCall.of_body tOk (fn := Tryz.f61) Tryz.func61 (by kernel_rfl) rfl (Nat.le_of_ble_eq_true rfl) (fun E => ?_)
  refine W.seq ?_
  refine W.region ?_
  refine S.pure tOk zOk rfl rfl rfl ?_
  refine thenK_n ?_
  refine W.seq ?_
  refine W.region ?_
  refine S.pure tOk zOk rfl rfl rfl ?_
  refine S.call rfl rfl rfl rfl rfl (pc_ver_isSmall _) ?_
  refine S.pure tOk zOk rfl rfl rfl ?_
  refine S.pureG tOk zOk rfl rfl (by repeat first | exact allT_nil | refine allT_cons (fun h => h) ?_ | refine allT_cons (fun h => andl h) ?_ | refine allT_cons (fun h => andl (andl h)) ?_ | refine allT_cons (fun _ => rfl) ?_) (fun _ => rfl) rfl ?_
  refine S.callG rfl rfl rfl rfl (by repeat first | exact allT_nil | refine allT_cons (fun h => h) ?_ | refine allT_cons (fun h => andl h) ?_ | refine allT_cons (fun h => andl (andl h)) ?_ | refine allT_cons (fun _ => rfl) ?_) rfl rfl (fun _ => pc_ver_isDigit _) ?_
  refine S.pickOr tOk zOk rfl rfl (by repeat first | exact allT_nil | refine allT_cons (fun h => h) ?_ | refine allT_cons (fun h => andl h) ?_ | refine allT_cons (fun h => andl (andl h)) ?_ | refine allT_cons (fun _ => rfl) ?_) ?_
  refine S.pure tOk zOk rfl rfl rfl ?_
  refine S.pureG tOk zOk rfl rfl (by repeat first | exact allT_nil | refine allT_cons (fun h => h) ?_ | refine allT_cons (fun h => andl h) ?_ | refine allT_cons (fun h => andl (andl h)) ?_ | refine allT_cons (fun _ => rfl) ?_) (fun _ => rfl) rfl ?_
  refine S.pureG tOk zOk rfl rfl (by repeat first | exact allT_nil | refine allT_cons (fun h => h) ?_ | refine allT_cons (fun h => andl h) ?_ | refine allT_cons (fun h => andl (andl h)) ?_ | refine allT_cons (fun _ => rfl) ?_) (fun _ => rfl) rfl ?_
  refine S.pickOr tOk zOk rfl rfl (by repeat first | exact allT_nil | refine allT_cons (fun h => h) ?_ | refine allT_cons (fun h => andl h) ?_ | refine allT_cons (fun h => andl (andl h)) ?_ | refine allT_cons (fun _ => rfl) ?_) ?_
  refine S.pure tOk zOk rfl rfl rfl ?_
  refine S.pureG tOk zOk rfl rfl (by repeat first | exact allT_nil | refine allT_cons (fun h => h) ?_ | refine allT_cons (fun h => andl h) ?_ | refine allT_cons (fun h => andl (andl h)) ?_ | refine allT_cons (fun _ => rfl) ?_) (fun _ => rfl) rfl ?_
  refine S.pureG tOk zOk rfl rfl (by repeat first | exact allT_nil | refine allT_cons (fun h => h) ?_ | refine allT_cons (fun h => andl h) ?_ | refine allT_cons (fun h => andl (andl h)) ?_ | refine allT_cons (fun _ => rfl) ?_) (fun _ => rfl) rfl ?_
  refine S.pickOr tOk zOk rfl rfl (by repeat first | exact allT_nil | refine allT_cons (fun h => h) ?_ | refine allT_cons (fun h => andl h) ?_ | refine allT_cons (fun h => andl (andl h)) ?_ | refine allT_cons (fun _ => rfl) ?_) ?_
  refine S.pure tOk zOk rfl rfl rfl ?_
  refine thenK_n ?_
  refine W.ret ?_
  exact ⟨_, rfl, rfl, LeV.refl _⟩

theorem pc_ver_IsName (s : List UInt8) (hs : s.length ≤ 4611686018427387904) :
    PureCall Tryz.prog J 23 [.one (.d (.str s))] (.one (.d (.bool (nameB s)))) := by
  refine PureCall.of_body tOk (fn := Tryz.f23) Tryz.func23 (by kernel_rfl) rfl (Nat.le_of_ble_eq_true rfl) (fun E => ?_)
  refine W.seq ?_
  refine W.region ?_
  refine S.pure tOk zOk rfl rfl rfl ?_
  refine thenK_n ?_
  refine W.seq ?_
  refine W.region ?_
  refine S.pure tOk zOk rfl rfl rfl ?_
  refine S.call rfl rfl rfl rfl rfl (pc_ver_each _ _ _ _ (hs) (fun c => pc_ver_IsName_1 c)) ?_
  refine S.pure tOk zOk rfl rfl rfl ?_
  refine S.pureG tOk zOk rfl rfl (by repeat first | exact allT_nil | refine allT_cons (fun h => h) ?_ | refine allT_cons (fun h => andl h) ?_ | refine allT_cons (fun h => andl (andl h)) ?_ | refine allT_cons (fun _ => rfl) ?_) (fun _ => rfl) rfl ?_
  refine S.pureG tOk zOk rfl rfl (by repeat first | exact allT_nil | refine allT_cons (fun h => h) ?_ | refine allT_cons (fun h => andl h) ?_ | refine allT_cons (fun h => andl (andl h)) ?_ | refine allT_cons (fun _ => rfl) ?_) (fun h => idx_ok (Int.le_refl _) (eachB_pos h)) rfl ?_
  refine S.callG rfl rfl rfl rfl (by repeat first | exact allT_nil | refine allT_cons (fun h => h) ?_ | refine allT_cons (fun h => andl h) ?_ | refine allT_cons (fun h => andl (andl h)) ?_ | refine allT_cons (fun _ => rfl) ?_) rfl rfl (fun _ => pc_ver_isSmall _) ?_
  refine S.pickAnd tOk zOk rfl rfl (by repeat first | exact allT_nil | refine allT_cons (fun h => h) ?_ | refine allT_cons (fun h => andl h) ?_ | refine allT_cons (fun h => andl (andl h)) ?_ | refine allT_cons (fun _ => rfl) ?_) ?_
  refine S.pure tOk zOk rfl rfl rfl ?_
  refine thenK_n ?_
  refine W.ret ?_
  exact ⟨_, rfl, rfl, LeV.refl _⟩

theorem pc_ver_isPart_1 (c : Int) :
    PureCall Tryz.prog J 94 [.one (.d (.int .u8 c))] (.one (.d (.bool (partC' c)))) := by
  refine PureCall.of_body tOk (fn := Tryz.f94) Tryz.func94 (by kernel_rfl) rfl (Nat.le_of_ble_eq_true rfl) (fun E => ?_)
  refine W.seq ?_
  refine W.region ?_
  refine S.pure tOk zOk rfl rfl rfl ?_
  refine thenK_n ?_
  refine W.seq ?_
  refine W.region ?_
  refine S.pure tOk zOk rfl rfl rfl ?_
  refine S.call rfl rfl rfl rfl rfl (pc_ver_isSmall _) ?_
  refine S.pure tOk zOk rfl rfl rfl ?_
  refine S.pureG tOk zOk rfl rfl (by repeat first | exact allT_nil | refine allT_cons (fun h => h) ?_ | refine allT_cons (fun h => andl h) ?_ | refine allT_cons (fun h => andl (andl h)) ?_ | refine allT_cons (fun _ => rfl) ?_) (fun _ => rfl) rfl ?_
  refine S.pureG tOk zOk rfl rfl (by repeat first | exact allT_nil | refine allT_cons (fun h => h) ?_ | refine allT_cons (fun h => andl h) ?_ | refine allT_cons (fun h => andl (andl h)) ?_ | refine allT_cons (fun _ => rfl) ?_) (fun _ => rfl) rfl ?_
  refine S.pureG tOk zOk rfl rfl (by repeat first | exact allT_nil | refine allT_cons (fun h => h) ?_ | refine allT_cons (fun h => andl h) ?_ | refine allT_cons (fun h => andl (andl h)) ?_ | refine allT_cons (fun _ => rfl) ?_) (fun _ => rfl) rfl ?_
  refine S.pureG tOk zOk rfl rfl (by repeat first | exact allT_nil | refine allT_cons (fun h => h) ?_ | refine allT_cons (fun h => andl h) ?_ | refine allT_cons (fun h => andl (andl h)) ?_ | refine allT_cons (fun _ => rfl) ?_) (fun _ => rfl) rfl ?_
  refine S.pureG tOk zOk rfl rfl (by repeat first | exact allT_nil | refine allT_cons (fun h => h) ?_ | refine allT_cons (fun h => andl h) ?_ | refine allT_cons (fun h => andl (andl h)) ?_ | refine allT_cons (fun _ => rfl) ?_) (fun _ => rfl) rfl ?_
  refine S.pickAndG tOk zOk rfl rfl rfl (by repeat first | exact allT_nil | refine allT_cons (fun h => h) ?_ | refine allT_cons (fun h => andl h) ?_ | refine allT_cons (fun h => andl (andl h)) ?_ | refine allT_cons (fun _ => rfl) ?_) (by repeat first | exact allT_nil | refine allT_cons (fun h => h) ?_ | refine allT_cons (fun h => andl h) ?_ | refine allT_cons (fun h => andl (andl h)) ?_ | refine allT_cons (fun _ => rfl) ?_) ?_
  refine S.pickOr tOk zOk rfl rfl (by repeat first | exact allT_nil | refine allT_cons (fun h => h) ?_ | refine allT_cons (fun h => andl h) ?_ | refine allT_cons (fun h => andl (andl h)) ?_ | refine allT_cons (fun _ => rfl) ?_) ?_
  refine S.pure tOk zOk rfl rfl rfl ?_
  refine S.pureG tOk zOk rfl rfl (by repeat first | exact allT_nil | refine allT_cons (fun h => h) ?_ | refine allT_cons (fun h => andl h) ?_ | refine allT_cons (fun h => andl (andl h)) ?_ | refine allT_cons (fun _ => rfl) ?_) (fun _ => rfl) rfl ?_
  refine S.callG rfl rfl rfl rfl (by repeat first | exact allT_nil | refine allT_cons (fun h => h) ?_ | refine allT_cons (fun h => andl h) ?_ | refine allT_cons (fun h => andl (andl h)) ?_ | refine allT_cons (fun _ => rfl) ?_) rfl rfl (fun _ => pc_ver_isDigit _) ?_
  refine S.pickOr tOk zOk rfl rfl (by repeat first | exact allT_nil | refine allT_cons (fun h => h) ?_ | refine allT_cons (fun h => andl h) ?_ | refine allT_cons (fun h => andl (andl h)) ?_ | refine allT_cons (fun _ => rfl) ?_) ?_
  refine S.pure tOk zOk rfl rfl rfl ?_
  refine S.pureG tOk zOk rfl rfl (by repeat first | exact allT_nil | refine allT_cons (fun h => h) ?_ | refine allT_cons (fun h => andl h) ?_ | refine allT_cons (fun h => andl (andl h)) ?_ | refine allT_cons (fun _ => rfl) ?_) (fun _ => rfl) rfl ?_
  refine S.pureG tOk zOk rfl rfl (by repeat first | exact allT_nil | refine allT_cons (fun h => h) ?_ | refine allT_cons (fun h => andl h) ?_ | refine allT_cons (fun h => andl (andl h)) ?_ | refine allT_cons (fun _ => rfl) ?_) (fun _ => rfl) rfl ?_
  refine S.pickOr tOk zOk rfl rfl (by repeat first | exact allT_nil | refine allT_cons (fun h => h) ?_ | refine allT_cons (fun h => andl h) ?_ | refine allT_cons (fun h => andl (andl h)) ?_ | refine allT_cons (fun _ => rfl) ?_) ?_
  refine S.pure tOk zOk rfl rfl rfl ?_
  refine S.pureG tOk zOk rfl rfl (by repeat first | exact allT_nil | refine allT_cons (fun h => h) ?_ | refine allT_cons (fun h => andl h) ?_ | refine allT_cons (fun h => andl (andl h)) ?_ | refine allT_cons (fun _ => rfl) ?_) (fun _ => rfl) rfl ?_
  refine S.pureG tOk zOk rfl rfl (by repeat first | exact allT_nil | refine allT_cons (fun h => h) ?_ | refine allT_cons (fun h => andl h) ?_ | refine allT_cons (fun h => andl (andl h)) ?_ | refine allT_cons (fun _ => rfl) ?_) (fun _ => rfl) rfl ?_
  refine S.pickOr tOk zOk rfl rfl (by repeat first | exact allT_nil | refine allT_cons (fun h => h) ?_ | refine allT_cons (fun h => andl h) ?_ | refine allT_cons (fun h => andl (andl h)) ?_ | refine allT_cons (fun _ => rfl) ?_) ?_
  refine S.pure tOk zOk rfl rfl rfl ?_
  refine S.pureG tOk zOk rfl rfl (by repeat first | exact allT_nil | refine allT_cons (fun h => h) ?_ | refine allT_cons (fun h => andl h) ?_ | refine allT_cons (fun h => andl (andl h)) ?_ | refine allT_cons (fun _ => rfl) ?_) (fun _ => rfl) rfl ?_
  refine S.pureG tOk zOk rfl rfl (by repeat first | exact allT_nil | refine allT_cons (fun h => h) ?_ | refine allT_cons (fun h => andl h) ?_ | refine allT_cons (fun h => andl (andl h)) ?_ | refine allT_cons (fun _ => rfl) ?_) (fun _ => rfl) rfl ?_
  refine S.pickOr tOk zOk rfl rfl (by repeat first | exact allT_nil | refine allT_cons (fun h => h) ?_ | refine allT_cons (fun h => andl h) ?_ | refine allT_cons (fun h => andl (andl h)) ?_ | refine allT_cons (fun _ => rfl) ?_) ?_
  refine S.pure tOk zOk rfl rfl rfl ?_
  refine thenK_n ?_
  refine W.ret ?_
  exact ⟨_, rfl, rfl, LeV.refl _⟩

theorem pc_ver_isPart (s : List UInt8) (hs : s.length < 4294967281) :
    PureCall Tryz.prog J 64 [.one (.d (.str s))] (.one (.d (.bool (partB s)))) := by
  refine PureCall.of_body tOk (fn := Tryz.f64) Tryz.func64 (by kernel_rfl) rfl (Nat.le_of_ble_eq_true rfl) (fun E => ?_)
  refine W.seq ?_
  refine W.region ?_
  refine S.pure tOk zOk rfl rfl rfl ?_
  refine thenK_n ?_
  refine W.seq ?_
  refine W.region ?_
  refine S.pure tOk zOk rfl rfl rfl ?_
  refine thenK_n ?_
  refine W.seq ?_
  refine W.region ?_
  refine S.pure tOk zOk rfl rfl rfl ?_
  refine S.pure tOk zOk rfl rfl rfl ?_
  refine S.call rfl rfl rfl rfl rfl (pc_ver_each _ _ _ _ (by omega) (fun c => pc_ver_isPart_1 c)) ?_
  refine S.pure tOk zOk rfl rfl rfl ?_
  refine S.pureG tOk zOk rfl rfl (by repeat first | exact allT_nil | refine allT_cons (fun h => h) ?_ | refine allT_cons (fun h => andl h) ?_ | refine allT_cons (fun h => andl (andl h)) ?_ | refine allT_cons (fun _ => rfl) ?_) (fun _ => rfl) rfl ?_
  refine S.pureG tOk zOk rfl rfl (by repeat first | exact allT_nil | refine allT_cons (fun h => h) ?_ | refine allT_cons (fun h => andl h) ?_ | refine allT_cons (fun h => andl (andl h)) ?_ | refine allT_cons (fun _ => rfl) ?_) (fun _ => rfl) rfl ?_
  refine S.pickAnd tOk zOk rfl rfl (by repeat first | exact allT_nil | refine allT_cons (fun h => h) ?_ | refine allT_cons (fun h => andl h) ?_ | refine allT_cons (fun h => andl (andl h)) ?_ | refine allT_cons (fun _ => rfl) ?_) ?_
  refine S.pure tOk zOk rfl rfl rfl ?_
  refine S.pureG tOk zOk rfl rfl (by repeat first | exact allT_nil | refine allT_cons (fun h => h) ?_ | refine allT_cons (fun h => andl h) ?_ | refine allT_cons (fun h => andl (andl h)) ?_ | refine allT_cons (fun _ => rfl) ?_) (fun _ => rfl) rfl ?_
  refine S.pureG tOk zOk rfl rfl (by repeat first | exact allT_nil | refine allT_cons (fun h => h) ?_ | refine allT_cons (fun h => andl h) ?_ | refine allT_cons (fun h => andl (andl h)) ?_ | refine allT_cons (fun _ => rfl) ?_) (fun _ => rfl) rfl ?_
  refine S.pickAnd tOk zOk rfl rfl (by repeat first | exact allT_nil | refine allT_cons (fun h => h) ?_ | refine allT_cons (fun h => andl h) ?_ | refine allT_cons (fun h => andl (andl h)) ?_ | refine allT_cons (fun _ => rfl) ?_) ?_
  refine S.pure tOk zOk rfl rfl rfl ?_
  refine thenK_n ?_
  refine W.ret ?_
  exact ⟨_, rfl, rfl, LeV.refl _⟩

theorem pc_ver_IsPath (s : List UInt8) (hs : s.length < 4294967281) :
    PureCall Tryz.prog J 25 [.one (.d (.str s))] (.one (.d (.bool (pathB s)))) := by
  have hl := split_le s [47]
  have hm := fun i => @split_at s [47] i
  refine PureCall.of_body tOk (fn := Tryz.f25) Tryz.func25 (by kernel_rfl) rfl (Nat.le_of_ble_eq_true rfl) (fun E => ?_)
  refine W.seq ?_
  refine W.region ?_
  refine S.pure tOk zOk rfl rfl rfl ?_
  refine thenK_n ?_
  refine W.seq ?_
  refine W.seq ?_
  refine W.region ?_
  refine S.pure tOk zOk rfl rfl rfl ?_
  refine S.call rfl rfl rfl rfl rfl (pc_Split _ _ hs (by decide)) ?_
  refine S.pure tOk zOk rfl rfl rfl ?_
  refine S.pure tOk zOk rfl rfl rfl ?_
  refine thenK_n ?_
  refine W.block ?_
  refine W.loop (fun k st => ∃ i : Nat, i ≤ (Lib.split s [47]).length ∧ ((Lib.split s [47]).take i).all partB = true ∧ k = (Lib.split s [47]).length - i ∧ ∃ t b2, st = ⟨t, [] ++ b2, [], []⟩ ∧ holdsL t [(0, .one (.d (.str s))), (6, .one (.d (.vec 1 ((Lib.split s [47]).map fun x => [.str x])))), (7, .one (.d (.int .i64 (((Lib.split s [47]).map fun x => ([.str x] : List D)).length : Int)))), (8, .one (.d (.int .i64 (i : Int))))]) ((Lib.split s [47]).length) ⟨0, Nat.zero_le _, by simp, rfl, _, _, rfl, rfl, rfl, rfl, rfl, trivial⟩ ?_
  rintro k0 _ ⟨i, f0_0, f0_1, rfl, t0, bb0, rfl, hh0⟩
  refine W.keepD _ _ _ hh0 rfl ?_
  refine W.seq ?_
  refine W.region ?_
  refine S.pure tOk zOk rfl rfl rfl ?_
  refine thenK_n ?_
  refine W.seq ?_
  refine W.cond rfl (fun c1 => ?_) (fun c1 => ?_)
  · skip
    have hi := row_lt c1
    refine W.skip ?_
    refine thenK_n ?_
    refine W.seq ?_
    refine W.block ?_
    refine W.seq ?_
    refine W.region ?_
    refine S.pureE tOk zOk rfl (row_ok hi) (row_at [] hi) rfl ?_
    refine S.pure tOk zOk rfl rfl rfl ?_
    refine S.pure tOk zOk rfl rfl rfl ?_
    refine thenK_n ?_
    refine W.seq ?_
    refine W.region ?_
    refine S.pure tOk zOk rfl rfl rfl ?_
    refine S.call rfl rfl rfl rfl rfl (pc_ver_isPart _ (by have := hm i; omega)) ?_
    refine S.pure tOk zOk rfl rfl rfl ?_
    refine thenK_n ?_
    refine W.cond rfl (fun c2 => ?_) (fun c2 => ?_)
    · skip
      refine W.seq ?_
      refine W.region ?_
      refine S.pure tOk zOk rfl rfl rfl ?_
      refine thenK_n ?_
      refine W.ret ?_
      refine blockK_r ?_
      refine thenK_r ?_
      refine thenK_r ?_
      refine blockK_r ?_
      refine thenK_r ?_
      exact ⟨_, rfl, rfl, LeV.of_eq (by rw [pathB, all_false_of (d := []) hi (by simpa using c2)]; rfl)⟩
    · skip
      refine W.skip ?_
      refine blockK_n ?_
      refine thenK_n ?_
      refine W.region ?_
      refine S.pure tOk zOk rfl rfl rfl ?_
      refine S.pure tOk zOk rfl rfl rfl ?_
      refine loop_n ((Lib.split s [47]).length - (i + 1)) (by omega) ⟨i + 1, hi, all_take_succ (d := []) hi f0_1 (by simpa using c2), rfl, _, _, rfl, rfl, rfl, rfl, inc_i64 (by omega), trivial⟩
  · skip
    have hi := row_ge c1
    refine W.exit ?_
    refine thenK_e ?_
    refine thenK_e ?_
    refine blockK_x ?_
    refine thenK_n ?_
    refine W.seq ?_
    refine W.region ?_
    refine S.pure tOk zOk rfl rfl rfl ?_
    refine S.pure tOk zOk rfl rfl rfl ?_
    refine S.pure tOk zOk rfl rfl rfl ?_
    refine S.pure tOk zOk rfl rfl rfl ?_
    refine thenK_n ?_
    refine W.ret ?_
    exact ⟨_, rfl, rfl, LeV.of_eq (by rw [pathB, all_of_take hi f0_1]; rfl)⟩

theorem pc_ver_IsValue_1 (c : Int) :
    PureCall Tryz.prog J 65 [.one (.d (.int .u8 c))] (.one (.d (.bool (valueC c)))) := by
  refine PureCall.of_body tOk (fn := Tryz.f65) Tryz.func65 (by kernel_rfl) rfl (Nat.le_of_ble_eq_true rfl) (fun E => ?_)
  refine W.seq ?_
  refine W.region ?_
  refine S.pure tOk zOk rfl rfl rfl ?_
  refine thenK_n ?_
  refine W.seq ?_
  refine W.region ?_
  refine S.pure tOk zOk rfl rfl rfl ?_
  refine S.pure tOk zOk rfl rfl rfl ?_
  refine S.pure tOk zOk rfl rfl rfl ?_
  refine S.pureG tOk zOk rfl rfl (by repeat first | exact allT_nil | refine allT_cons (fun h => h) ?_ | refine allT_cons (fun h => andl h) ?_ | refine allT_cons (fun h => andl (andl h)) ?_ | refine allT_cons (fun _ => rfl) ?_) (fun _ => rfl) rfl ?_
  refine S.pureG tOk zOk rfl rfl (by repeat first | exact allT_nil | refine allT_cons (fun h => h) ?_ | refine allT_cons (fun h => andl h) ?_ | refine allT_cons (fun h => andl (andl h)) ?_ | refine allT_cons (fun _ => rfl) ?_) (fun _ => rfl) rfl ?_
  refine S.pickAnd tOk zOk rfl rfl (by repeat first | exact allT_nil | refine allT_cons (fun h => h) ?_ | refine allT_cons (fun h => andl h) ?_ | refine allT_cons (fun h => andl (andl h)) ?_ | refine allT_cons (fun _ => rfl) ?_) ?_
  refine S.pure tOk zOk rfl rfl rfl ?_
  refine thenK_n ?_
  refine W.ret ?_
  exact ⟨_, rfl, rfl, LeV.refl _⟩

theorem pc_ver_IsValue (s : List UInt8) (hs : s.length < 4294967281) :
    PureCall Tryz.prog J 27 [.one (.d (.str s))] (.one (.d (.bool (valueB s)))) := by
  refine PureCall.of_body tOk (fn := Tryz.f27) Tryz.func27 (by kernel_rfl) rfl (Nat.le_of_ble_eq_true rfl) (fun E => ?_)
  refine W.seq ?_
  refine W.region ?_
  refine S.pure tOk zOk rfl rfl rfl ?_
  refine thenK_n ?_
  refine W.seq ?_
  refine W.region ?_
  refine S.pure tOk zOk rfl rfl rfl ?_
  refine S.pure tOk zOk rfl rfl rfl ?_
  refine S.pure tOk zOk rfl rfl rfl ?_
  refine S.pureG tOk zOk rfl rfl (by repeat first | exact allT_nil | refine allT_cons (fun h => h) ?_ | refine allT_cons (fun h => andl h) ?_ | refine allT_cons (fun h => andl (andl h)) ?_ | refine allT_cons (fun _ => rfl) ?_) (fun _ => rfl) rfl ?_
  refine S.callG rfl rfl rfl rfl (by repeat first | exact allT_nil | refine allT_cons (fun h => h) ?_ | refine allT_cons (fun h => andl h) ?_ | refine allT_cons (fun h => andl (andl h)) ?_ | refine allT_cons (fun _ => rfl) ?_) rfl rfl (fun _ => pc_ver_each _ _ _ _ (by omega) (fun c => pc_ver_IsValue_1 c)) ?_
  refine S.pickOr tOk zOk rfl rfl (by repeat first | exact allT_nil | refine allT_cons (fun h => h) ?_ | refine allT_cons (fun h => andl h) ?_ | refine allT_cons (fun h => andl (andl h)) ?_ | refine allT_cons (fun _ => rfl) ?_) ?_
  refine S.pure tOk zOk rfl rfl rfl ?_
  refine thenK_n ?_
  refine W.ret ?_
  exact ⟨_, rfl, rfl, LeV.refl _⟩

theorem pc_ver_isNumeral (s : List UInt8) (hs : s.length < 4294967281) :
    PureCall Tryz.prog J 93 [.one (.d (.str s))] (.one (.d (.bool (numeralB s)))) := by
  refine PureCall.of_body tOk (fn := Tryz.f93) Tryz.func93 (by kernel_rfl) rfl (Nat.le_of_ble_eq_true rfl) (fun E => ?_)
  refine W.seq ?_
  refine W.region ?_
  refine S.pure tOk zOk rfl rfl rfl ?_
  refine thenK_n ?_
  refine W.seq ?_
  refine W.region ?_
  refine S.pure tOk zOk rfl rfl rfl ?_
  refine S.call rfl rfl rfl rfl rfl (pc_ver_each _ _ _ _ (by omega) (fun c => pc_ver_isDigit c)) ?_
  refine S.pure tOk zOk rfl rfl rfl ?_
  refine thenK_n ?_
  refine W.ret ?_
  exact ⟨_, rfl, rfl, LeV.refl _⟩

theorem pc_ver_isEarly_1 (c : Int) :
    PureCall Tryz.prog J 92 [.one (.d (.int .u8 c))] (.one (.d (.bool (earlyC c)))) := by
  refine PureCall.of_body tOk (fn := Tryz.f92) Tryz.func92 (by kernel_rfl) rfl (Nat.le_of_ble_eq_true rfl) (fun E => ?_)
  refine W.seq ?_
  refine W.region ?_
  refine S.pure tOk zOk rfl rfl rfl ?_
  refine thenK_n ?_
  refine W.seq ?_
  refine W.region ?_
  refine S.pure tOk zOk rfl rfl rfl ?_
  refine S.call rfl rfl rfl rfl rfl (pc_ver_isSmall _) ?_
  refine S.pure tOk zOk rfl rfl rfl ?_
  refine S.pureG tOk zOk rfl rfl (by repeat first | exact allT_nil | refine allT_cons (fun h => h) ?_ | refine allT_cons (fun h => andl h) ?_ | refine allT_cons (fun h => andl (andl h)) ?_ | refine allT_cons (fun _ => rfl) ?_) (fun _ => rfl) rfl ?_
  refine S.callG rfl rfl rfl rfl (by repeat first | exact allT_nil | refine allT_cons (fun h => h) ?_ | refine allT_cons (fun h => andl h) ?_ | refine allT_cons (fun h => andl (andl h)) ?_ | refine allT_cons (fun _ => rfl) ?_) rfl rfl (fun _ => pc_ver_isDigit _) ?_
  refine S.pickOr tOk zOk rfl rfl (by repeat first | exact allT_nil | refine allT_cons (fun h => h) ?_ | refine allT_cons (fun h => andl h) ?_ | refine allT_cons (fun h => andl (andl h)) ?_ | refine allT_cons (fun _ => rfl) ?_) ?_
  refine S.pure tOk zOk rfl rfl rfl ?_
  refine thenK_n ?_
  refine W.ret ?_
  exact ⟨_, rfl, rfl, LeV.refl _⟩

theorem pc_ver_isEarly (s : List UInt8) (hs : s.length < 4294967281) :
    PureCall Tryz.prog J 59 [.one (.d (.str s))] (.one (.d (.bool (earlyB s)))) := by
  have hl := split_le s [46]
  have hm := fun i => @split_at s [46] i
  refine PureCall.of_body tOk (fn := Tryz.f59) Tryz.func59 (by kernel_rfl) rfl (Nat.le_of_ble_eq_true rfl) (fun E => ?_)
  refine W.seq ?_
  refine W.region ?_
  refine S.pure tOk zOk rfl rfl rfl ?_
  refine thenK_n ?_
  refine W.seq ?_
  refine W.seq ?_
  refine W.region ?_
  refine S.pure tOk zOk rfl rfl rfl ?_
  refine S.call rfl rfl rfl rfl rfl (pc_Split _ _ hs (by decide)) ?_
  refine S.pure tOk zOk rfl rfl rfl ?_
  refine S.pure tOk zOk rfl rfl rfl ?_
  refine thenK_n ?_
  refine W.block ?_
  refine W.loop (fun k st => ∃ i : Nat, i ≤ (Lib.split s [46]).length ∧ ((Lib.split s [46]).take i).all wordB = true ∧ k = (Lib.split s [46]).length - i ∧ ∃ t b2, st = ⟨t, [] ++ b2, [], []⟩ ∧ holdsL t [(0, .one (.d (.str s))), (6, .one (.d (.vec 1 ((Lib.split s [46]).map fun x => [.str x])))), (7, .one (.d (.int .i64 (((Lib.split s [46]).map fun x => ([.str x] : List D)).length : Int)))), (8, .one (.d (.int .i64 (i : Int))))]) ((Lib.split s [46]).length) ⟨0, Nat.zero_le _, by simp, rfl, _, _, rfl, rfl, rfl, rfl, rfl, trivial⟩ ?_
  rintro k0 _ ⟨i, f0_0, f0_1, rfl, t0, bb0, rfl, hh0⟩
  refine W.keepD _ _ _ hh0 rfl ?_
  refine W.seq ?_
  refine W.region ?_
  refine S.pure tOk zOk rfl rfl rfl ?_
  refine thenK_n ?_
  refine W.seq ?_
  refine W.cond rfl (fun c1 => ?_) (fun c1 => ?_)
  · skip
    have hi := row_lt c1
    refine W.skip ?_
    refine thenK_n ?_
    refine W.seq ?_
    refine W.block ?_
    refine W.seq ?_
    refine W.region ?_
    refine S.pureE tOk zOk rfl (row_ok hi) (row_at [] hi) rfl ?_
    refine S.pure tOk zOk rfl rfl rfl ?_
    refine S.pure tOk zOk rfl rfl rfl ?_
    refine thenK_n ?_
    refine W.seq ?_
    refine W.region ?_
    refine S.pure tOk zOk rfl rfl rfl ?_
    refine S.call rfl rfl rfl rfl rfl (pc_ver_each _ _ _ _ (by have := hm i; omega) (fun c => pc_ver_isEarly_1 c)) ?_
    refine S.pure tOk zOk rfl rfl rfl ?_
    refine S.pure tOk zOk rfl rfl rfl ?_
    refine S.pureG tOk zOk rfl rfl (by repeat first | exact allT_nil | refine allT_cons (fun h => h) ?_ | refine allT_cons (fun h => andl h) ?_ | refine allT_cons (fun h => andl (andl h)) ?_ | refine allT_cons (fun _ => rfl) ?_) (fun _ => rfl) rfl ?_
    refine S.callG rfl rfl rfl rfl (by repeat first | exact allT_nil | refine allT_cons (fun h => h) ?_ | refine allT_cons (fun h => andl h) ?_ | refine allT_cons (fun h => andl (andl h)) ?_ | refine allT_cons (fun _ => rfl) ?_) rfl rfl (fun _ => pc_ver_isNumeral _ (by have := hm i; omega)) ?_
    refine S.pureG tOk zOk rfl rfl (by repeat first | exact allT_nil | refine allT_cons (fun h => h) ?_ | refine allT_cons (fun h => andl h) ?_ | refine allT_cons (fun h => andl (andl h)) ?_ | refine allT_cons (fun _ => rfl) ?_) (fun _ => rfl) rfl ?_
    refine S.pureG tOk zOk rfl rfl (by repeat first | exact allT_nil | refine allT_cons (fun h => h) ?_ | refine allT_cons (fun h => andl h) ?_ | refine allT_cons (fun h => andl (andl h)) ?_ | refine allT_cons (fun _ => rfl) ?_) (fun _ => rfl) rfl ?_
    refine S.pureG tOk zOk rfl rfl (by repeat first | exact allT_nil | refine allT_cons (fun h => h) ?_ | refine allT_cons (fun h => andl h) ?_ | refine allT_cons (fun h => andl (andl h)) ?_ | refine allT_cons (fun _ => rfl) ?_) (fun h => idx_ok (Int.le_refl _) (eachB_pos (andr h))) rfl ?_
    refine S.pureG tOk zOk rfl rfl (by repeat first | exact allT_nil | refine allT_cons (fun h => h) ?_ | refine allT_cons (fun h => andl h) ?_ | refine allT_cons (fun h => andl (andl h)) ?_ | refine allT_cons (fun _ => rfl) ?_) (fun _ => rfl) rfl ?_
    refine S.pickAndG tOk zOk rfl rfl rfl (by repeat first | exact allT_nil | refine allT_cons (fun h => h) ?_ | refine allT_cons (fun h => andl h) ?_ | refine allT_cons (fun h => andl (andl h)) ?_ | refine allT_cons (fun _ => rfl) ?_) (by repeat first | exact allT_nil | refine allT_cons (fun h => h) ?_ | refine allT_cons (fun h => andl h) ?_ | refine allT_cons (fun h => andl (andl h)) ?_ | refine allT_cons (fun _ => rfl) ?_) ?_
    refine S.pureG tOk zOk rfl rfl (by repeat first | exact allT_nil | refine allT_cons (fun h => h) ?_ | refine allT_cons (fun h => andl h) ?_ | refine allT_cons (fun h => andl (andl h)) ?_ | refine allT_cons (fun _ => rfl) ?_) (fun _ => rfl) rfl ?_
    refine S.pureG tOk zOk rfl rfl (by repeat first | exact allT_nil | refine allT_cons (fun h => h) ?_ | refine allT_cons (fun h => andl h) ?_ | refine allT_cons (fun h => andl (andl h)) ?_ | refine allT_cons (fun _ => rfl) ?_) (fun _ => rfl) rfl ?_
    refine S.pureG tOk zOk rfl rfl (by repeat first | exact allT_nil | refine allT_cons (fun h => h) ?_ | refine allT_cons (fun h => andl h) ?_ | refine allT_cons (fun h => andl (andl h)) ?_ | refine allT_cons (fun _ => rfl) ?_) (fun _ => rfl) rfl ?_
    refine S.pickAndG tOk zOk rfl rfl rfl (by repeat first | exact allT_nil | refine allT_cons (fun h => h) ?_ | refine allT_cons (fun h => andl h) ?_ | refine allT_cons (fun h => andl (andl h)) ?_ | refine allT_cons (fun _ => rfl) ?_) (by repeat first | exact allT_nil | refine allT_cons (fun h => h) ?_ | refine allT_cons (fun h => andl h) ?_ | refine allT_cons (fun h => andl (andl h)) ?_ | refine allT_cons (fun _ => rfl) ?_) ?_
    refine S.pickOr tOk zOk rfl rfl (by repeat first | exact allT_nil | refine allT_cons (fun h => h) ?_ | refine allT_cons (fun h => andl h) ?_ | refine allT_cons (fun h => andl (andl h)) ?_ | refine allT_cons (fun _ => rfl) ?_) ?_
    refine thenK_n ?_
    refine W.cond rfl (fun c2 => ?_) (fun c2 => ?_)
    · skip
      refine W.seq ?_
      refine W.region ?_
      refine S.pure tOk zOk rfl rfl rfl ?_
      refine thenK_n ?_
      refine W.ret ?_
      refine blockK_r ?_
      refine thenK_r ?_
      refine thenK_r ?_
      refine blockK_r ?_
      refine thenK_r ?_
      exact ⟨_, rfl, rfl, LeV.of_eq (by rw [earlyB, all_false_of (d := []) hi (word_f c2)]; rfl)⟩
    · skip
      refine W.skip ?_
      refine blockK_n ?_
      refine thenK_n ?_
      refine W.region ?_
      refine S.pure tOk zOk rfl rfl rfl ?_
      refine S.pure tOk zOk rfl rfl rfl ?_
      refine loop_n ((Lib.split s [46]).length - (i + 1)) (by omega) ⟨i + 1, hi, all_take_succ (d := []) hi f0_1 (word_t c2), rfl, _, _, rfl, rfl, rfl, rfl, inc_i64 (by omega), trivial⟩
  · skip
    have hi := row_ge c1
    refine W.exit ?_
    refine thenK_e ?_
    refine thenK_e ?_
    refine blockK_x ?_
    refine thenK_n ?_
    refine W.seq ?_
    refine W.region ?_
    refine S.pure tOk zOk rfl rfl rfl ?_
    refine S.pure tOk zOk rfl rfl rfl ?_
    refine S.pure tOk zOk rfl rfl rfl ?_
    refine S.pure tOk zOk rfl rfl rfl ?_
    refine thenK_n ?_
    refine W.ret ?_
    exact ⟨_, rfl, rfl, LeV.of_eq (by rw [earlyB, all_of_take hi f0_1]; rfl)⟩

end Go.Proofs.YtepdjimbnbiicaaGreatDoor
