import Derived.Test.YtepdjimbnbiicaaGreatDoorW2
import Derived.Test.YtepdjimbnbiicaaGreatDoorV3
set_option linter.unusedVariables false
set_option linter.unusedSimpArgs false
set_option maxRecDepth 100000
namespace Go.Proofs.YtepdjimbnbiicaaGreatDoor
open Go
open Go.RowKit

theorem pc_outref2_In (n l h : Int) :
    PureCall Tryz.prog J 52 [.one (.d (.int .i64 n)), .one (.d (.int .i64 l)), .one (.d (.int .i64 h))] (.one (.d (.bool (inB n l h)))) := by
  refine PureCall.of_body tOk (fn := Tryz.f52) Tryz.func52 (by kernel_rfl) rfl (Nat.le_of_ble_eq_true rfl) (fun E => ?_)
  refine W.seq ?_
  refine W.region ?_
  refine S.pure tOk zOk rfl rfl rfl ?_
  refine thenK_n ?_
  refine W.seq ?_
  refine W.region ?_
  refine S.pure tOk zOk rfl rfl rfl ?_
  refine S.pure tOk zOk rfl rfl rfl ?_
  refine S.pure tOk zOk rfl rfl rfl ?_
  refine S.pure tOk zOk rfl rfl rfl ?_
  refine S.pureG tOk zOk rfl rfl (by repeat first | exact allT_nil | refine allT_cons (fun h => h) ?_ | refine allT_cons (fun h => andl h) ?_ | refine allT_cons (fun h => andl (andl h)) ?_ | refine allT_cons (fun _ => rfl) ?_) (fun _ => rfl) rfl ?_
  refine S.pureG tOk zOk rfl rfl (by repeat first | exact allT_nil | refine allT_cons (fun h => h) ?_ | refine allT_cons (fun h => andl h) ?_ | refine allT_cons (fun h => andl (andl h)) ?_ | refine allT_cons (fun _ => rfl) ?_) (fun _ => rfl) rfl ?_
  refine S.pureG tOk zOk rfl rfl (by repeat first | exact allT_nil | refine allT_cons (fun h => h) ?_ | refine allT_cons (fun h => andl h) ?_ | refine allT_cons (fun h => andl (andl h)) ?_ | refine allT_cons (fun _ => rfl) ?_) (fun _ => rfl) rfl ?_
  refine S.pickAnd tOk zOk rfl rfl (by repeat first | exact allT_nil | refine allT_cons (fun h => h) ?_ | refine allT_cons (fun h => andl h) ?_ | refine allT_cons (fun h => andl (andl h)) ?_ | refine allT_cons (fun _ => rfl) ?_) ?_
  refine S.pure tOk zOk rfl rfl rfl ?_
  refine thenK_n ?_
  refine W.ret ?_
  exact ⟨_, rfl, rfl, LeV.refl _⟩

theorem pc_outref2_When (b : Bool) (e : Int) :
    PureCall Tryz.prog J 57 [.one (.d (.bool b)), .one (.d (.int .i64 e))] (.one (.d (.int .i64 (if b then e else 0)))) := by
  refine PureCall.of_body tOk (fn := Tryz.f57) Tryz.func57 (by kernel_rfl) rfl (Nat.le_of_ble_eq_true rfl) (fun E => ?_)
  refine W.seq ?_
  refine W.region ?_
  refine S.pure tOk zOk rfl rfl rfl ?_
  refine thenK_n ?_
  refine W.seq ?_
  refine W.seq ?_
  refine W.region ?_
  refine S.pure tOk zOk rfl rfl rfl ?_
  refine thenK_n ?_
  refine W.cond rfl (fun c1 => ?_) (fun c1 => ?_)
  · skip
    refine W.seq ?_
    refine W.region ?_
    refine S.pure tOk zOk rfl rfl rfl ?_
    refine S.pure tOk zOk rfl rfl rfl ?_
    refine thenK_n ?_
    refine W.ret ?_
    refine thenK_r ?_
    exact ⟨_, rfl, rfl, LeV.of_force rfl (by simp_all [])⟩
  · skip
    refine W.skip ?_
    refine thenK_n ?_
    refine W.seq ?_
    refine W.region ?_
    refine S.pure tOk zOk rfl rfl rfl ?_
    refine thenK_n ?_
    refine W.ret ?_
    exact ⟨_, rfl, rfl, LeV.of_force rfl (by simp_all [])⟩

theorem pc_outref2_First (xs : List Int) (hl : xs.length ≤ 1000000) :
    PureCall Tryz.prog J 16 [.one (.d (.vec 1 (xs.map fun x => [.int .i64 x])))] (.one (.d (.int .i64 (firstNe xs)))) := by
  refine PureCall.of_body tOk (fn := Tryz.f16) Tryz.func16 (by kernel_rfl) rfl (Nat.le_of_ble_eq_true rfl) (fun E => ?_)
  refine W.seq ?_
  refine W.region ?_
  refine S.pure tOk zOk rfl rfl rfl ?_
  refine thenK_n ?_
  refine W.seq ?_
  refine W.seq ?_
  refine W.region ?_
  refine S.pure tOk zOk rfl rfl rfl ?_
  refine S.pure tOk zOk rfl rfl rfl ?_
  refine S.pure tOk zOk rfl rfl rfl ?_
  refine thenK_n ?_
  refine W.block ?_
  refine W.loop (fun k st => ∃ i : Nat, i ≤ xs.length ∧ (xs.take i).all (· == 0) = true ∧ k = xs.length - i ∧ ∃ t b2, st = ⟨t, [] ++ b2, [], []⟩ ∧ holdsL t [(5, .one (.d (.vec 1 (xs.map fun x => [.int .i64 x])))), (6, .one (.d (.int .i64 ((xs.map fun x => ([.int .i64 x] : List D)).length : Int)))), (7, .one (.d (.int .i64 (i : Int))))]) (xs.length) ⟨0, Nat.zero_le _, by simp, rfl, _, _, rfl, rfl, rfl, rfl, trivial⟩ ?_
  rintro k0 _ ⟨i, f0_0, f0_1, rfl, t0, bb0, rfl, hh0⟩
  refine W.keepD _ _ _ hh0 rfl ?_
  refine W.seq ?_
  refine W.region ?_
  refine S.pure tOk zOk rfl rfl rfl ?_
  refine thenK_n ?_
  refine W.seq ?_
  refine W.cond rfl (fun c1 => ?_) (fun c1 => ?_)
  · skip
    have hi := row_lt c1
    refine W.skip ?_
    refine thenK_n ?_
    refine W.seq ?_
    refine W.block ?_
    refine W.seq ?_
    refine W.region ?_
    refine S.pureE tOk zOk rfl (row_ok hi) (row_at 0 hi) rfl ?_
    refine S.pure tOk zOk rfl rfl rfl ?_
    refine S.pure tOk zOk rfl rfl rfl ?_
    refine thenK_n ?_
    refine W.seq ?_
    refine W.region ?_
    refine S.pure tOk zOk rfl rfl rfl ?_
    refine S.pure tOk zOk rfl rfl rfl ?_
    refine thenK_n ?_
    refine W.cond rfl (fun c2 => ?_) (fun c2 => ?_)
    · skip
      refine W.seq ?_
      refine W.region ?_
      refine S.pure tOk zOk rfl rfl rfl ?_
      refine S.pure tOk zOk rfl rfl rfl ?_
      refine thenK_n ?_
      refine W.ret ?_
      refine blockK_r ?_
      refine thenK_r ?_
      refine thenK_r ?_
      refine blockK_r ?_
      refine thenK_r ?_
      exact ⟨_, rfl, rfl, LeV.of_force rfl (by rw [firstNe_hit hi f0_1 (by simpa using c2)])⟩
    · skip
      refine W.skip ?_
      refine blockK_n ?_
      refine thenK_n ?_
      refine W.region ?_
      refine S.pure tOk zOk rfl rfl rfl ?_
      refine S.pure tOk zOk rfl rfl rfl ?_
      refine loop_n (xs.length - (i + 1)) (by omega) ⟨i + 1, hi, all_take_succ (d := 0) hi f0_1 (by simpa using c2), rfl, _, _, rfl, rfl, rfl, inc_i64 (by omega), trivial⟩
  · skip
    have hi := row_ge c1
    refine W.exit ?_
    refine thenK_e ?_
    refine thenK_e ?_
    refine blockK_x ?_
    refine thenK_n ?_
    refine W.seq ?_
    refine W.region ?_
    refine S.pure tOk zOk rfl rfl rfl ?_
    refine thenK_n ?_
    refine W.ret ?_
    exact ⟨_, rfl, rfl, LeV.of_force rfl (by rw [firstNe_none hi f0_1]; rfl)⟩

theorem pc_outref2_inner (s cs : List UInt8) (hs : s.length < 4294967281) :
    PureCall Tryz.prog J 90 [.one (.d (.str s)), .one (.d (.str cs))] (.one (.d (.bool (ofB s cs)))) := by
  refine PureCall.of_body tOk (fn := Tryz.f90) Tryz.func90 (by kernel_rfl) rfl (Nat.le_of_ble_eq_true rfl) (fun E => ?_)
  refine W.seq ?_
  refine W.region ?_
  refine S.pure tOk zOk rfl rfl rfl ?_
  refine thenK_n ?_
  refine W.seq ?_
  refine W.seq ?_
  refine W.region ?_
  refine S.pure tOk zOk rfl rfl rfl ?_
  refine S.pure tOk zOk rfl rfl rfl ?_
  refine S.pure tOk zOk rfl rfl rfl ?_
  refine thenK_n ?_
  refine W.block ?_
  refine W.loop (fun k st => ∃ i : Nat, i ≤ s.length ∧ (s.take i).all (fun c => cs.contains c) = true ∧ k = s.length - i ∧ ∃ t b2, st = ⟨t, [] ++ b2, [], []⟩ ∧ holdsL t [(0, .one (.d (.str s))), (1, .one (.d (.str cs))), (7, .one (.d (.int .i64 (s.length : Int)))), (8, .one (.d (.int .i64 (i : Int))))]) (s.length) ⟨0, Nat.zero_le _, by simp, rfl, _, _, rfl, rfl, rfl, rfl, rfl, trivial⟩ ?_
  rintro k0 _ ⟨i, f0_0, f0_1, rfl, t0, bb0, rfl, hh0⟩
  refine W.keepD _ _ _ hh0 rfl ?_
  refine W.seq ?_
  refine W.region ?_
  refine S.pure tOk zOk rfl rfl rfl ?_
  refine thenK_n ?_
  refine W.seq ?_
  refine W.cond rfl (fun c1 => ?_) (fun c1 => ?_)
  · skip
    have hi : i < s.length := by simpa using c1
    refine W.skip ?_
    refine thenK_n ?_
    refine W.seq ?_
    refine W.block ?_
    refine W.seq ?_
    refine W.region ?_
    refine S.pure tOk zOk rfl rfl rfl ?_
    refine S.pure tOk zOk rfl rfl rfl ?_
    refine thenK_n ?_
    refine W.seq ?_
    refine W.region ?_
    refine S.pure tOk zOk rfl rfl rfl ?_
    refine S.pure tOk zOk rfl rfl rfl ?_
    refine S.pure tOk zOk rfl rfl rfl ?_
    refine S.pure tOk zOk rfl (str_ok hi) rfl ?_
    refine S.call rfl rfl rfl rfl rfl (pc_IndexByte _ _) ?_
    refine S.pure tOk zOk rfl rfl rfl ?_
    refine thenK_n ?_
    refine W.cond rfl (fun c2 => ?_) (fun c2 => ?_)
    · skip
      refine W.seq ?_
      refine W.region ?_
      refine S.pure tOk zOk rfl rfl rfl ?_
      refine thenK_n ?_
      refine W.ret ?_
      refine blockK_r ?_
      refine thenK_r ?_
      refine thenK_r ?_
      refine blockK_r ?_
      refine thenK_r ?_
      exact ⟨_, rfl, rfl, LeV.of_force rfl (by rw [ofB, all_false_of (d := 0) hi (in_f c2)]; rfl)⟩
    · skip
      refine W.skip ?_
      refine blockK_n ?_
      refine thenK_n ?_
      refine W.region ?_
      refine S.pure tOk zOk rfl rfl rfl ?_
      refine S.pure tOk zOk rfl rfl rfl ?_
      refine loop_n (s.length - (i + 1)) (by omega) ⟨i + 1, by omega, all_take_succ (d := 0) (φ := fun c => cs.contains c) hi f0_1 (in_t c2), rfl, _, _, rfl, rfl, rfl, rfl, inc_i64 (by omega), trivial⟩
  · skip
    have hi : s.length ≤ i := by simpa using c1
    refine W.exit ?_
    refine thenK_e ?_
    refine thenK_e ?_
    refine blockK_x ?_
    refine thenK_n ?_
    refine W.seq ?_
    refine W.region ?_
    refine S.pure tOk zOk rfl rfl rfl ?_
    refine thenK_n ?_
    refine W.ret ?_
    exact ⟨_, rfl, rfl, LeV.of_force rfl (by rw [ofB, all_of_take hi f0_1]; rfl)⟩

theorem pc_outref2_Of (s cs : List UInt8) (hcs : cs.length < 4294967281) (ha : cs.all (fun b => decide (b.toNat < 128)) = true) (hs : s.length < 4294967281) :
    PureCall Tryz.prog J 54 [.one (.d (.str s)), .one (.d (.str cs))] (.one (.d (.bool (ofB s cs)))) := by
  refine PureCall.of_body tOk (fn := Tryz.f54) Tryz.func54 (by kernel_rfl) rfl (Nat.le_of_ble_eq_true rfl) (fun E => ?_)
  refine W.seq ?_
  refine W.region ?_
  refine S.pure tOk zOk rfl rfl rfl ?_
  refine thenK_n ?_
  refine W.seq ?_
  refine W.region ?_
  refine S.pure tOk zOk rfl rfl rfl ?_
  refine S.pure tOk zOk rfl rfl rfl ?_
  refine S.call rfl rfl rfl rfl rfl (pc_Trim _ _ (by omega) hcs ha) ?_
  refine S.pure tOk zOk rfl rfl rfl ?_
  refine S.pure tOk zOk rfl rfl rfl ?_
  refine S.pureG tOk zOk rfl rfl (by repeat first | exact allT_nil | refine allT_cons (fun h => h) ?_ | refine allT_cons (fun h => andl h) ?_ | refine allT_cons (fun h => andl (andl h)) ?_ | refine allT_cons (fun _ => rfl) ?_) (fun _ => rfl) rfl ?_
  refine S.pureG tOk zOk rfl rfl (by repeat first | exact allT_nil | refine allT_cons (fun h => h) ?_ | refine allT_cons (fun h => andl h) ?_ | refine allT_cons (fun h => andl (andl h)) ?_ | refine allT_cons (fun _ => rfl) ?_) (fun _ => rfl) rfl ?_
  refine S.callG rfl rfl rfl rfl (by repeat first | exact allT_nil | refine allT_cons (fun h => h) ?_ | refine allT_cons (fun h => andl h) ?_ | refine allT_cons (fun h => andl (andl h)) ?_ | refine allT_cons (fun _ => rfl) ?_) rfl rfl (fun _ => pc_outref2_inner _ _ (by omega)) ?_
  refine S.pickAnd tOk zOk rfl rfl (by repeat first | exact allT_nil | refine allT_cons (fun h => h) ?_ | refine allT_cons (fun h => andl h) ?_ | refine allT_cons (fun h => andl (andl h)) ?_ | refine allT_cons (fun _ => rfl) ?_) ?_
  refine S.pure tOk zOk rfl rfl rfl ?_
  refine thenK_n ?_
  refine W.ret ?_
  exact ⟨_, rfl, rfl, LeV.of_eq (congrArg (fun b => V.one (C.d (D.bool b))) (of_eq s cs))⟩

theorem pc_outref2_NameOf (s : List UInt8) (hs : s.length < 4294967281) :
    PureCall Tryz.prog J 24 [.one (.d (.str s))] (.one (.d (.bool (nameB s)))) := by
  refine PureCall.of_body tOk (fn := Tryz.f24) Tryz.func24 (by kernel_rfl) rfl (Nat.le_of_ble_eq_true rfl) (fun E => ?_)
  refine W.seq ?_
  refine W.region ?_
  refine S.pure tOk zOk rfl rfl rfl ?_
  refine thenK_n ?_
  refine W.seq ?_
  refine W.region ?_
  refine S.pure tOk zOk rfl rfl rfl ?_
  refine S.pure tOk zOk rfl rfl rfl ?_
  refine S.pure tOk zOk rfl rfl rfl ?_
  refine S.pureG tOk zOk rfl rfl (by repeat first | exact allT_nil | refine allT_cons (fun h => h) ?_ | refine allT_cons (fun h => andl h) ?_ | refine allT_cons (fun h => andl (andl h)) ?_ | refine allT_cons (fun _ => rfl) ?_) (fun _ => rfl) rfl ?_
  refine S.pureG tOk zOk rfl rfl (by repeat first | exact allT_nil | refine allT_cons (fun h => h) ?_ | refine allT_cons (fun h => andl h) ?_ | refine allT_cons (fun h => andl (andl h)) ?_ | refine allT_cons (fun _ => rfl) ?_) (fun _ => rfl) rfl ?_
  refine S.pureG tOk zOk rfl rfl (by repeat first | exact allT_nil | refine allT_cons (fun h => h) ?_ | refine allT_cons (fun h => andl h) ?_ | refine allT_cons (fun h => andl (andl h)) ?_ | refine allT_cons (fun _ => rfl) ?_) (fun _ => rfl) rfl ?_
  refine S.pickAnd tOk zOk rfl rfl (by repeat first | exact allT_nil | refine allT_cons (fun h => h) ?_ | refine allT_cons (fun h => andl h) ?_ | refine allT_cons (fun h => andl (andl h)) ?_ | refine allT_cons (fun _ => rfl) ?_) ?_
  refine S.pure tOk zOk rfl rfl rfl ?_
  refine S.pureG tOk zOk rfl rfl (by repeat first | exact allT_nil | refine allT_cons (fun h => h) ?_ | refine allT_cons (fun h => andl h) ?_ | refine allT_cons (fun h => andl (andl h)) ?_ | refine allT_cons (fun _ => rfl) ?_) (fun _ => rfl) rfl ?_
  refine S.callG rfl rfl rfl rfl (by repeat first | exact allT_nil | refine allT_cons (fun h => h) ?_ | refine allT_cons (fun h => andl h) ?_ | refine allT_cons (fun h => andl (andl h)) ?_ | refine allT_cons (fun _ => rfl) ?_) rfl rfl (fun _ => pc_outref2_Of _ nameS (by decide) (by decide) (by omega)) ?_
  refine S.pickAnd tOk zOk rfl rfl (by repeat first | exact allT_nil | refine allT_cons (fun h => h) ?_ | refine allT_cons (fun h => andl h) ?_ | refine allT_cons (fun h => andl (andl h)) ?_ | refine allT_cons (fun _ => rfl) ?_) ?_
  refine S.pure tOk zOk rfl rfl rfl ?_
  refine S.pureG tOk zOk rfl rfl (by repeat first | exact allT_nil | refine allT_cons (fun h => h) ?_ | refine allT_cons (fun h => andl h) ?_ | refine allT_cons (fun h => andl (andl h)) ?_ | refine allT_cons (fun _ => rfl) ?_) (fun _ => rfl) rfl ?_
  refine S.pureG tOk zOk rfl rfl (by repeat first | exact allT_nil | refine allT_cons (fun h => h) ?_ | refine allT_cons (fun h => andl h) ?_ | refine allT_cons (fun h => andl (andl h)) ?_ | refine allT_cons (fun _ => rfl) ?_) (fun h => sl_okT (l := 0) (h := 1) rfl rfl (by decide) (by decide) (name_len h)) rfl ?_
  refine S.callG rfl rfl rfl rfl (by repeat first | exact allT_nil | refine allT_cons (fun h => h) ?_ | refine allT_cons (fun h => andl h) ?_ | refine allT_cons (fun h => andl (andl h)) ?_ | refine allT_cons (fun _ => rfl) ?_) rfl rfl (fun _ => pc_outref2_Of _ smallS (by decide) (by decide) (by simp; omega)) ?_
  refine S.pickAnd tOk zOk rfl rfl (by repeat first | exact allT_nil | refine allT_cons (fun h => h) ?_ | refine allT_cons (fun h => andl h) ?_ | refine allT_cons (fun h => andl (andl h)) ?_ | refine allT_cons (fun _ => rfl) ?_) ?_
  refine S.pure tOk zOk rfl rfl rfl ?_
  refine thenK_n ?_
  refine W.ret ?_
  exact ⟨_, rfl, rfl, LeV.of_force rfl (by rw [← nameR s]; rfl)⟩

theorem pc_outref2_PathOf (s : List UInt8) (hs : s.length < 4294967281) :
    PureCall Tryz.prog J 26 [.one (.d (.str s))] (.one (.d (.bool (pathB s)))) := by
  have hl := split_le s [47]
  have hm := fun i => @split_at s [47] i
  refine PureCall.of_body tOk (fn := Tryz.f26) Tryz.func26 (by kernel_rfl) rfl (Nat.le_of_ble_eq_true rfl) (fun E => ?_)
  refine W.seq ?_
  refine W.region ?_
  refine S.pure tOk zOk rfl rfl rfl ?_
  refine thenK_n ?_
  refine W.seq ?_
  refine W.seq ?_
  refine W.region ?_
  refine S.pure tOk zOk rfl rfl rfl ?_
  refine S.pure tOk zOk rfl rfl rfl ?_
  refine S.pure tOk zOk rfl rfl rfl ?_
  refine thenK_n ?_
  refine W.cond rfl (fun c1 => ?_) (fun c1 => ?_)
  · skip
    refine W.seq ?_
    refine W.region ?_
    refine S.pure tOk zOk rfl rfl rfl ?_
    refine thenK_n ?_
    refine W.ret ?_
    refine thenK_r ?_
    exact ⟨_, rfl, rfl, LeV.of_force rfl (by rw [pathB, Bool.and_comm, not_le_of c1]; rfl)⟩
  · skip
    refine W.skip ?_
    refine thenK_n ?_
    refine W.seq ?_
    refine W.seq ?_
    refine W.region ?_
    refine S.pure tOk zOk rfl rfl rfl ?_
    refine S.call rfl rfl rfl rfl rfl (pc_Split _ _ hs (by decide)) ?_
    refine S.pure tOk zOk rfl rfl rfl ?_
    refine S.pure tOk zOk rfl rfl rfl ?_
    refine thenK_n ?_
    refine W.block ?_
    refine W.loop (fun k st => ∃ i : Nat, i ≤ (Lib.split s [47]).length ∧ ((Lib.split s [47]).take i).all partB = true ∧ k = (Lib.split s [47]).length - i ∧ ∃ t b2, st = ⟨t, [] ++ b2, [], []⟩ ∧ holdsL t [(9, .one (.d (.vec 1 ((Lib.split s [47]).map fun x => [.str x])))), (10, .one (.d (.int .i64 (((Lib.split s [47]).map fun x => ([.str x] : List D)).length : Int)))), (11, .one (.d (.int .i64 (i : Int))))]) ((Lib.split s [47]).length) ⟨0, Nat.zero_le _, by simp, rfl, _, _, rfl, rfl, rfl, rfl, trivial⟩ ?_
    rintro k0 _ ⟨i, f0_0, f0_1, rfl, t0, bb0, rfl, hh0⟩
    refine W.keepD _ _ _ hh0 rfl ?_
    refine W.seq ?_
    refine W.region ?_
    refine S.pure tOk zOk rfl rfl rfl ?_
    refine thenK_n ?_
    refine W.seq ?_
    refine W.cond rfl (fun c2 => ?_) (fun c2 => ?_)
    · skip
      have hi := row_lt c2
      refine W.skip ?_
      refine thenK_n ?_
      refine W.seq ?_
      refine W.block ?_
      refine W.seq ?_
      refine W.region ?_
      refine S.pureE tOk zOk rfl (row_ok hi) (row_at [] hi) rfl ?_
      refine S.pure tOk zOk rfl rfl rfl ?_
      refine S.pure tOk zOk rfl rfl rfl ?_
      refine thenK_n ?_
      refine W.seq ?_
      refine W.region ?_
      refine S.pure tOk zOk rfl rfl rfl ?_
      refine S.pure tOk zOk rfl rfl rfl ?_
      refine S.pure tOk zOk rfl rfl rfl ?_
      refine S.pureG tOk zOk rfl rfl (by repeat first | exact allT_nil | refine allT_cons (fun h => h) ?_ | refine allT_cons (fun h => andl h) ?_ | refine allT_cons (fun h => andl (andl h)) ?_ | refine allT_cons (fun _ => rfl) ?_) (fun _ => rfl) rfl ?_
      refine S.pureG tOk zOk rfl rfl (by repeat first | exact allT_nil | refine allT_cons (fun h => h) ?_ | refine allT_cons (fun h => andl h) ?_ | refine allT_cons (fun h => andl (andl h)) ?_ | refine allT_cons (fun _ => rfl) ?_) (fun _ => rfl) rfl ?_
      refine S.pickOr tOk zOk rfl rfl (by repeat first | exact allT_nil | refine allT_cons (fun h => h) ?_ | refine allT_cons (fun h => andl h) ?_ | refine allT_cons (fun h => andl (andl h)) ?_ | refine allT_cons (fun _ => rfl) ?_) ?_
      refine S.pure tOk zOk rfl rfl rfl ?_
      refine S.pureG tOk zOk rfl rfl (by repeat first | exact allT_nil | refine allT_cons (fun h => h) ?_ | refine allT_cons (fun h => andl h) ?_ | refine allT_cons (fun h => andl (andl h)) ?_ | refine allT_cons (fun _ => rfl) ?_) (fun _ => rfl) rfl ?_
      refine S.pureG tOk zOk rfl rfl (by repeat first | exact allT_nil | refine allT_cons (fun h => h) ?_ | refine allT_cons (fun h => andl h) ?_ | refine allT_cons (fun h => andl (andl h)) ?_ | refine allT_cons (fun _ => rfl) ?_) (fun _ => rfl) rfl ?_
      refine S.pickOr tOk zOk rfl rfl (by repeat first | exact allT_nil | refine allT_cons (fun h => h) ?_ | refine allT_cons (fun h => andl h) ?_ | refine allT_cons (fun h => andl (andl h)) ?_ | refine allT_cons (fun _ => rfl) ?_) ?_
      refine S.pure tOk zOk rfl rfl rfl ?_
      refine S.pureG tOk zOk rfl rfl (by repeat first | exact allT_nil | refine allT_cons (fun h => h) ?_ | refine allT_cons (fun h => andl h) ?_ | refine allT_cons (fun h => andl (andl h)) ?_ | refine allT_cons (fun _ => rfl) ?_) (fun _ => rfl) rfl ?_
      refine S.pureG tOk zOk rfl rfl (by repeat first | exact allT_nil | refine allT_cons (fun h => h) ?_ | refine allT_cons (fun h => andl h) ?_ | refine allT_cons (fun h => andl (andl h)) ?_ | refine allT_cons (fun _ => rfl) ?_) (fun _ => rfl) rfl ?_
      refine S.pureG tOk zOk rfl rfl (by repeat first | exact allT_nil | refine allT_cons (fun h => h) ?_ | refine allT_cons (fun h => andl h) ?_ | refine allT_cons (fun h => andl (andl h)) ?_ | refine allT_cons (fun _ => rfl) ?_) (fun _ => rfl) rfl ?_
      refine S.pickOr tOk zOk rfl rfl (by repeat first | exact allT_nil | refine allT_cons (fun h => h) ?_ | refine allT_cons (fun h => andl h) ?_ | refine allT_cons (fun h => andl (andl h)) ?_ | refine allT_cons (fun _ => rfl) ?_) ?_
      refine S.pure tOk zOk rfl rfl rfl ?_
      refine S.pureG tOk zOk rfl rfl (by repeat first | exact allT_nil | refine allT_cons (fun h => h) ?_ | refine allT_cons (fun h => andl h) ?_ | refine allT_cons (fun h => andl (andl h)) ?_ | refine allT_cons (fun _ => rfl) ?_) (fun _ => rfl) rfl ?_
      refine S.callG rfl rfl rfl rfl (by repeat first | exact allT_nil | refine allT_cons (fun h => h) ?_ | refine allT_cons (fun h => andl h) ?_ | refine allT_cons (fun h => andl (andl h)) ?_ | refine allT_cons (fun _ => rfl) ?_) rfl rfl (fun _ => pc_outref2_Of _ partS (by decide) (by decide) (by have := hm i; omega)) ?_
      refine S.pureG tOk zOk rfl rfl (by repeat first | exact allT_nil | refine allT_cons (fun h => h) ?_ | refine allT_cons (fun h => andl h) ?_ | refine allT_cons (fun h => andl (andl h)) ?_ | refine allT_cons (fun _ => rfl) ?_) (fun _ => rfl) rfl ?_
      refine S.pickOr tOk zOk rfl rfl (by repeat first | exact allT_nil | refine allT_cons (fun h => h) ?_ | refine allT_cons (fun h => andl h) ?_ | refine allT_cons (fun h => andl (andl h)) ?_ | refine allT_cons (fun _ => rfl) ?_) ?_
      refine thenK_n ?_
      refine W.cond rfl (fun c3 => ?_) (fun c3 => ?_)
      · skip
        refine W.seq ?_
        refine W.region ?_
        refine S.pure tOk zOk rfl rfl rfl ?_
        refine thenK_n ?_
        refine W.ret ?_
        refine blockK_r ?_
        refine thenK_r ?_
        refine thenK_r ?_
        refine blockK_r ?_
        refine thenK_r ?_
        exact ⟨_, rfl, rfl, LeV.of_force rfl (by rw [pathB, all_false_of (d := []) hi (path_f c3)]; rfl)⟩
      · skip
        refine W.skip ?_
        refine blockK_n ?_
        refine thenK_n ?_
        refine W.region ?_
        refine S.pure tOk zOk rfl rfl rfl ?_
        refine S.pure tOk zOk rfl rfl rfl ?_
        refine loop_n ((Lib.split s [47]).length - (i + 1)) (by omega) ⟨i + 1, hi, all_take_succ (d := []) hi f0_1 (path_t c3), rfl, _, _, rfl, rfl, rfl, inc_i64 (by omega), trivial⟩
    · skip
      have hi := row_ge c2
      refine W.exit ?_
      refine thenK_e ?_
      refine thenK_e ?_
      refine blockK_x ?_
      refine thenK_n ?_
      refine W.seq ?_
      refine W.region ?_
      refine S.pure tOk zOk rfl rfl rfl ?_
      refine thenK_n ?_
      refine W.ret ?_
      exact ⟨_, rfl, rfl, LeV.of_force rfl (by rw [pathB, all_of_take hi f0_1, le_of c1]; rfl)⟩

theorem pc_outref2_ValueOf (s : List UInt8) (hs : s.length < 4294967281) :
    PureCall Tryz.prog J 28 [.one (.d (.str s))] (.one (.d (.bool (valueB s)))) := by
  refine PureCall.of_body tOk (fn := Tryz.f28) Tryz.func28 (by kernel_rfl) rfl (Nat.le_of_ble_eq_true rfl) (fun E => ?_)
  refine W.seq ?_
  refine W.region ?_
  refine S.pure tOk zOk rfl rfl rfl ?_
  refine thenK_n ?_
  refine W.seq ?_
  refine W.seq ?_
  refine W.region ?_
  refine S.pure tOk zOk rfl rfl rfl ?_
  refine S.pure tOk zOk rfl rfl rfl ?_
  refine S.pure tOk zOk rfl rfl rfl ?_
  refine thenK_n ?_
  refine W.block ?_
  refine W.loop (fun k st => ∃ i : Nat, i ≤ s.length ∧ (s.take i).all (fun c => !(decide (bI c < 32) || decide (bI c > 126))) = true ∧ k = s.length - i ∧ ∃ t b2, st = ⟨t, [] ++ b2, [], []⟩ ∧ holdsL t [(0, .one (.d (.str s))), (5, .one (.d (.int .i64 (s.length : Int)))), (6, .one (.d (.int .i64 (i : Int))))]) (s.length) ⟨0, Nat.zero_le _, by simp, rfl, _, _, rfl, rfl, rfl, rfl, trivial⟩ ?_
  rintro k0 _ ⟨i, f0_0, f0_1, rfl, t0, bb0, rfl, hh0⟩
  refine W.keepD _ _ _ hh0 rfl ?_
  refine W.seq ?_
  refine W.region ?_
  refine S.pure tOk zOk rfl rfl rfl ?_
  refine thenK_n ?_
  refine W.seq ?_
  refine W.cond rfl (fun c1 => ?_) (fun c1 => ?_)
  · skip
    have hi : i < s.length := by simpa using c1
    refine W.skip ?_
    refine thenK_n ?_
    refine W.seq ?_
    refine W.block ?_
    refine W.seq ?_
    refine W.region ?_
    refine S.pure tOk zOk rfl rfl rfl ?_
    refine S.pure tOk zOk rfl rfl rfl ?_
    refine thenK_n ?_
    refine W.seq ?_
    refine W.region ?_
    refine S.pure tOk zOk rfl rfl rfl ?_
    refine S.pure tOk zOk rfl rfl rfl ?_
    refine S.pure tOk zOk rfl (str_ok hi) rfl ?_
    refine S.pure tOk zOk rfl rfl rfl ?_
    refine S.pure tOk zOk rfl rfl rfl ?_
    refine S.pureG tOk zOk rfl rfl (by repeat first | exact allT_nil | refine allT_cons (fun h => h) ?_ | refine allT_cons (fun h => andl h) ?_ | refine allT_cons (fun h => andl (andl h)) ?_ | refine allT_cons (fun _ => rfl) ?_) (fun _ => rfl) rfl ?_
    refine S.pureG tOk zOk rfl rfl (by repeat first | exact allT_nil | refine allT_cons (fun h => h) ?_ | refine allT_cons (fun h => andl h) ?_ | refine allT_cons (fun h => andl (andl h)) ?_ | refine allT_cons (fun _ => rfl) ?_) (fun _ => rfl) rfl ?_
    refine S.pureG tOk zOk rfl rfl (by repeat first | exact allT_nil | refine allT_cons (fun h => h) ?_ | refine allT_cons (fun h => andl h) ?_ | refine allT_cons (fun h => andl (andl h)) ?_ | refine allT_cons (fun _ => rfl) ?_) (fun _ => str_ok hi) rfl ?_
    refine S.pureG tOk zOk rfl rfl (by repeat first | exact allT_nil | refine allT_cons (fun h => h) ?_ | refine allT_cons (fun h => andl h) ?_ | refine allT_cons (fun h => andl (andl h)) ?_ | refine allT_cons (fun _ => rfl) ?_) (fun _ => rfl) rfl ?_
    refine S.pickOr tOk zOk rfl rfl (by repeat first | exact allT_nil | refine allT_cons (fun h => h) ?_ | refine allT_cons (fun h => andl h) ?_ | refine allT_cons (fun h => andl (andl h)) ?_ | refine allT_cons (fun _ => rfl) ?_) ?_
    refine thenK_n ?_
    refine W.cond rfl (fun c2 => ?_) (fun c2 => ?_)
    · skip
      refine W.seq ?_
      refine W.region ?_
      refine S.pure tOk zOk rfl rfl rfl ?_
      refine thenK_n ?_
      refine W.ret ?_
      refine blockK_r ?_
      refine thenK_r ?_
      refine thenK_r ?_
      refine blockK_r ?_
      refine thenK_r ?_
      exact ⟨_, rfl, rfl, LeV.of_force rfl (by rw [← valueR, all_false_of (d := 0) hi (not_t c2)]; rfl)⟩
    · skip
      refine W.skip ?_
      refine blockK_n ?_
      refine thenK_n ?_
      refine W.region ?_
      refine S.pure tOk zOk rfl rfl rfl ?_
      refine S.pure tOk zOk rfl rfl rfl ?_
      refine loop_n (s.length - (i + 1)) (by omega) ⟨i + 1, by omega, all_take_succ (d := 0) hi f0_1 (not_f c2), rfl, _, _, rfl, rfl, rfl, inc_i64 (by omega), trivial⟩
  · skip
    have hi : s.length ≤ i := by simpa using c1
    refine W.exit ?_
    refine thenK_e ?_
    refine thenK_e ?_
    refine blockK_x ?_
    refine thenK_n ?_
    refine W.seq ?_
    refine W.region ?_
    refine S.pure tOk zOk rfl rfl rfl ?_
    refine S.pure tOk zOk rfl rfl rfl ?_
    refine S.pure tOk zOk rfl rfl rfl ?_
    refine S.pure tOk zOk rfl rfl rfl ?_
    refine thenK_n ?_
    refine W.ret ?_
    exact ⟨_, rfl, rfl, LeV.of_force rfl (by rw [← valueR, all_of_take hi f0_1]; rfl)⟩

theorem pc_outref2_Number (s : List UInt8) (m : Int) (hm : 0 ≤ m) (hs : s.length < 4294967281) :
    PureCall Tryz.prog J 72 [.one (.d (.str s)), .one (.d (.int .i64 m))] (.tup [.one (.d (.int .i64 (numR s m).1)), .one (.d (.bool (numR s m).2))]) := by
  refine PureCall.of_body tOk (fn := Tryz.f72) Tryz.func72 (by kernel_rfl) rfl (Nat.le_of_ble_eq_true rfl) (fun E => ?_)
  refine W.seq ?_
  refine W.region ?_
  refine S.pure tOk zOk rfl rfl rfl ?_
  refine S.pure tOk zOk rfl rfl rfl ?_
  refine thenK_n ?_
  refine W.seq ?_
  refine W.seq ?_
  refine W.region ?_
  refine S.pure tOk zOk rfl rfl rfl ?_
  refine S.pure tOk zOk rfl rfl rfl ?_
  refine S.pure tOk zOk rfl rfl rfl ?_
  refine S.pureG tOk zOk rfl rfl (by repeat first | exact allT_nil | refine allT_cons (fun h => h) ?_ | refine allT_cons (fun h => andl h) ?_ | refine allT_cons (fun h => andl (andl h)) ?_ | refine allT_cons (fun _ => rfl) ?_) (fun _ => rfl) rfl ?_
  refine S.pureG tOk zOk rfl rfl (by repeat first | exact allT_nil | refine allT_cons (fun h => h) ?_ | refine allT_cons (fun h => andl h) ?_ | refine allT_cons (fun h => andl (andl h)) ?_ | refine allT_cons (fun _ => rfl) ?_) (fun _ => rfl) rfl ?_
  refine S.pureG tOk zOk rfl rfl (by repeat first | exact allT_nil | refine allT_cons (fun h => h) ?_ | refine allT_cons (fun h => andl h) ?_ | refine allT_cons (fun h => andl (andl h)) ?_ | refine allT_cons (fun _ => rfl) ?_) (fun _ => rfl) rfl ?_
  refine S.pureG tOk zOk rfl rfl (by repeat first | exact allT_nil | refine allT_cons (fun h => h) ?_ | refine allT_cons (fun h => andl h) ?_ | refine allT_cons (fun h => andl (andl h)) ?_ | refine allT_cons (fun _ => rfl) ?_) (fun _ => rfl) rfl ?_
  refine S.pickOr tOk zOk rfl rfl (by repeat first | exact allT_nil | refine allT_cons (fun h => h) ?_ | refine allT_cons (fun h => andl h) ?_ | refine allT_cons (fun h => andl (andl h)) ?_ | refine allT_cons (fun _ => rfl) ?_) ?_
  refine S.pure tOk zOk rfl rfl rfl ?_
  refine S.pureG tOk zOk rfl rfl (by repeat first | exact allT_nil | refine allT_cons (fun h => h) ?_ | refine allT_cons (fun h => andl h) ?_ | refine allT_cons (fun h => andl (andl h)) ?_ | refine allT_cons (fun _ => rfl) ?_) (fun _ => rfl) rfl ?_
  refine S.callG rfl rfl rfl rfl (by repeat first | exact allT_nil | refine allT_cons (fun h => h) ?_ | refine allT_cons (fun h => andl h) ?_ | refine allT_cons (fun h => andl (andl h)) ?_ | refine allT_cons (fun _ => rfl) ?_) rfl rfl (fun _ => pc_outref2_Of _ digitS (by decide) (by decide) (by omega)) ?_
  refine S.pureG tOk zOk rfl rfl (by repeat first | exact allT_nil | refine allT_cons (fun h => h) ?_ | refine allT_cons (fun h => andl h) ?_ | refine allT_cons (fun h => andl (andl h)) ?_ | refine allT_cons (fun _ => rfl) ?_) (fun _ => rfl) rfl ?_
  refine S.pickOr tOk zOk rfl rfl (by repeat first | exact allT_nil | refine allT_cons (fun h => h) ?_ | refine allT_cons (fun h => andl h) ?_ | refine allT_cons (fun h => andl (andl h)) ?_ | refine allT_cons (fun _ => rfl) ?_) ?_
  refine S.pure tOk zOk rfl rfl rfl ?_
  refine S.pureG tOk zOk rfl rfl (by repeat first | exact allT_nil | refine allT_cons (fun h => h) ?_ | refine allT_cons (fun h => andl h) ?_ | refine allT_cons (fun h => andl (andl h)) ?_ | refine allT_cons (fun _ => rfl) ?_) (fun _ => rfl) rfl ?_
  refine S.pureG tOk zOk rfl rfl (by repeat first | exact allT_nil | refine allT_cons (fun h => h) ?_ | refine allT_cons (fun h => andl h) ?_ | refine allT_cons (fun h => andl (andl h)) ?_ | refine allT_cons (fun _ => rfl) ?_) (fun _ => rfl) rfl ?_
  refine S.pureG tOk zOk rfl rfl (by repeat first | exact allT_nil | refine allT_cons (fun h => h) ?_ | refine allT_cons (fun h => andl h) ?_ | refine allT_cons (fun h => andl (andl h)) ?_ | refine allT_cons (fun _ => rfl) ?_) (fun _ => rfl) rfl ?_
  refine S.pureG tOk zOk rfl rfl (by repeat first | exact allT_nil | refine allT_cons (fun h => h) ?_ | refine allT_cons (fun h => andl h) ?_ | refine allT_cons (fun h => andl (andl h)) ?_ | refine allT_cons (fun _ => rfl) ?_) (fun _ => rfl) rfl ?_
  refine S.pureG tOk zOk rfl rfl (by repeat first | exact allT_nil | refine allT_cons (fun h => h) ?_ | refine allT_cons (fun h => andl h) ?_ | refine allT_cons (fun h => andl (andl h)) ?_ | refine allT_cons (fun _ => rfl) ?_) (fun _ => rfl) rfl ?_
  refine S.pureG tOk zOk rfl rfl (by repeat first | exact allT_nil | refine allT_cons (fun h => h) ?_ | refine allT_cons (fun h => andl h) ?_ | refine allT_cons (fun h => andl (andl h)) ?_ | refine allT_cons (fun _ => rfl) ?_) (fun h => idx_ok (Int.le_refl _) (gt1 (andr h))) rfl ?_
  refine S.pureG tOk zOk rfl rfl (by repeat first | exact allT_nil | refine allT_cons (fun h => h) ?_ | refine allT_cons (fun h => andl h) ?_ | refine allT_cons (fun h => andl (andl h)) ?_ | refine allT_cons (fun _ => rfl) ?_) (fun _ => rfl) rfl ?_
  refine S.pickAndG tOk zOk rfl rfl rfl (by repeat first | exact allT_nil | refine allT_cons (fun h => h) ?_ | refine allT_cons (fun h => andl h) ?_ | refine allT_cons (fun h => andl (andl h)) ?_ | refine allT_cons (fun _ => rfl) ?_) (by repeat first | exact allT_nil | refine allT_cons (fun h => h) ?_ | refine allT_cons (fun h => andl h) ?_ | refine allT_cons (fun h => andl (andl h)) ?_ | refine allT_cons (fun _ => rfl) ?_) ?_
  refine S.pickOr tOk zOk rfl rfl (by repeat first | exact allT_nil | refine allT_cons (fun h => h) ?_ | refine allT_cons (fun h => andl h) ?_ | refine allT_cons (fun h => andl (andl h)) ?_ | refine allT_cons (fun _ => rfl) ?_) ?_
  refine thenK_n ?_
  refine W.cond rfl (fun c1 => ?_) (fun c1 => ?_)
  · skip
    refine W.seq ?_
    refine W.region ?_
    refine S.pure tOk zOk rfl rfl rfl ?_
    refine S.pure tOk zOk rfl rfl rfl ?_
    refine thenK_n ?_
    refine W.ret ?_
    refine thenK_r ?_
    exact ⟨_, rfl, rfl, LeV.of_force rfl (by rw [show numR s m = (0, false) from if_pos c1]; rfl)⟩
  · skip
    refine W.skip ?_
    refine thenK_n ?_
    refine W.seq ?_
    refine W.region ?_
    refine S.pure tOk zOk rfl rfl rfl ?_
    refine S.call rfl rfl rfl rfl rfl (pc_Atoi _ (by omega)) ?_
    refine S.pure tOk zOk rfl rfl rfl ?_
    refine S.pure tOk zOk rfl rfl rfl ?_
    refine S.pure tOk zOk rfl rfl rfl ?_
    refine S.pure tOk zOk rfl rfl rfl ?_
    refine S.pure tOk zOk rfl rfl rfl ?_
    refine thenK_n ?_
    refine W.seq ?_
    refine W.regionD mixed (by kernel_rfl) ?_
    refine D.pure tOk zOk rfl rfl rfl rfl ?_
    refine D.pure tOk zOk rfl rfl rfl rfl ?_
    refine D.pure tOk zOk rfl rfl rfl rfl ?_
    refine D.pure tOk zOk rfl rfl rfl rfl ?_
    refine D.pure tOk zOk rfl rfl rfl rfl ?_
    refine thenK_n ?_
    refine W.ret ?_
    exact ⟨_, rfl, rfl, LeV.of_force rfl (by rw [show numR s m = (atoiV s, atoiOk s) from if_neg (Bool.eq_false_iff.1 c1)])⟩

theorem pc_outref2_VersionText (v : Ver) (he : v.e.length < 4294967281) (ho : VerOk v) :
    PureCall Tryz.prog J 29 [verV v] (.one (.d (.str (textB v.a v.b v.c v.e)))) := by
  have h1 := Lib.itoa_length_le v.a ho.1 ho.2.1
  have h2 := Lib.itoa_length_le v.b ho.2.2.1 ho.2.2.2.1
  have h3 := Lib.itoa_length_le v.c ho.2.2.2.2.1 ho.2.2.2.2.2
  refine PureCall.of_body tOk (fn := Tryz.f29) Tryz.func29 (by kernel_rfl) rfl (Nat.le_of_ble_eq_true rfl) (fun E => ?_)
  refine W.seq ?_
  refine W.region ?_
  refine S.box rfl rfl rfl rfl ?_
  refine S.pure tOk zOk rfl rfl rfl ?_
  refine thenK_n ?_
  refine W.seq ?_
  refine W.regionD mixed (by kernel_rfl) ?_
  refine D.pure tOk zOk rfl rfl rfl rfl ?_
  refine D.pure tOk zOk rfl rfl rfl rfl ?_
  refine D.call rfl rfl rfl rfl rfl (pc_Itoa _ ho.1 ho.2.1) ?_
  refine D.pure tOk zOk rfl rfl (cat_ok (by simp; omega)) rfl ?_
  refine D.pure tOk zOk rfl rfl rfl rfl ?_
  refine D.pure tOk zOk rfl rfl rfl rfl ?_
  refine D.call rfl rfl rfl rfl rfl (pc_Itoa _ ho.2.2.1 ho.2.2.2.1) ?_
  refine D.pure tOk zOk rfl rfl (cat_ok (by simp; omega)) rfl ?_
  refine D.pure tOk zOk rfl rfl (cat_ok (by simp; omega)) rfl ?_
  refine D.pure tOk zOk rfl rfl rfl rfl ?_
  refine D.pure tOk zOk rfl rfl rfl rfl ?_
  refine D.call rfl rfl rfl rfl rfl (pc_Itoa _ ho.2.2.2.2.1 ho.2.2.2.2.2) ?_
  refine D.pure tOk zOk rfl rfl (cat_ok (by simp; omega)) rfl ?_
  refine D.pure tOk zOk rfl rfl rfl rfl ?_
  refine thenK_n ?_
  refine W.seq ?_
  refine W.seq ?_
  refine W.region ?_
  refine S.pure tOk zOk rfl rfl rfl ?_
  refine S.pure tOk zOk rfl rfl rfl ?_
  refine S.pure tOk zOk rfl rfl rfl ?_
  refine thenK_n ?_
  refine W.cond rfl (fun c1 => ?_) (fun c1 => ?_)
  · skip
    refine W.region ?_
    refine S.pure tOk zOk rfl rfl rfl ?_
    refine S.pure tOk zOk rfl rfl rfl ?_
    refine S.pure tOk zOk rfl rfl rfl ?_
    refine S.pure tOk zOk rfl (cat_ok (by simp; omega)) rfl ?_
    refine S.pure tOk zOk rfl (cat_ok (by simp; omega)) rfl ?_
    refine S.pure tOk zOk rfl rfl rfl ?_
    refine thenK_n ?_
    refine W.seq ?_
    refine W.region ?_
    refine S.pure tOk zOk rfl rfl rfl ?_
    refine S.pure tOk zOk rfl rfl rfl ?_
    refine thenK_n ?_
    refine W.ret ?_
    exact ⟨_, rfl, rfl, LeV.of_force rfl (by simp_all [textB])⟩
  · skip
    refine W.skip ?_
    refine thenK_n ?_
    refine W.seq ?_
    refine W.region ?_
    refine S.pure tOk zOk rfl rfl rfl ?_
    refine S.pure tOk zOk rfl rfl rfl ?_
    refine thenK_n ?_
    refine W.ret ?_
    exact ⟨_, rfl, rfl, LeV.of_force rfl (by simp_all [textB])⟩

end Go.Proofs.YtepdjimbnbiicaaGreatDoor
