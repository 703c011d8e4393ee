/- Part 3 of a proof: W60, W32, V63, V64, V65, V66, V24, V25, V67, W69, W33, V26, V27, W37, V81, W83, W84, V82, W85, W86, V83, V84, W87. -/
import Derived.Sort.Walk0
import Derived.Lib.Replace
import Derived.Lib.ReplaceLaws
import Derived.Test.YtgknfikdajoiaaaGreatDoorMCRulesMatch2
set_option linter.unusedVariables false
set_option linter.unusedSimpArgs false
set_option maxRecDepth 100000
set_option maxHeartbeats 4000000
namespace Go.Proofs.YtgknfikdajoiaaaGreatDoor
open Go
open Go.RowKit
attribute [local irreducible] pathB valueB
structure RulB (r : Rul) : Prop where
  k : r.k.length ≤ 2000000
  tu : r.tu.length ≤ 2000000
  old : r.old.length ≤ 2000000
  nu : r.nu.length ≤ 2000000
theorem pc_uses (x : Int) :
  PureCall Tryz.prog J 33 [.one (.d (.int .i64 x))] (.tup [.one (.d (.bool (usTu x))), .one (.d (.bool (usOld x))), .one (.d (.bool (usNew x)))]) := by
 refine PureCall.of_body tOk (fn := Tryz.f33) Tryz.func33 (by kernel_rfl) rfl (Nat.le_of_ble_eq_true rfl) (fun E => ?_)
 refine W.seq ?_
 refine W.region ?_
 refine S.pure tOk zOk rfl rfl rfl ?_
 refine S.pure tOk zOk rfl rfl rfl ?_
 refine S.pure tOk zOk rfl rfl rfl ?_
 refine thenK_n ?_
 refine W.seq ?_
 refine W.seq ?_
 refine W.region ?_
 refine S.pure tOk zOk rfl rfl rfl ?_
 refine thenK_n ?_
 refine W.block ?_
 refine W.seq ?_
 refine W.seq ?_
 refine W.region ?_
 refine S.pure tOk zOk rfl rfl rfl ?_
 refine S.pure tOk zOk rfl rfl rfl ?_
 refine thenK_n ?_
 refine W.cond rfl (fun c1 => ?_) (fun c1 => ?_)
 ·skip
  refine W.skip ?_
  refine thenK_n ?_
  refine W.cond rfl (fun c2 => ?_) (fun c2 => ?_)
  ·skip
   refine W.seq ?_
   refine W.region ?_
   refine S.pure tOk zOk rfl rfl rfl ?_
   refine S.pure tOk zOk rfl rfl rfl ?_
   refine S.pure tOk zOk rfl rfl rfl ?_
   refine thenK_n ?_
   refine W.ret ?_
   refine blockK_r ?_
   refine thenK_r ?_
   exact ⟨_, rfl, rfl, LeV.of_force rfl (by simp_all [usTu, usOld, usNew])⟩
  ·skip
   refine W.seq ?_
   refine W.seq ?_
   refine W.region ?_
   refine S.pure tOk zOk rfl rfl rfl ?_
   refine S.pure tOk zOk rfl rfl rfl ?_
   refine thenK_n ?_
   refine W.cond rfl (fun c3 => ?_) (fun c3 => ?_)
   ·skip
    refine W.skip ?_
    refine thenK_n ?_
    refine W.cond rfl (fun c4 => ?_) (fun c4 => ?_)
    ·skip
     refine W.seq ?_
     refine W.region ?_
     refine S.pure tOk zOk rfl rfl rfl ?_
     refine S.pure tOk zOk rfl rfl rfl ?_
     refine S.pure tOk zOk rfl rfl rfl ?_
     refine thenK_n ?_
     refine W.ret ?_
     refine blockK_r ?_
     refine thenK_r ?_
     exact ⟨_, rfl, rfl, LeV.of_force rfl (by simp_all [usTu, usOld, usNew])⟩
    ·skip
     refine W.seq ?_
     refine W.seq ?_
     refine W.region ?_
     refine S.pure tOk zOk rfl rfl rfl ?_
     refine S.pure tOk zOk rfl rfl rfl ?_
     refine thenK_n ?_
     refine W.cond rfl (fun c5 => ?_) (fun c5 => ?_)
     ·skip
      refine W.skip ?_
      refine thenK_n ?_
      refine W.cond rfl (fun c6 => ?_) (fun c6 => ?_)
      ·skip
       refine W.seq ?_
       refine W.region ?_
       refine S.pure tOk zOk rfl rfl rfl ?_
       refine S.pure tOk zOk rfl rfl rfl ?_
       refine S.pure tOk zOk rfl rfl rfl ?_
       refine thenK_n ?_
       refine W.ret ?_
       refine blockK_r ?_
       refine thenK_r ?_
       exact ⟨_, rfl, rfl, LeV.of_force rfl (by simp_all [usTu, usOld, usNew])⟩
      ·skip
       refine W.skip ?_
       refine blockK_n ?_
       refine thenK_n ?_
       refine W.seq ?_
       refine W.region ?_
       refine S.pure tOk zOk rfl rfl rfl ?_
       refine S.pure tOk zOk rfl rfl rfl ?_
       refine S.pure tOk zOk rfl rfl rfl ?_
       refine thenK_n ?_
       refine W.ret ?_
       exact ⟨_, rfl, rfl, LeV.of_force rfl (by simp_all [usTu, usOld, usNew])⟩
     ·skip
      refine W.region ?_
      refine S.pure tOk zOk rfl rfl rfl ?_
      refine S.pure tOk zOk rfl rfl rfl ?_
      refine thenK_n ?_
      refine W.cond rfl (fun c7 => ?_) (fun c7 => ?_)
      ·skip
       refine W.seq ?_
       refine W.region ?_
       refine S.pure tOk zOk rfl rfl rfl ?_
       refine S.pure tOk zOk rfl rfl rfl ?_
       refine S.pure tOk zOk rfl rfl rfl ?_
       refine thenK_n ?_
       refine W.ret ?_
       refine blockK_r ?_
       refine thenK_r ?_
       exact ⟨_, rfl, rfl, LeV.of_force rfl (by simp_all [usTu, usOld, usNew])⟩
      ·skip
       refine W.skip ?_
       refine blockK_n ?_
       refine thenK_n ?_
       refine W.seq ?_
       refine W.region ?_
       refine S.pure tOk zOk rfl rfl rfl ?_
       refine S.pure tOk zOk rfl rfl rfl ?_
       refine S.pure tOk zOk rfl rfl rfl ?_
       refine thenK_n ?_
       refine W.ret ?_
       exact ⟨_, rfl, rfl, LeV.of_force rfl (by simp_all [usTu, usOld, usNew])⟩
   ·skip
    refine W.region ?_
    refine S.pure tOk zOk rfl rfl rfl ?_
    refine S.pure tOk zOk rfl rfl rfl ?_
    refine thenK_n ?_
    refine W.cond rfl (fun c8 => ?_) (fun c8 => ?_)
    ·skip
     refine W.seq ?_
     refine W.region ?_
     refine S.pure tOk zOk rfl rfl rfl ?_
     refine S.pure tOk zOk rfl rfl rfl ?_
     refine S.pure tOk zOk rfl rfl rfl ?_
     refine thenK_n ?_
     refine W.ret ?_
     refine blockK_r ?_
     refine thenK_r ?_
     exact ⟨_, rfl, rfl, LeV.of_force rfl (by simp_all [usTu, usOld, usNew])⟩
    ·skip
     refine W.seq ?_
     refine W.seq ?_
     refine W.region ?_
     refine S.pure tOk zOk rfl rfl rfl ?_
     refine S.pure tOk zOk rfl rfl rfl ?_
     refine thenK_n ?_
     refine W.cond rfl (fun c9 => ?_) (fun c9 => ?_)
     ·skip
      refine W.skip ?_
      refine thenK_n ?_
      refine W.cond rfl (fun c10 => ?_) (fun c10 => ?_)
      ·skip
       refine W.seq ?_
       refine W.region ?_
       refine S.pure tOk zOk rfl rfl rfl ?_
       refine S.pure tOk zOk rfl rfl rfl ?_
       refine S.pure tOk zOk rfl rfl rfl ?_
       refine thenK_n ?_
       refine W.ret ?_
       refine blockK_r ?_
       refine thenK_r ?_
       exact ⟨_, rfl, rfl, LeV.of_force rfl (by simp_all [usTu, usOld, usNew])⟩
      ·skip
       refine W.skip ?_
       refine blockK_n ?_
       refine thenK_n ?_
       refine W.seq ?_
       refine W.region ?_
       refine S.pure tOk zOk rfl rfl rfl ?_
       refine S.pure tOk zOk rfl rfl rfl ?_
       refine S.pure tOk zOk rfl rfl rfl ?_
       refine thenK_n ?_
       refine W.ret ?_
       exact ⟨_, rfl, rfl, LeV.of_force rfl (by simp_all [usTu, usOld, usNew])⟩
     ·skip
      refine W.region ?_
      refine S.pure tOk zOk rfl rfl rfl ?_
      refine S.pure tOk zOk rfl rfl rfl ?_
      refine thenK_n ?_
      refine W.cond rfl (fun c11 => ?_) (fun c11 => ?_)
      ·skip
       refine W.seq ?_
       refine W.region ?_
       refine S.pure tOk zOk rfl rfl rfl ?_
       refine S.pure tOk zOk rfl rfl rfl ?_
       refine S.pure tOk zOk rfl rfl rfl ?_
       refine thenK_n ?_
       refine W.ret ?_
       refine blockK_r ?_
       refine thenK_r ?_
       exact ⟨_, rfl, rfl, LeV.of_force rfl (by simp_all [usTu, usOld, usNew])⟩
      ·skip
       refine W.skip ?_
       refine blockK_n ?_
       refine thenK_n ?_
       refine W.seq ?_
       refine W.region ?_
       refine S.pure tOk zOk rfl rfl rfl ?_
       refine S.pure tOk zOk rfl rfl rfl ?_
       refine S.pure tOk zOk rfl rfl rfl ?_
       refine thenK_n ?_
       refine W.ret ?_
       exact ⟨_, rfl, rfl, LeV.of_force rfl (by simp_all [usTu, usOld, usNew])⟩
 ·skip
  refine W.seq ?_
  refine W.region ?_
  refine S.pure tOk zOk rfl rfl rfl ?_
  refine S.pure tOk zOk rfl rfl rfl ?_
  refine thenK_n ?_
  refine W.cond rfl (fun c12 => ?_) (fun c12 => ?_)
  ·skip
   refine W.skip ?_
   refine thenK_n ?_
   refine W.cond rfl (fun c13 => ?_) (fun c13 => ?_)
   ·skip
    refine W.seq ?_
    refine W.region ?_
    refine S.pure tOk zOk rfl rfl rfl ?_
    refine S.pure tOk zOk rfl rfl rfl ?_
    refine S.pure tOk zOk rfl rfl rfl ?_
    refine thenK_n ?_
    refine W.ret ?_
    refine blockK_r ?_
    refine thenK_r ?_
    exact ⟨_, rfl, rfl, LeV.of_force rfl (by simp_all [usTu, usOld, usNew])⟩
   ·skip
    refine W.seq ?_
    refine W.seq ?_
    refine W.region ?_
    refine S.pure tOk zOk rfl rfl rfl ?_
    refine S.pure tOk zOk rfl rfl rfl ?_
    refine thenK_n ?_
    refine W.cond rfl (fun c14 => ?_) (fun c14 => ?_)
    ·skip
     refine W.skip ?_
     refine thenK_n ?_
     refine W.cond rfl (fun c15 => ?_) (fun c15 => ?_)
     ·skip
      refine W.seq ?_
      refine W.region ?_
      refine S.pure tOk zOk rfl rfl rfl ?_
      refine S.pure tOk zOk rfl rfl rfl ?_
      refine S.pure tOk zOk rfl rfl rfl ?_
      refine thenK_n ?_
      refine W.ret ?_
      refine blockK_r ?_
      refine thenK_r ?_
      exact ⟨_, rfl, rfl, LeV.of_force rfl (by simp_all [usTu, usOld, usNew])⟩
     ·skip
      refine W.seq ?_
      refine W.seq ?_
      refine W.region ?_
      refine S.pure tOk zOk rfl rfl rfl ?_
      refine S.pure tOk zOk rfl rfl rfl ?_
      refine thenK_n ?_
      refine W.cond rfl (fun c16 => ?_) (fun c16 => ?_)
      ·skip
       refine W.skip ?_
       refine thenK_n ?_
       refine W.cond rfl (fun c17 => ?_) (fun c17 => ?_)
       ·skip
        refine W.seq ?_
        refine W.region ?_
        refine S.pure tOk zOk rfl rfl rfl ?_
        refine S.pure tOk zOk rfl rfl rfl ?_
        refine S.pure tOk zOk rfl rfl rfl ?_
        refine thenK_n ?_
        refine W.ret ?_
        refine blockK_r ?_
        refine thenK_r ?_
        exact ⟨_, rfl, rfl, LeV.of_force rfl (by simp_all [usTu, usOld, usNew])⟩
       ·skip
        refine W.skip ?_
        refine blockK_n ?_
        refine thenK_n ?_
        refine W.seq ?_
        refine W.region ?_
        refine S.pure tOk zOk rfl rfl rfl ?_
        refine S.pure tOk zOk rfl rfl rfl ?_
        refine S.pure tOk zOk rfl rfl rfl ?_
        refine thenK_n ?_
        refine W.ret ?_
        exact ⟨_, rfl, rfl, LeV.of_force rfl (by simp_all [usTu, usOld, usNew])⟩
      ·skip
       refine W.region ?_
       refine S.pure tOk zOk rfl rfl rfl ?_
       refine S.pure tOk zOk rfl rfl rfl ?_
       refine thenK_n ?_
       refine W.cond rfl (fun c18 => ?_) (fun c18 => ?_)
       ·skip
        refine W.seq ?_
        refine W.region ?_
        refine S.pure tOk zOk rfl rfl rfl ?_
        refine S.pure tOk zOk rfl rfl rfl ?_
        refine S.pure tOk zOk rfl rfl rfl ?_
        refine thenK_n ?_
        refine W.ret ?_
        refine blockK_r ?_
        refine thenK_r ?_
        exact ⟨_, rfl, rfl, LeV.of_force rfl (by simp_all [usTu, usOld, usNew])⟩
       ·skip
        refine W.skip ?_
        refine blockK_n ?_
        refine thenK_n ?_
        refine W.seq ?_
        refine W.region ?_
        refine S.pure tOk zOk rfl rfl rfl ?_
        refine S.pure tOk zOk rfl rfl rfl ?_
        refine S.pure tOk zOk rfl rfl rfl ?_
        refine thenK_n ?_
        refine W.ret ?_
        exact ⟨_, rfl, rfl, LeV.of_force rfl (by simp_all [usTu, usOld, usNew])⟩
    ·skip
     refine W.region ?_
     refine S.pure tOk zOk rfl rfl rfl ?_
     refine S.pure tOk zOk rfl rfl rfl ?_
     refine thenK_n ?_
     refine W.cond rfl (fun c19 => ?_) (fun c19 => ?_)
     ·skip
      refine W.seq ?_
      refine W.region ?_
      refine S.pure tOk zOk rfl rfl rfl ?_
      refine S.pure tOk zOk rfl rfl rfl ?_
      refine S.pure tOk zOk rfl rfl rfl ?_
      refine thenK_n ?_
      refine W.ret ?_
      refine blockK_r ?_
      refine thenK_r ?_
      exact ⟨_, rfl, rfl, LeV.of_force rfl (by simp_all [usTu, usOld, usNew])⟩
     ·skip
      refine W.seq ?_
      refine W.seq ?_
      refine W.region ?_
      refine S.pure tOk zOk rfl rfl rfl ?_
      refine S.pure tOk zOk rfl rfl rfl ?_
      refine thenK_n ?_
      refine W.cond rfl (fun c20 => ?_) (fun c20 => ?_)
      ·skip
       refine W.skip ?_
       refine thenK_n ?_
       refine W.cond rfl (fun c21 => ?_) (fun c21 => ?_)
       ·skip
        refine W.seq ?_
        refine W.region ?_
        refine S.pure tOk zOk rfl rfl rfl ?_
        refine S.pure tOk zOk rfl rfl rfl ?_
        refine S.pure tOk zOk rfl rfl rfl ?_
        refine thenK_n ?_
        refine W.ret ?_
        refine blockK_r ?_
        refine thenK_r ?_
        exact ⟨_, rfl, rfl, LeV.of_force rfl (by simp_all [usTu, usOld, usNew])⟩
       ·skip
        refine W.skip ?_
        refine blockK_n ?_
        refine thenK_n ?_
        refine W.seq ?_
        refine W.region ?_
        refine S.pure tOk zOk rfl rfl rfl ?_
        refine S.pure tOk zOk rfl rfl rfl ?_
        refine S.pure tOk zOk rfl rfl rfl ?_
        refine thenK_n ?_
        refine W.ret ?_
        exact ⟨_, rfl, rfl, LeV.of_force rfl (by simp_all [usTu, usOld, usNew])⟩
      ·skip
       refine W.region ?_
       refine S.pure tOk zOk rfl rfl rfl ?_
       refine S.pure tOk zOk rfl rfl rfl ?_
       refine thenK_n ?_
       refine W.cond rfl (fun c22 => ?_) (fun c22 => ?_)
       ·skip
        refine W.seq ?_
        refine W.region ?_
        refine S.pure tOk zOk rfl rfl rfl ?_
        refine S.pure tOk zOk rfl rfl rfl ?_
        refine S.pure tOk zOk rfl rfl rfl ?_
        refine thenK_n ?_
        refine W.ret ?_
        refine blockK_r ?_
        refine thenK_r ?_
        exact ⟨_, rfl, rfl, LeV.of_force rfl (by simp_all [usTu, usOld, usNew])⟩
       ·skip
        refine W.skip ?_
        refine blockK_n ?_
        refine thenK_n ?_
        refine W.seq ?_
        refine W.region ?_
        refine S.pure tOk zOk rfl rfl rfl ?_
        refine S.pure tOk zOk rfl rfl rfl ?_
        refine S.pure tOk zOk rfl rfl rfl ?_
        refine thenK_n ?_
        refine W.ret ?_
        exact ⟨_, rfl, rfl, LeV.of_force rfl (by simp_all [usTu, usOld, usNew])⟩
  ·skip
   refine W.region ?_
   refine S.pure tOk zOk rfl rfl rfl ?_
   refine S.pure tOk zOk rfl rfl rfl ?_
   refine thenK_n ?_
   refine W.cond rfl (fun c23 => ?_) (fun c23 => ?_)
   ·skip
    refine W.seq ?_
    refine W.region ?_
    refine S.pure tOk zOk rfl rfl rfl ?_
    refine S.pure tOk zOk rfl rfl rfl ?_
    refine S.pure tOk zOk rfl rfl rfl ?_
    refine thenK_n ?_
    refine W.ret ?_
    refine blockK_r ?_
    refine thenK_r ?_
    exact ⟨_, rfl, rfl, LeV.of_force rfl (by simp_all [usTu, usOld, usNew])⟩
   ·skip
    refine W.seq ?_
    refine W.seq ?_
    refine W.region ?_
    refine S.pure tOk zOk rfl rfl rfl ?_
    refine S.pure tOk zOk rfl rfl rfl ?_
    refine thenK_n ?_
    refine W.cond rfl (fun c24 => ?_) (fun c24 => ?_)
    ·skip
     refine W.skip ?_
     refine thenK_n ?_
     refine W.cond rfl (fun c25 => ?_) (fun c25 => ?_)
     ·skip
      refine W.seq ?_
      refine W.region ?_
      refine S.pure tOk zOk rfl rfl rfl ?_
      refine S.pure tOk zOk rfl rfl rfl ?_
      refine S.pure tOk zOk rfl rfl rfl ?_
      refine thenK_n ?_
      refine W.ret ?_
      refine blockK_r ?_
      refine thenK_r ?_
      exact ⟨_, rfl, rfl, LeV.of_force rfl (by simp_all [usTu, usOld, usNew])⟩
     ·skip
      refine W.seq ?_
      refine W.seq ?_
      refine W.region ?_
      refine S.pure tOk zOk rfl rfl rfl ?_
      refine S.pure tOk zOk rfl rfl rfl ?_
      refine thenK_n ?_
      refine W.cond rfl (fun c26 => ?_) (fun c26 => ?_)
      ·skip
       refine W.skip ?_
       refine thenK_n ?_
       refine W.cond rfl (fun c27 => ?_) (fun c27 => ?_)
       ·skip
        refine W.seq ?_
        refine W.region ?_
        refine S.pure tOk zOk rfl rfl rfl ?_
        refine S.pure tOk zOk rfl rfl rfl ?_
        refine S.pure tOk zOk rfl rfl rfl ?_
        refine thenK_n ?_
        refine W.ret ?_
        refine blockK_r ?_
        refine thenK_r ?_
        exact ⟨_, rfl, rfl, LeV.of_force rfl (by simp_all [usTu, usOld, usNew])⟩
       ·skip
        refine W.skip ?_
        refine blockK_n ?_
        refine thenK_n ?_
        refine W.seq ?_
        refine W.region ?_
        refine S.pure tOk zOk rfl rfl rfl ?_
        refine S.pure tOk zOk rfl rfl rfl ?_
        refine S.pure tOk zOk rfl rfl rfl ?_
        refine thenK_n ?_
        refine W.ret ?_
        exact ⟨_, rfl, rfl, LeV.of_force rfl (by simp_all [usTu, usOld, usNew])⟩
      ·skip
       refine W.region ?_
       refine S.pure tOk zOk rfl rfl rfl ?_
       refine S.pure tOk zOk rfl rfl rfl ?_
       refine thenK_n ?_
       refine W.cond rfl (fun c28 => ?_) (fun c28 => ?_)
       ·skip
        refine W.seq ?_
        refine W.region ?_
        refine S.pure tOk zOk rfl rfl rfl ?_
        refine S.pure tOk zOk rfl rfl rfl ?_
        refine S.pure tOk zOk rfl rfl rfl ?_
        refine thenK_n ?_
        refine W.ret ?_
        refine blockK_r ?_
        refine thenK_r ?_
        exact ⟨_, rfl, rfl, LeV.of_force rfl (by simp_all [usTu, usOld, usNew])⟩
       ·skip
        refine W.skip ?_
        refine blockK_n ?_
        refine thenK_n ?_
        refine W.seq ?_
        refine W.region ?_
        refine S.pure tOk zOk rfl rfl rfl ?_
        refine S.pure tOk zOk rfl rfl rfl ?_
        refine S.pure tOk zOk rfl rfl rfl ?_
        refine thenK_n ?_
        refine W.ret ?_
        exact ⟨_, rfl, rfl, LeV.of_force rfl (by simp_all [usTu, usOld, usNew])⟩
    ·skip
     refine W.region ?_
     refine S.pure tOk zOk rfl rfl rfl ?_
     refine S.pure tOk zOk rfl rfl rfl ?_
     refine thenK_n ?_
     refine W.cond rfl (fun c29 => ?_) (fun c29 => ?_)
     ·skip
      refine W.seq ?_
      refine W.region ?_
      refine S.pure tOk zOk rfl rfl rfl ?_
      refine S.pure tOk zOk rfl rfl rfl ?_
      refine S.pure tOk zOk rfl rfl rfl ?_
      refine thenK_n ?_
      refine W.ret ?_
      refine blockK_r ?_
      refine thenK_r ?_
      exact ⟨_, rfl, rfl, LeV.of_force rfl (by simp_all [usTu, usOld, usNew])⟩
     ·skip
      refine W.seq ?_
      refine W.seq ?_
      refine W.region ?_
      refine S.pure tOk zOk rfl rfl rfl ?_
      refine S.pure tOk zOk rfl rfl rfl ?_
      refine thenK_n ?_
      refine W.cond rfl (fun c30 => ?_) (fun c30 => ?_)
      ·skip
       refine W.skip ?_
       refine thenK_n ?_
       refine W.cond rfl (fun c31 => ?_) (fun c31 => ?_)
       ·skip
        refine W.seq ?_
        refine W.region ?_
        refine S.pure tOk zOk rfl rfl rfl ?_
        refine S.pure tOk zOk rfl rfl rfl ?_
        refine S.pure tOk zOk rfl rfl rfl ?_
        refine thenK_n ?_
        refine W.ret ?_
        refine blockK_r ?_
        refine thenK_r ?_
        exact ⟨_, rfl, rfl, LeV.of_force rfl (by simp_all [usTu, usOld, usNew])⟩
       ·skip
        refine W.skip ?_
        refine blockK_n ?_
        refine thenK_n ?_
        refine W.seq ?_
        refine W.region ?_
        refine S.pure tOk zOk rfl rfl rfl ?_
        refine S.pure tOk zOk rfl rfl rfl ?_
        refine S.pure tOk zOk rfl rfl rfl ?_
        refine thenK_n ?_
        refine W.ret ?_
        exact ⟨_, rfl, rfl, LeV.of_force rfl (by simp_all [usTu, usOld, usNew])⟩
      ·skip
       refine W.region ?_
       refine S.pure tOk zOk rfl rfl rfl ?_
       refine S.pure tOk zOk rfl rfl rfl ?_
       refine thenK_n ?_
       refine W.cond rfl (fun c32 => ?_) (fun c32 => ?_)
       ·skip
        refine W.seq ?_
        refine W.region ?_
        refine S.pure tOk zOk rfl rfl rfl ?_
        refine S.pure tOk zOk rfl rfl rfl ?_
        refine S.pure tOk zOk rfl rfl rfl ?_
        refine thenK_n ?_
        refine W.ret ?_
        refine blockK_r ?_
        refine thenK_r ?_
        exact ⟨_, rfl, rfl, LeV.of_force rfl (by simp_all [usTu, usOld, usNew])⟩
       ·skip
        refine W.skip ?_
        refine blockK_n ?_
        refine thenK_n ?_
        refine W.seq ?_
        refine W.region ?_
        refine S.pure tOk zOk rfl rfl rfl ?_
        refine S.pure tOk zOk rfl rfl rfl ?_
        refine S.pure tOk zOk rfl rfl rfl ?_
        refine thenK_n ?_
        refine W.ret ?_
        exact ⟨_, rfl, rfl, LeV.of_force rfl (by simp_all [usTu, usOld, usNew])⟩
theorem pc_mbelow (a b : List UInt8) (hb : b.length ≤ 1000000000) :
  PureCall Tryz.prog J 38 [.one (.d (.str a)), .one (.d (.str b))] (.one (.d (.bool (belowB a b)))) := by
 refine PureCall.of_body tOk (fn := Tryz.f38) Tryz.func38 (by kernel_rfl) rfl (Nat.le_of_ble_eq_true rfl) (fun E => ?_)
 refine W.seq ?_
 refine W.region ?_
 refine S.pure tOk zOk rfl rfl rfl ?_
 refine thenK_n ?_
 refine W.seq ?_
 refine W.region ?_
 refine S.pure tOk zOk rfl rfl rfl ?_
 refine S.pure tOk zOk rfl rfl rfl ?_
 refine S.pure tOk zOk rfl (cat_ok (by simp [-List.getD_eq_getElem?_getD]; omega)) rfl ?_
 refine S.call rfl rfl rfl rfl rfl (pc_HasPrefix a (b ++ [47])) ?_
 refine S.pure tOk zOk rfl rfl rfl ?_
 refine thenK_n ?_
 refine W.ret ?_
 exact ⟨_, rfl, rfl, LeV.refl _⟩
theorem pc_CheckRule (r : Rul) (hr : RulB r) :
  PureCall Tryz.prog J 10 [.agg [.d (.int .i64 r.kd), .d (.str r.k), .d (.str r.tu), .d (.str r.old), .d (.str r.nu)]] (.one (.d (.int .i64 (ruleC r)))) := by
 obtain ⟨hr1, hr2, hr3, hr4⟩ := hr
 refine PureCall.of_body tOk (fn := Tryz.f10) Tryz.func10 (by kernel_rfl) rfl (Nat.le_of_ble_eq_true rfl) (fun E => ?_)
 refine W.seq ?_
 refine W.region ?_
 refine S.box rfl rfl rfl rfl ?_
 refine S.pure tOk zOk rfl rfl rfl ?_
 refine thenK_n ?_
 refine W.seq ?_
 refine W.seq ?_
 refine W.region ?_
 refine S.pure tOk zOk rfl rfl rfl ?_
 refine S.pure tOk zOk rfl rfl rfl ?_
 refine S.pure tOk zOk rfl rfl rfl ?_
 refine S.pure tOk zOk rfl rfl rfl ?_
 refine S.pureG tOk zOk rfl rfl tg (fun _ => rfl) rfl ?_
 refine S.pureG tOk zOk rfl rfl tg (fun _ => rfl) rfl ?_
 refine S.pureG tOk zOk rfl rfl tg (fun _ => rfl) rfl ?_
 refine S.pickOr tOk zOk rfl rfl tg ?_
 refine thenK_n ?_
 refine W.cond rfl (fun c1 => ?_) (fun c1 => ?_)
 ·skip
  refine W.seq ?_
  refine W.region ?_
  refine S.pure tOk zOk rfl rfl rfl ?_
  refine thenK_n ?_
  refine W.ret ?_
  refine thenK_r ?_
  exact ⟨_, rfl, rfl, LeV.of_force rfl (congrArg (fun x : Int => V.one (C.d (D.int .i64 x))) ((if_pos c1) : ruleC r = _)).symm⟩
 ·skip
  refine W.skip ?_
  refine thenK_n ?_
  refine W.seq ?_
  refine W.region ?_
  refine S.pure tOk zOk rfl rfl rfl ?_
  refine S.pure tOk zOk rfl rfl rfl ?_
  refine S.call rfl rfl rfl rfl rfl (pc_uses _) ?_
  refine S.pure tOk zOk rfl rfl rfl ?_
  refine S.pure tOk zOk rfl rfl rfl ?_
  refine S.pure tOk zOk rfl rfl rfl ?_
  refine S.pure tOk zOk rfl rfl rfl ?_
  refine S.pure tOk zOk rfl rfl rfl ?_
  refine S.pure tOk zOk rfl rfl rfl ?_
  refine S.pure tOk zOk rfl rfl rfl ?_
  refine thenK_n ?_
  refine W.seq ?_
  refine W.block ?_
  refine W.seq ?_
  refine W.region ?_
  refine S.pure tOk zOk rfl rfl rfl ?_
  refine S.pure tOk zOk rfl rfl rfl ?_
  refine S.call rfl rfl rfl rfl rfl (pc_ver_IsPath r.k (by omega)) ?_
  refine S.pure tOk zOk rfl rfl rfl ?_
  refine S.pure tOk zOk rfl rfl rfl ?_
  refine S.pureG tOk zOk rfl rfl tg (fun _ => rfl) rfl ?_
  refine S.pureG tOk zOk rfl rfl tg (fun _ => rfl) rfl ?_
  refine S.pureG tOk zOk rfl rfl tg (fun _ => rfl) rfl ?_
  refine S.pureG tOk zOk rfl rfl tg (fun _ => rfl) rfl ?_
  refine S.callG rfl rfl rfl rfl tg rfl rfl (fun _ => pc_ver_IsPath r.tu (by omega)) ?_
  refine S.pureG tOk zOk rfl rfl tg (fun _ => rfl) rfl ?_
  refine S.pickAndG tOk zOk rfl rfl rfl tg tg ?_
  refine S.pickOr tOk zOk rfl rfl tg ?_
  refine S.pure tOk zOk rfl rfl rfl ?_
  refine thenK_n ?_
  refine W.cond rfl (fun c2 => ?_) (fun c2 => ?_)
  ·skip
   refine W.seq ?_
   refine W.region ?_
   refine S.pure tOk zOk rfl rfl rfl ?_
   refine thenK_n ?_
   refine W.ret ?_
   refine blockK_r ?_
   refine thenK_r ?_
   exact ⟨_, rfl, rfl, LeV.of_force rfl (congrArg (fun x : Int => V.one (C.d (D.int .i64 x))) (((if_neg (Bool.eq_false_iff.1 c1)).trans (if_pos c2)) : ruleC r = _)).symm⟩
  ·skip
   refine W.seq ?_
   refine W.region ?_
   refine S.pure tOk zOk rfl rfl rfl ?_
   refine S.pure tOk zOk rfl rfl rfl ?_
   refine S.pure tOk zOk rfl rfl rfl ?_
   refine S.pureG tOk zOk rfl rfl tg (fun _ => rfl) rfl ?_
   refine S.pureG tOk zOk rfl rfl tg (fun _ => rfl) rfl ?_
   refine S.pureG tOk zOk rfl rfl tg (fun _ => rfl) rfl ?_
   refine S.pickAnd tOk zOk rfl rfl tg ?_
   refine S.pure tOk zOk rfl rfl rfl ?_
   refine S.pureG tOk zOk rfl rfl tg (fun _ => rfl) rfl ?_
   refine S.pureG tOk zOk rfl rfl tg (fun _ => rfl) rfl ?_
   refine S.pureG tOk zOk rfl rfl tg (fun _ => rfl) rfl ?_
   refine S.pureG tOk zOk rfl rfl tg (fun _ => rfl) rfl ?_
   refine S.pureG tOk zOk rfl rfl tg (fun _ => rfl) rfl ?_
   refine S.pureG tOk zOk rfl rfl tg (fun _ => rfl) rfl ?_
   refine S.pickAndG tOk zOk rfl rfl rfl tg tg ?_
   refine S.pickOr tOk zOk rfl rfl tg ?_
   refine S.pure tOk zOk rfl rfl rfl ?_
   refine S.pureG tOk zOk rfl rfl tg (fun _ => rfl) rfl ?_
   refine S.pureG tOk zOk rfl rfl tg (fun _ => rfl) rfl ?_
   refine S.pureG tOk zOk rfl rfl tg (fun _ => rfl) rfl ?_
   refine S.pureG tOk zOk rfl rfl tg (fun _ => rfl) rfl ?_
   refine S.pureG tOk zOk rfl rfl tg (fun _ => rfl) rfl ?_
   refine S.pureG tOk zOk rfl rfl tg (fun _ => rfl) rfl ?_
   refine S.pickAndG tOk zOk rfl rfl rfl tg tg ?_
   refine S.pickOr tOk zOk rfl rfl tg ?_
   refine S.pure tOk zOk rfl rfl rfl ?_
   refine S.pureG tOk zOk rfl rfl tg (fun _ => rfl) rfl ?_
   refine S.pureG tOk zOk rfl rfl tg (fun _ => rfl) rfl ?_
   refine S.callG rfl rfl rfl rfl tg rfl rfl (fun _ => pc_ver_IsValue r.old (by omega)) ?_
   refine S.pureG tOk zOk rfl rfl tg (fun _ => rfl) rfl ?_
   refine S.pickOr tOk zOk rfl rfl tg ?_
   refine S.pure tOk zOk rfl rfl rfl ?_
   refine S.pureG tOk zOk rfl rfl tg (fun _ => rfl) rfl ?_
   refine S.pureG tOk zOk rfl rfl tg (fun _ => rfl) rfl ?_
   refine S.callG rfl rfl rfl rfl tg rfl rfl (fun _ => pc_ver_IsValue r.nu (by omega)) ?_
   refine S.pureG tOk zOk rfl rfl tg (fun _ => rfl) rfl ?_
   refine S.pickOr tOk zOk rfl rfl tg ?_
   refine S.pure tOk zOk rfl rfl rfl ?_
   refine thenK_n ?_
   refine W.cond rfl (fun c3 => ?_) (fun c3 => ?_)
   ·skip
    refine W.seq ?_
    refine W.region ?_
    refine S.pure tOk zOk rfl rfl rfl ?_
    refine thenK_n ?_
    refine W.ret ?_
    refine blockK_r ?_
    refine thenK_r ?_
    exact ⟨_, rfl, rfl, LeV.of_force rfl (congrArg (fun x : Int => V.one (C.d (D.int .i64 x))) (((if_neg (Bool.eq_false_iff.1 c1)).trans ((if_neg (Bool.eq_false_iff.1 c2)).trans (if_pos c3))) : ruleC r = _)).symm⟩
   ·skip
    refine W.seq ?_
    refine W.region ?_
    refine S.pure tOk zOk rfl rfl rfl ?_
    refine S.pure tOk zOk rfl rfl rfl ?_
    refine S.pureG tOk zOk rfl rfl tg (fun _ => rfl) rfl ?_
    refine S.pureG tOk zOk rfl rfl tg (fun _ => rfl) rfl ?_
    refine S.pureG tOk zOk rfl rfl tg (fun _ => rfl) rfl ?_
    refine S.pureG tOk zOk rfl rfl tg (fun _ => rfl) rfl ?_
    refine S.pureG tOk zOk rfl rfl tg (fun _ => rfl) rfl ?_
    refine S.pickAnd tOk zOk rfl rfl tg ?_
    refine S.pure tOk zOk rfl rfl rfl ?_
    refine thenK_n ?_
    refine W.cond rfl (fun c4 => ?_) (fun c4 => ?_)
    ·skip
     refine W.seq ?_
     refine W.region ?_
     refine S.pure tOk zOk rfl rfl rfl ?_
     refine thenK_n ?_
     refine W.ret ?_
     refine blockK_r ?_
     refine thenK_r ?_
     exact ⟨_, rfl, rfl, LeV.of_force rfl (congrArg (fun x : Int => V.one (C.d (D.int .i64 x))) (((if_neg (Bool.eq_false_iff.1 c1)).trans ((if_neg (Bool.eq_false_iff.1 c2)).trans ((if_neg (Bool.eq_false_iff.1 c3)).trans (if_pos c4)))) : ruleC r = _)).symm⟩
    ·skip
     refine W.seq ?_
     refine W.region ?_
     refine S.pure tOk zOk rfl rfl rfl ?_
     refine S.pure tOk zOk rfl rfl rfl ?_
     refine S.pure tOk zOk rfl rfl rfl ?_
     refine S.pure tOk zOk rfl rfl rfl ?_
     refine S.pureG tOk zOk rfl rfl tg (fun _ => rfl) rfl ?_
     refine S.pureG tOk zOk rfl rfl tg (fun _ => rfl) rfl ?_
     refine S.pureG tOk zOk rfl rfl tg (fun _ => rfl) rfl ?_
     refine S.pureG tOk zOk rfl rfl tg (fun _ => rfl) rfl ?_
     refine S.callG rfl rfl rfl rfl tg rfl rfl (fun _ => pc_mbelow r.k r.tu (by omega)) ?_
     refine S.pureG tOk zOk rfl rfl tg (fun _ => rfl) rfl ?_
     refine S.pureG tOk zOk rfl rfl tg (fun _ => rfl) rfl ?_
     refine S.pureG tOk zOk rfl rfl tg (fun _ => rfl) rfl ?_
     refine S.pureG tOk zOk rfl rfl tg (fun _ => rfl) rfl ?_
     refine S.pureG tOk zOk rfl rfl tg (fun _ => rfl) rfl ?_
     refine S.callG rfl rfl rfl rfl tg rfl rfl (fun _ => pc_mbelow r.tu r.k (by omega)) ?_
     refine S.pickOrG tOk zOk rfl rfl rfl tg tg ?_
     refine S.pickAnd tOk zOk rfl rfl tg ?_
     refine S.pure tOk zOk rfl rfl rfl ?_
     refine thenK_n ?_
     refine W.cond rfl (fun c5 => ?_) (fun c5 => ?_)
     ·skip
      refine W.seq ?_
      refine W.region ?_
      refine S.pure tOk zOk rfl rfl rfl ?_
      refine thenK_n ?_
      refine W.ret ?_
      refine blockK_r ?_
      refine thenK_r ?_
      exact ⟨_, rfl, rfl, LeV.of_force rfl (congrArg (fun x : Int => V.one (C.d (D.int .i64 x))) (((if_neg (Bool.eq_false_iff.1 c1)).trans ((if_neg (Bool.eq_false_iff.1 c2)).trans ((if_neg (Bool.eq_false_iff.1 c3)).trans ((if_neg (Bool.eq_false_iff.1 c4)).trans (if_pos c5))))) : ruleC r = _)).symm⟩
     ·skip
      refine W.seq ?_
      refine W.region ?_
      refine S.pure tOk zOk rfl rfl rfl ?_
      refine S.pure tOk zOk rfl rfl rfl ?_
      refine S.pureG tOk zOk rfl rfl tg (fun _ => rfl) rfl ?_
      refine S.pureG tOk zOk rfl rfl tg (fun _ => rfl) rfl ?_
      refine S.pureG tOk zOk rfl rfl tg (fun _ => rfl) rfl ?_
      refine S.pureG tOk zOk rfl rfl tg (fun _ => rfl) rfl ?_
      refine S.pureG tOk zOk rfl rfl tg (fun _ => rfl) rfl ?_
      refine S.pickAnd tOk zOk rfl rfl tg ?_
      refine S.pure tOk zOk rfl rfl rfl ?_
      refine thenK_n ?_
      refine W.cond rfl (fun c6 => ?_) (fun c6 => ?_)
      ·skip
       refine W.seq ?_
       refine W.region ?_
       refine S.pure tOk zOk rfl rfl rfl ?_
       refine thenK_n ?_
       refine W.ret ?_
       refine blockK_r ?_
       refine thenK_r ?_
       exact ⟨_, rfl, rfl, LeV.of_force rfl (congrArg (fun x : Int => V.one (C.d (D.int .i64 x))) (((if_neg (Bool.eq_false_iff.1 c1)).trans ((if_neg (Bool.eq_false_iff.1 c2)).trans ((if_neg (Bool.eq_false_iff.1 c3)).trans ((if_neg (Bool.eq_false_iff.1 c4)).trans ((if_neg (Bool.eq_false_iff.1 c5)).trans (if_pos c6)))))) : ruleC r = _)).symm⟩
      ·skip
       refine W.skip ?_
       refine blockK_n ?_
       refine thenK_n ?_
       refine W.seq ?_
       refine W.region ?_
       refine S.pure tOk zOk rfl rfl rfl ?_
       refine thenK_n ?_
       refine W.ret ?_
       exact ⟨_, rfl, rfl, LeV.of_force rfl (congrArg (fun x : Int => V.one (C.d (D.int .i64 x))) (((if_neg (Bool.eq_false_iff.1 c1)).trans ((if_neg (Bool.eq_false_iff.1 c2)).trans ((if_neg (Bool.eq_false_iff.1 c3)).trans ((if_neg (Bool.eq_false_iff.1 c4)).trans ((if_neg (Bool.eq_false_iff.1 c5)).trans (if_neg (Bool.eq_false_iff.1 c6))))))) : ruleC r = _)).symm⟩
def ruleW (x : Int) : L8 := if x == 1 then [114, 101, 110, 97, 109, 101] else if x == 2 then [112, 114, 101, 102, 105, 120] else if x == 3 then [99, 111, 112, 121] else if x == 4 then [115, 101, 116] else if x == 5 then [100, 101, 102, 97, 117, 108, 116] else if x == 6 then [100, 114, 111, 112] else if x == 7 then [109, 97, 112] else if x == 8 then [115, 119, 97, 112] else []
theorem pc_ruleWord (x : Int) :
  PureCall Tryz.prog J 29 [.one (.d (.int .i64 x))] (.tup [.one (.d (.str (ruleW x))), .one (.d (.bool (usTu x))), .one (.d (.bool (usOld x))), .one (.d (.bool (usNew x)))]) := by
 refine PureCall.of_body tOk (fn := Tryz.f29) Tryz.func29 (by kernel_rfl) rfl (Nat.le_of_ble_eq_true rfl) (fun E => ?_)
 refine W.seq ?_
 refine W.region ?_
 refine S.pure tOk zOk rfl rfl rfl ?_
 refine S.pure tOk zOk rfl rfl rfl ?_
 refine S.pure tOk zOk rfl rfl rfl ?_
 refine S.pure tOk zOk rfl rfl rfl ?_
 refine thenK_n ?_
 refine W.seq ?_
 refine W.seq ?_
 refine W.region ?_
 refine S.pure tOk zOk rfl rfl rfl ?_
 refine thenK_n ?_
 refine W.block ?_
 refine W.seq ?_
 refine W.region ?_
 refine S.pure tOk zOk rfl rfl rfl ?_
 refine S.pure tOk zOk rfl rfl rfl ?_
 refine thenK_n ?_
 refine W.cond rfl (fun c1 => ?_) (fun c1 => ?_)
 ·skip
  refine W.seq ?_
  refine W.region ?_
  refine S.pure tOk zOk rfl rfl rfl ?_
  refine S.pure tOk zOk rfl rfl rfl ?_
  refine S.pure tOk zOk rfl rfl rfl ?_
  refine S.pure tOk zOk rfl rfl rfl ?_
  refine thenK_n ?_
  refine W.ret ?_
  refine blockK_r ?_
  refine thenK_r ?_
  exact ⟨_, rfl, rfl, LeV.of_force rfl (by simp_all [ruleW, usTu, usOld, usNew])⟩
 ·skip
  refine W.seq ?_
  refine W.region ?_
  refine S.pure tOk zOk rfl rfl rfl ?_
  refine S.pure tOk zOk rfl rfl rfl ?_
  refine thenK_n ?_
  refine W.cond rfl (fun c2 => ?_) (fun c2 => ?_)
  ·skip
   refine W.seq ?_
   refine W.region ?_
   refine S.pure tOk zOk rfl rfl rfl ?_
   refine S.pure tOk zOk rfl rfl rfl ?_
   refine S.pure tOk zOk rfl rfl rfl ?_
   refine S.pure tOk zOk rfl rfl rfl ?_
   refine thenK_n ?_
   refine W.ret ?_
   refine blockK_r ?_
   refine thenK_r ?_
   exact ⟨_, rfl, rfl, LeV.of_force rfl (by simp_all [ruleW, usTu, usOld, usNew])⟩
  ·skip
   refine W.seq ?_
   refine W.region ?_
   refine S.pure tOk zOk rfl rfl rfl ?_
   refine S.pure tOk zOk rfl rfl rfl ?_
   refine thenK_n ?_
   refine W.cond rfl (fun c3 => ?_) (fun c3 => ?_)
   ·skip
    refine W.seq ?_
    refine W.region ?_
    refine S.pure tOk zOk rfl rfl rfl ?_
    refine S.pure tOk zOk rfl rfl rfl ?_
    refine S.pure tOk zOk rfl rfl rfl ?_
    refine S.pure tOk zOk rfl rfl rfl ?_
    refine thenK_n ?_
    refine W.ret ?_
    refine blockK_r ?_
    refine thenK_r ?_
    exact ⟨_, rfl, rfl, LeV.of_force rfl (by simp_all [ruleW, usTu, usOld, usNew])⟩
   ·skip
    refine W.seq ?_
    refine W.region ?_
    refine S.pure tOk zOk rfl rfl rfl ?_
    refine S.pure tOk zOk rfl rfl rfl ?_
    refine thenK_n ?_
    refine W.cond rfl (fun c4 => ?_) (fun c4 => ?_)
    ·skip
     refine W.seq ?_
     refine W.region ?_
     refine S.pure tOk zOk rfl rfl rfl ?_
     refine S.pure tOk zOk rfl rfl rfl ?_
     refine S.pure tOk zOk rfl rfl rfl ?_
     refine S.pure tOk zOk rfl rfl rfl ?_
     refine thenK_n ?_
     refine W.ret ?_
     refine blockK_r ?_
     refine thenK_r ?_
     exact ⟨_, rfl, rfl, LeV.of_force rfl (by simp_all [ruleW, usTu, usOld, usNew])⟩
    ·skip
     refine W.seq ?_
     refine W.region ?_
     refine S.pure tOk zOk rfl rfl rfl ?_
     refine S.pure tOk zOk rfl rfl rfl ?_
     refine thenK_n ?_
     refine W.cond rfl (fun c5 => ?_) (fun c5 => ?_)
     ·skip
      refine W.seq ?_
      refine W.region ?_
      refine S.pure tOk zOk rfl rfl rfl ?_
      refine S.pure tOk zOk rfl rfl rfl ?_
      refine S.pure tOk zOk rfl rfl rfl ?_
      refine S.pure tOk zOk rfl rfl rfl ?_
      refine thenK_n ?_
      refine W.ret ?_
      refine blockK_r ?_
      refine thenK_r ?_
      exact ⟨_, rfl, rfl, LeV.of_force rfl (by simp_all [ruleW, usTu, usOld, usNew])⟩
     ·skip
      refine W.seq ?_
      refine W.region ?_
      refine S.pure tOk zOk rfl rfl rfl ?_
      refine S.pure tOk zOk rfl rfl rfl ?_
      refine thenK_n ?_
      refine W.cond rfl (fun c6 => ?_) (fun c6 => ?_)
      ·skip
       refine W.seq ?_
       refine W.region ?_
       refine S.pure tOk zOk rfl rfl rfl ?_
       refine S.pure tOk zOk rfl rfl rfl ?_
       refine S.pure tOk zOk rfl rfl rfl ?_
       refine S.pure tOk zOk rfl rfl rfl ?_
       refine thenK_n ?_
       refine W.ret ?_
       refine blockK_r ?_
       refine thenK_r ?_
       exact ⟨_, rfl, rfl, LeV.of_force rfl (by simp_all [ruleW, usTu, usOld, usNew])⟩
      ·skip
       refine W.seq ?_
       refine W.region ?_
       refine S.pure tOk zOk rfl rfl rfl ?_
       refine S.pure tOk zOk rfl rfl rfl ?_
       refine thenK_n ?_
       refine W.cond rfl (fun c7 => ?_) (fun c7 => ?_)
       ·skip
        refine W.seq ?_
        refine W.region ?_
        refine S.pure tOk zOk rfl rfl rfl ?_
        refine S.pure tOk zOk rfl rfl rfl ?_
        refine S.pure tOk zOk rfl rfl rfl ?_
        refine S.pure tOk zOk rfl rfl rfl ?_
        refine thenK_n ?_
        refine W.ret ?_
        refine blockK_r ?_
        refine thenK_r ?_
        exact ⟨_, rfl, rfl, LeV.of_force rfl (by simp_all [ruleW, usTu, usOld, usNew])⟩
       ·skip
        refine W.seq ?_
        refine W.region ?_
        refine S.pure tOk zOk rfl rfl rfl ?_
        refine S.pure tOk zOk rfl rfl rfl ?_
        refine thenK_n ?_
        refine W.cond rfl (fun c8 => ?_) (fun c8 => ?_)
        ·skip
         refine W.seq ?_
         refine W.region ?_
         refine S.pure tOk zOk rfl rfl rfl ?_
         refine S.pure tOk zOk rfl rfl rfl ?_
         refine S.pure tOk zOk rfl rfl rfl ?_
         refine S.pure tOk zOk rfl rfl rfl ?_
         refine thenK_n ?_
         refine W.ret ?_
         refine blockK_r ?_
         refine thenK_r ?_
         exact ⟨_, rfl, rfl, LeV.of_force rfl (by simp_all [ruleW, usTu, usOld, usNew])⟩
        ·skip
         refine W.skip ?_
         refine blockK_n ?_
         refine thenK_n ?_
         refine W.seq ?_
         refine W.region ?_
         refine S.pure tOk zOk rfl rfl rfl ?_
         refine S.pure tOk zOk rfl rfl rfl ?_
         refine S.pure tOk zOk rfl rfl rfl ?_
         refine S.pure tOk zOk rfl rfl rfl ?_
         refine thenK_n ?_
         refine W.ret ?_
         exact ⟨_, rfl, rfl, LeV.of_force rfl (by simp_all [ruleW, usTu, usOld, usNew])⟩
theorem word_none (x : Int) : (ruleW x == []) = (decide (x < 1) || decide (x > 8)) := by
  unfold ruleW
  by_cases h : 1 ≤ x ∧ x ≤ 8
  · have : x = 1 ∨ x = 2 ∨ x = 3 ∨ x = 4 ∨ x = 5 ∨ x = 6 ∨ x = 7 ∨ x = 8 := by omega
    rcases this with h | h | h | h | h | h | h | h <;> subst h <;> decide
  · have : ∀ k : Int, 1 ≤ k → k ≤ 8 → (x == k) = false := fun k h1 h2 => by
      rw [beq_eq_false_iff_ne]; rintro rfl; exact h ⟨h1, h2⟩
    rw [this 1 (by omega) (by omega), this 2 (by omega) (by omega), this 3 (by omega) (by omega), this 4 (by omega) (by omega), this 5 (by omega) (by omega), this 6 (by omega) (by omega), this 7 (by omega) (by omega), this 8 (by omega) (by omega)]
    have : (decide (x < 1) || decide (x > 8)) = true := by
      rw [Bool.or_eq_true, decide_eq_true_eq, decide_eq_true_eq]; omega
    rw [this]; rfl
def ruleE (r : Rul) : Int :=
  if ruleW r.kd == [] then 1
  else if !pathB r.k || usTu r.kd && !pathB r.tu then 5
  else if !usTu r.kd && !(r.tu == []) || !usOld r.kd && !(r.old == []) || !usNew r.kd && !(r.nu == []) || !valueB r.old || !valueB r.nu then 2
  else if r.k == r.tu then 11
  else if r.kd == 2 && (Lib.hasPrefix r.k (r.tu ++ [47]) || Lib.hasPrefix r.tu (r.k ++ [47])) then 13
  else if usOld r.kd && r.old == r.nu then 11
  else 0
theorem ruleE_eq (r : Rul) : ruleE r = ruleC r := by
  unfold ruleE ruleC
  rw [word_none]
  split
  · rfl
  · split
    · rfl
    · rename_i h2
      split
      · rfl
      · rename_i h3
        have e : (r.k == r.tu) = (usTu r.kd && r.k == r.tu) := by
          cases hu : usTu r.kd with
          | true => rfl
          | false =>
            rw [hu] at h3
            have h4 : r.tu = [] := by
              by_cases hz : r.tu = []
              · exact hz
              · exfalso; apply h3; simp [hz]
            have h5 : pathB r.k = true := by
              cases hp : pathB r.k with
              | true => rfl
              | false => exfalso; apply h2; simp [hp]
            have : r.k ≠ [] := fun h => by rw [h, path_nil] at h5; cases h5
            rw [h4]; simpa using this
        rw [← e]
        rfl
theorem pc_RuleError (r : Rul) (hr : RulB r) :
  PureCall Tryz.prog J 5 [.agg [.d (.int .i64 r.kd), .d (.str r.k), .d (.str r.tu), .d (.str r.old), .d (.str r.nu)]] (.one (.d (.int .i64 (ruleC r)))) := by
 obtain ⟨hr1, hr2, hr3, hr4⟩ := hr
 rw [← ruleE_eq]
 refine PureCall.of_body tOk (fn := Tryz.f5) Tryz.func5 (by kernel_rfl) rfl (Nat.le_of_ble_eq_true rfl) (fun E => ?_)
 refine W.seq ?_
 refine W.region ?_
 refine S.box rfl rfl rfl rfl ?_
 refine S.pure tOk zOk rfl rfl rfl ?_
 refine thenK_n ?_
 refine W.seq ?_
 refine W.region ?_
 refine S.pure tOk zOk rfl rfl rfl ?_
 refine S.pure tOk zOk rfl rfl rfl ?_
 refine S.call rfl rfl rfl rfl rfl (pc_ruleWord _) ?_
 refine S.pure tOk zOk rfl rfl rfl ?_
 refine S.pure tOk zOk rfl rfl rfl ?_
 refine S.pure tOk zOk rfl rfl rfl ?_
 refine S.pure tOk zOk rfl rfl rfl ?_
 refine S.pure tOk zOk rfl rfl rfl ?_
 refine S.pure tOk zOk rfl rfl rfl ?_
 refine S.pure tOk zOk rfl rfl rfl ?_
 refine S.pure tOk zOk rfl rfl rfl ?_
 refine S.pure tOk zOk rfl rfl rfl ?_
 refine thenK_n ?_
 refine W.seq ?_
 refine W.block ?_
 refine W.seq ?_
 refine W.region ?_
 refine S.pure tOk zOk rfl rfl rfl ?_
 refine S.pure tOk zOk rfl rfl rfl ?_
 refine S.pure tOk zOk rfl rfl rfl ?_
 refine thenK_n ?_
 refine W.cond rfl (fun c1 => ?_) (fun c1 => ?_)
 ·skip
  refine W.seq ?_
  refine W.region ?_
  refine S.pure tOk zOk rfl rfl rfl ?_
  refine thenK_n ?_
  refine W.ret ?_
  refine blockK_r ?_
  refine thenK_r ?_
  exact ⟨_, rfl, rfl, LeV.of_force rfl (congrArg (fun x : Int => V.one (C.d (D.int .i64 x))) ((if_pos c1) : ruleE r = _)).symm⟩
 ·skip
  refine W.seq ?_
  refine W.region ?_
  refine S.pure tOk zOk rfl rfl rfl ?_
  refine S.pure tOk zOk rfl rfl rfl ?_
  refine S.call rfl rfl rfl rfl rfl (pc_outref2_PathOf r.k (by omega)) ?_
  refine S.pure tOk zOk rfl rfl rfl ?_
  refine S.pure tOk zOk rfl rfl rfl ?_
  refine S.pureG tOk zOk rfl rfl tg (fun _ => rfl) rfl ?_
  refine S.pureG tOk zOk rfl rfl tg (fun _ => rfl) rfl ?_
  refine S.pureG tOk zOk rfl rfl tg (fun _ => rfl) rfl ?_
  refine S.pureG tOk zOk rfl rfl tg (fun _ => rfl) rfl ?_
  refine S.callG rfl rfl rfl rfl tg rfl rfl (fun _ => pc_outref2_PathOf r.tu (by omega)) ?_
  refine S.pureG tOk zOk rfl rfl tg (fun _ => rfl) rfl ?_
  refine S.pickAndG tOk zOk rfl rfl rfl tg tg ?_
  refine S.pickOr tOk zOk rfl rfl tg ?_
  refine S.pure tOk zOk rfl rfl rfl ?_
  refine thenK_n ?_
  refine W.cond rfl (fun c2 => ?_) (fun c2 => ?_)
  ·skip
   refine W.seq ?_
   refine W.region ?_
   refine S.pure tOk zOk rfl rfl rfl ?_
   refine thenK_n ?_
   refine W.ret ?_
   refine blockK_r ?_
   refine thenK_r ?_
   exact ⟨_, rfl, rfl, LeV.of_force rfl (congrArg (fun x : Int => V.one (C.d (D.int .i64 x))) (((if_neg (Bool.eq_false_iff.1 c1)).trans (if_pos c2)) : ruleE r = _)).symm⟩
  ·skip
   refine W.seq ?_
   refine W.region ?_
   refine S.pure tOk zOk rfl rfl rfl ?_
   refine S.pure tOk zOk rfl rfl rfl ?_
   refine S.pure tOk zOk rfl rfl rfl ?_
   refine S.pureG tOk zOk rfl rfl tg (fun _ => rfl) rfl ?_
   refine S.pureG tOk zOk rfl rfl tg (fun _ => rfl) rfl ?_
   refine S.pureG tOk zOk rfl rfl tg (fun _ => rfl) rfl ?_
   refine S.pickAnd tOk zOk rfl rfl tg ?_
   refine S.pure tOk zOk rfl rfl rfl ?_
   refine S.pureG tOk zOk rfl rfl tg (fun _ => rfl) rfl ?_
   refine S.pureG tOk zOk rfl rfl tg (fun _ => rfl) rfl ?_
   refine S.pureG tOk zOk rfl rfl tg (fun _ => rfl) rfl ?_
   refine S.pureG tOk zOk rfl rfl tg (fun _ => rfl) rfl ?_
   refine S.pureG tOk zOk rfl rfl tg (fun _ => rfl) rfl ?_
   refine S.pureG tOk zOk rfl rfl tg (fun _ => rfl) rfl ?_
   refine S.pickAndG tOk zOk rfl rfl rfl tg tg ?_
   refine S.pickOr tOk zOk rfl rfl tg ?_
   refine S.pure tOk zOk rfl rfl rfl ?_
   refine S.pureG tOk zOk rfl rfl tg (fun _ => rfl) rfl ?_
   refine S.pureG tOk zOk rfl rfl tg (fun _ => rfl) rfl ?_
   refine S.pureG tOk zOk rfl rfl tg (fun _ => rfl) rfl ?_
   refine S.pureG tOk zOk rfl rfl tg (fun _ => rfl) rfl ?_
   refine S.pureG tOk zOk rfl rfl tg (fun _ => rfl) rfl ?_
   refine S.pureG tOk zOk rfl rfl tg (fun _ => rfl) rfl ?_
   refine S.pickAndG tOk zOk rfl rfl rfl tg tg ?_
   refine S.pickOr tOk zOk rfl rfl tg ?_
   refine S.pure tOk zOk rfl rfl rfl ?_
   refine S.pureG tOk zOk rfl rfl tg (fun _ => rfl) rfl ?_
   refine S.pureG tOk zOk rfl rfl tg (fun _ => rfl) rfl ?_
   refine S.callG rfl rfl rfl rfl tg rfl rfl (fun _ => pc_outref2_ValueOf r.old (by omega)) ?_
   refine S.pureG tOk zOk rfl rfl tg (fun _ => rfl) rfl ?_
   refine S.pickOr tOk zOk rfl rfl tg ?_
   refine S.pure tOk zOk rfl rfl rfl ?_
   refine S.pureG tOk zOk rfl rfl tg (fun _ => rfl) rfl ?_
   refine S.pureG tOk zOk rfl rfl tg (fun _ => rfl) rfl ?_
   refine S.callG rfl rfl rfl rfl tg rfl rfl (fun _ => pc_outref2_ValueOf r.nu (by omega)) ?_
   refine S.pureG tOk zOk rfl rfl tg (fun _ => rfl) rfl ?_
   refine S.pickOr tOk zOk rfl rfl tg ?_
   refine S.pure tOk zOk rfl rfl rfl ?_
   refine thenK_n ?_
   refine W.cond rfl (fun c3 => ?_) (fun c3 => ?_)
   ·skip
    refine W.seq ?_
    refine W.region ?_
    refine S.pure tOk zOk rfl rfl rfl ?_
    refine thenK_n ?_
    refine W.ret ?_
    refine blockK_r ?_
    refine thenK_r ?_
    exact ⟨_, rfl, rfl, LeV.of_force rfl (congrArg (fun x : Int => V.one (C.d (D.int .i64 x))) (((if_neg (Bool.eq_false_iff.1 c1)).trans ((if_neg (Bool.eq_false_iff.1 c2)).trans (if_pos c3))) : ruleE r = _)).symm⟩
   ·skip
    refine W.seq ?_
    refine W.region ?_
    refine S.pure tOk zOk rfl rfl rfl ?_
    refine S.pure tOk zOk rfl rfl rfl ?_
    refine S.pure tOk zOk rfl rfl rfl ?_
    refine S.pure tOk zOk rfl rfl rfl ?_
    refine S.pure tOk zOk rfl rfl rfl ?_
    refine S.pure tOk zOk rfl rfl rfl ?_
    refine thenK_n ?_
    refine W.cond rfl (fun c4 => ?_) (fun c4 => ?_)
    ·skip
     refine W.seq ?_
     refine W.region ?_
     refine S.pure tOk zOk rfl rfl rfl ?_
     refine thenK_n ?_
     refine W.ret ?_
     refine blockK_r ?_
     refine thenK_r ?_
     exact ⟨_, rfl, rfl, LeV.of_force rfl (congrArg (fun x : Int => V.one (C.d (D.int .i64 x))) (((if_neg (Bool.eq_false_iff.1 c1)).trans ((if_neg (Bool.eq_false_iff.1 c2)).trans ((if_neg (Bool.eq_false_iff.1 c3)).trans (if_pos c4)))) : ruleE r = _)).symm⟩
    ·skip
     refine W.seq ?_
     refine W.region ?_
     refine S.pure tOk zOk rfl rfl rfl ?_
     refine S.pure tOk zOk rfl rfl rfl ?_
     refine S.pure tOk zOk rfl rfl rfl ?_
     refine S.pure tOk zOk rfl rfl rfl ?_
     refine S.pureG tOk zOk rfl rfl tg (fun _ => rfl) rfl ?_
     refine S.pureG tOk zOk rfl rfl tg (fun _ => rfl) rfl ?_
     refine S.pureG tOk zOk rfl rfl tg (fun _ => rfl) rfl ?_
     refine S.pureG tOk zOk rfl rfl tg (fun _ => rfl) rfl ?_
     refine S.pureG tOk zOk rfl rfl tg (fun _ => cat_ok (by simp [-List.getD_eq_getElem?_getD]; omega)) rfl ?_
     refine S.callG rfl rfl rfl rfl tg rfl rfl (fun _ => pc_HasPrefix r.k (r.tu ++ [47])) ?_
     refine S.pureG tOk zOk rfl rfl tg (fun _ => rfl) rfl ?_
     refine S.pureG tOk zOk rfl rfl tg (fun _ => rfl) rfl ?_
     refine S.pureG tOk zOk rfl rfl tg (fun _ => rfl) rfl ?_
     refine S.pureG tOk zOk rfl rfl tg (fun _ => rfl) rfl ?_
     refine S.pureG tOk zOk rfl rfl tg (fun _ => rfl) rfl ?_
     refine S.pureG tOk zOk rfl rfl tg (fun _ => cat_ok (by simp [-List.getD_eq_getElem?_getD]; omega)) rfl ?_
     refine S.callG rfl rfl rfl rfl tg rfl rfl (fun _ => pc_HasPrefix r.tu (r.k ++ [47])) ?_
     refine S.pickOrG tOk zOk rfl rfl rfl tg tg ?_
     refine S.pickAnd tOk zOk rfl rfl tg ?_
     refine S.pure tOk zOk rfl rfl rfl ?_
     refine thenK_n ?_
     refine W.cond rfl (fun c5 => ?_) (fun c5 => ?_)
     ·skip
      refine W.seq ?_
      refine W.region ?_
      refine S.pure tOk zOk rfl rfl rfl ?_
      refine thenK_n ?_
      refine W.ret ?_
      refine blockK_r ?_
      refine thenK_r ?_
      exact ⟨_, rfl, rfl, LeV.of_force rfl (congrArg (fun x : Int => V.one (C.d (D.int .i64 x))) (((if_neg (Bool.eq_false_iff.1 c1)).trans ((if_neg (Bool.eq_false_iff.1 c2)).trans ((if_neg (Bool.eq_false_iff.1 c3)).trans ((if_neg (Bool.eq_false_iff.1 c4)).trans (if_pos c5))))) : ruleE r = _)).symm⟩
     ·skip
      refine W.seq ?_
      refine W.region ?_
      refine S.pure tOk zOk rfl rfl rfl ?_
      refine S.pure tOk zOk rfl rfl rfl ?_
      refine S.pureG tOk zOk rfl rfl tg (fun _ => rfl) rfl ?_
      refine S.pureG tOk zOk rfl rfl tg (fun _ => rfl) rfl ?_
      refine S.pureG tOk zOk rfl rfl tg (fun _ => rfl) rfl ?_
      refine S.pureG tOk zOk rfl rfl tg (fun _ => rfl) rfl ?_
      refine S.pureG tOk zOk rfl rfl tg (fun _ => rfl) rfl ?_
      refine S.pickAnd tOk zOk rfl rfl tg ?_
      refine S.pure tOk zOk rfl rfl rfl ?_
      refine thenK_n ?_
      refine W.cond rfl (fun c6 => ?_) (fun c6 => ?_)
      ·skip
       refine W.seq ?_
       refine W.region ?_
       refine S.pure tOk zOk rfl rfl rfl ?_
       refine thenK_n ?_
       refine W.ret ?_
       refine blockK_r ?_
       refine thenK_r ?_
       exact ⟨_, rfl, rfl, LeV.of_force rfl (congrArg (fun x : Int => V.one (C.d (D.int .i64 x))) (((if_neg (Bool.eq_false_iff.1 c1)).trans ((if_neg (Bool.eq_false_iff.1 c2)).trans ((if_neg (Bool.eq_false_iff.1 c3)).trans ((if_neg (Bool.eq_false_iff.1 c4)).trans ((if_neg (Bool.eq_false_iff.1 c5)).trans (if_pos c6)))))) : ruleE r = _)).symm⟩
      ·skip
       refine W.skip ?_
       refine blockK_n ?_
       refine thenK_n ?_
       refine W.seq ?_
       refine W.region ?_
       refine S.pure tOk zOk rfl rfl rfl ?_
       refine thenK_n ?_
       refine W.ret ?_
       exact ⟨_, rfl, rfl, LeV.of_force rfl (congrArg (fun x : Int => V.one (C.d (D.int .i64 x))) (((if_neg (Bool.eq_false_iff.1 c1)).trans ((if_neg (Bool.eq_false_iff.1 c2)).trans ((if_neg (Bool.eq_false_iff.1 c3)).trans ((if_neg (Bool.eq_false_iff.1 c4)).trans ((if_neg (Bool.eq_false_iff.1 c5)).trans (if_neg (Bool.eq_false_iff.1 c6))))))) : ruleE r = _)).symm⟩
end Go.Proofs.YtgknfikdajoiaaaGreatDoor
namespace Go.Proofs.YtgknfikdajoiaaaGreatDoor
open Go
open Go.RowKit
attribute [local irreducible] valueB
def ruleWs : List (List UInt8) := [[], [114, 101, 110, 97, 109, 101], [112, 114, 101, 102, 105, 120], [99, 111, 112, 121], [115, 101, 116], [100, 101, 102, 97, 117, 108, 116], [100, 114, 111, 112], [109, 97, 112], [115, 119, 97, 112]]
theorem pc_pathAB : PureCall Tryz.prog J 36 [.one (.d (.str [97, 47, 98]))] (.one (.d (.bool true))) := by
  have h := pc_ver_IsPath [97, 47, 98] (by decide)
  rw [path_ab] at h; exact h
theorem pc_valE : PureCall Tryz.prog J 37 [.one (.d (.str []))] (.one (.d (.bool true))) := by
  have h := pc_ver_IsValue [] (by decide)
  rw [val_e] at h; exact h
theorem pc_migrate_ruleWords  :
  PureCall Tryz.prog J 34 [] (.one (.d (.vec 1 (ruleWs.map fun x => [.str x])))) := by
 refine PureCall.of_body tOk (fn := Tryz.f34) Tryz.func34 (by kernel_rfl) rfl (Nat.le_of_ble_eq_true rfl) (fun E => ?_)
 refine W.seq ?_
 refine W.region ?_
 refine S.pure tOk zOk rfl rfl rfl ?_
 refine thenK_n ?_
 refine W.seq ?_
 refine W.region ?_
 refine S.slice tOk rfl rfl ?_
 refine S.pure tOk zOk rfl rfl rfl ?_
 refine thenK_n ?_
 refine W.ret ?_
 exact ⟨_, rfl, rfl, LeV.refl _⟩
theorem pc_IndexS (l : List (List UInt8)) (x : List UInt8) (hl : l.length ≤ 1000000000) :
  PureCall Tryz.prog J 40 [.one (.d (.vec 1 (l.map fun x => [.str x]))), .one (.d (.str x))] (.one (.d (.int .i64 (idxOf (fun y => x == y) l)))) := by
 refine PureCall.of_body tOk (fn := Tryz.f40) Tryz.func40 (by kernel_rfl) rfl (Nat.le_of_ble_eq_true rfl) (fun E => ?_)
 refine W.seq ?_
 refine W.region ?_
 refine S.pure tOk zOk rfl rfl rfl ?_
 refine thenK_n ?_
 refine W.seq ?_
 refine W.seq ?_
 refine W.region ?_
 refine S.pure tOk zOk rfl rfl rfl ?_
 refine S.pure tOk zOk rfl rfl rfl ?_
 refine S.pure tOk zOk rfl rfl rfl ?_
 refine thenK_n ?_
 refine W.block ?_
 refine W.loop (fun k st => ∃ i : Nat, i ≤ l.length ∧ (l.take i).any (fun y => x == y) = false ∧ k = l.length - i ∧ ∃ t b2 r2 m2, st = ⟨t, [] ++ b2, [] ++ r2, [] ++ m2⟩ ∧ holdsL t [(0, .one (.d (.vec 1 (l.map fun x => [.str x])))), (1, .one (.d (.str x))), (7, .one (.d (.int .i64 ((l.map fun x => ([.str x] : List D)).length : Int)))), (8, .one (.d (.int .i64 (i : Int))))]) (l.length) ⟨0, Nat.zero_le _, by simp, rfl, _, _, _, _, rfl, rfl, rfl, rfl, rfl, trivial⟩ ?_
 rintro k0 _ ⟨i, f0_0, f0_1, rfl, t0, bb0, rr0, mm0, rfl, hh0⟩
 refine W.keepR _ _ _ _ _ _ _ hh0 rfl ?_
 refine W.seq ?_
 refine W.region ?_
 refine S.pure tOk zOk rfl rfl rfl ?_
 refine thenK_n ?_
 refine W.seq ?_
 refine W.cond rfl (fun c1 => ?_) (fun c1 => ?_)
 ·skip
  have hi := row_lt c1
  refine W.skip ?_
  refine thenK_n ?_
  refine W.seq ?_
  refine W.block ?_
  refine W.seq ?_
  refine W.region ?_
  refine S.pure tOk zOk rfl rfl rfl ?_
  refine S.pure tOk zOk rfl rfl rfl ?_
  refine thenK_n ?_
  refine W.seq ?_
  refine W.region ?_
  refine S.pure tOk zOk rfl rfl rfl ?_
  refine S.pure tOk zOk rfl rfl rfl ?_
  refine S.pure tOk zOk rfl rfl rfl ?_
  refine S.pureE tOk zOk rfl (row_ok hi) (row_at [] hi) rfl ?_
  refine S.pure tOk zOk rfl rfl rfl ?_
  refine S.pure tOk zOk rfl rfl rfl ?_
  refine thenK_n ?_
  refine W.cond rfl (fun c2 => ?_) (fun c2 => ?_)
  ·skip
   refine W.seq ?_
   refine W.region ?_
   refine S.pure tOk zOk rfl rfl rfl ?_
   refine S.pure tOk zOk rfl rfl rfl ?_
   refine thenK_n ?_
   refine W.ret ?_
   refine blockK_r ?_
   refine thenK_r ?_
   refine thenK_r ?_
   refine blockK_r ?_
   refine thenK_r ?_
   exact ⟨_, rfl, rfl, LeV.of_eq (congrArg (fun x => V.one (C.d (D.int .i64 x))) (idxOf_at (d := []) hi f0_1 c2).symm)⟩
  ·skip
   refine W.skip ?_
   refine blockK_n ?_
   refine thenK_n ?_
   refine W.region ?_
   refine S.pure tOk zOk rfl rfl rfl ?_
   refine S.pure tOk zOk rfl rfl rfl ?_
   refine loop_n (l.length - (i + 1)) (by omega) ⟨i + 1, hi, any_take (d := []) hi f0_1 c2, rfl, _, _, _, _, rfl, rfl, rfl, rfl, inc_i64 (by omega), trivial⟩
 ·skip
  have hi := row_ge c1
  refine W.exit ?_
  refine thenK_e ?_
  refine thenK_e ?_
  refine blockK_x ?_
  refine thenK_n ?_
  refine W.seq ?_
  refine W.region ?_
  refine S.pure tOk zOk rfl rfl rfl ?_
  refine thenK_n ?_
  refine W.ret ?_
  exact ⟨_, rfl, rfl, LeV.of_eq (congrArg (fun x => V.one (C.d (D.int .i64 x))) (idxOf_none (any_end hi f0_1)).symm)⟩
theorem pc_idx6 : PureCall Tryz.prog J 40 [.one (.d (.vec 1 (ruleWs.map fun x => [.str x]))), .one (.d (.str [100, 114, 111, 112]))] (.one (.d (.int .i64 6))) := by
  have h := pc_IndexS ruleWs [100, 114, 111, 112] (by decide)
  rw [show idxOf (fun y => [100, 114, 111, 112] == y) ruleWs = 6 from by decide] at h
  exact h
theorem pc_cutA : PureCall Tryz.prog J 39 [.one (.d (.str [100, 114, 111, 112, 32, 97, 47, 98])), .one (.d (.str [32]))] (.tup [.one (.d (.str [100, 114, 111, 112])), .one (.d (.str [97, 47, 98])), .one (.d (.bool true))]) := by
  have h := pc_Cut [100, 114, 111, 112, 32, 97, 47, 98] [32] (by decide)
  rw [show Lib.cut [100, 114, 111, 112, 32, 97, 47, 98] [32] = ([100, 114, 111, 112], [97, 47, 98], true) from by decide] at h
  exact h
theorem pc_cutB : PureCall Tryz.prog J 39 [.one (.d (.str [97, 47, 98])), .one (.d (.str [32]))] (.tup [.one (.d (.str [97, 47, 98])), .one (.d (.str [])), .one (.d (.bool false))]) := by
  have h := pc_Cut [97, 47, 98] [32] (by decide)
  rw [show Lib.cut [97, 47, 98] [32] = ([97, 47, 98], [], false) from by decide] at h
  exact h
theorem pc_uses6  :
  PureCall Tryz.prog J 33 [.one (.d (.int .i64 6))] (.tup [.one (.d (.bool false)), .one (.d (.bool false)), .one (.d (.bool false))]) := by
 refine PureCall.of_body tOk (fn := Tryz.f33) Tryz.func33 (by kernel_rfl) rfl (Nat.le_of_ble_eq_true rfl) (fun E => ?_)
 refine W.seq ?_
 refine W.region ?_
 refine S.pure tOk zOk rfl rfl rfl ?_
 refine S.pure tOk zOk rfl rfl rfl ?_
 refine S.pure tOk zOk rfl rfl rfl ?_
 refine thenK_n ?_
 refine W.seq ?_
 refine W.seq ?_
 refine W.region ?_
 refine S.pure tOk zOk rfl rfl rfl ?_
 refine thenK_n ?_
 refine W.block ?_
 refine W.seq ?_
 refine W.seq ?_
 refine W.region ?_
 refine S.pure tOk zOk rfl rfl rfl ?_
 refine S.pure tOk zOk rfl rfl rfl ?_
 refine thenK_n ?_
 refine W.condF rfl rfl ?_
 refine W.seq ?_
 refine W.region ?_
 refine S.pure tOk zOk rfl rfl rfl ?_
 refine S.pure tOk zOk rfl rfl rfl ?_
 refine thenK_n ?_
 refine W.condF rfl rfl ?_
 refine W.region ?_
 refine S.pure tOk zOk rfl rfl rfl ?_
 refine S.pure tOk zOk rfl rfl rfl ?_
 refine thenK_n ?_
 refine W.condF rfl rfl ?_
 refine W.seq ?_
 refine W.seq ?_
 refine W.region ?_
 refine S.pure tOk zOk rfl rfl rfl ?_
 refine S.pure tOk zOk rfl rfl rfl ?_
 refine thenK_n ?_
 refine W.condF rfl rfl ?_
 refine W.region ?_
 refine S.pure tOk zOk rfl rfl rfl ?_
 refine S.pure tOk zOk rfl rfl rfl ?_
 refine thenK_n ?_
 refine W.condF rfl rfl ?_
 refine W.seq ?_
 refine W.seq ?_
 refine W.region ?_
 refine S.pure tOk zOk rfl rfl rfl ?_
 refine S.pure tOk zOk rfl rfl rfl ?_
 refine thenK_n ?_
 refine W.condF rfl rfl ?_
 refine W.region ?_
 refine S.pure tOk zOk rfl rfl rfl ?_
 refine S.pure tOk zOk rfl rfl rfl ?_
 refine thenK_n ?_
 refine W.condF rfl rfl ?_
 refine W.skip ?_
 refine blockK_n ?_
 refine thenK_n ?_
 refine W.seq ?_
 refine W.region ?_
 refine S.pure tOk zOk rfl rfl rfl ?_
 refine S.pure tOk zOk rfl rfl rfl ?_
 refine S.pure tOk zOk rfl rfl rfl ?_
 refine thenK_n ?_
 refine W.ret ?_
 exact ⟨_, rfl, rfl, LeV.refl _⟩
theorem pc_migrate_below (a b : List UInt8) (hb : b.length ≤ 1000000000) :
  PureCall Tryz.prog J 38 [.one (.d (.str a)), .one (.d (.str b))] (.one (.d (.bool (Lib.hasPrefix a (b ++ [47]))))) := by
 refine PureCall.of_body tOk (fn := Tryz.f38) Tryz.func38 (by kernel_rfl) rfl (Nat.le_of_ble_eq_true rfl) (fun E => ?_)
 refine W.seq ?_
 refine W.region ?_
 refine S.pure tOk zOk rfl rfl rfl ?_
 refine thenK_n ?_
 refine W.seq ?_
 refine W.region ?_
 refine S.pure tOk zOk rfl rfl rfl ?_
 refine S.pure tOk zOk rfl rfl rfl ?_
 refine S.pure tOk zOk rfl (cat_ok (by simp [-List.getD_eq_getElem?_getD]; omega)) rfl ?_
 refine S.call rfl rfl rfl rfl rfl (pc_HasPrefix a (b ++ [47])) ?_
 refine S.pure tOk zOk rfl rfl rfl ?_
 refine thenK_n ?_
 refine W.ret ?_
 exact ⟨_, rfl, rfl, LeV.refl _⟩
theorem pc_CheckRule6  :
  PureCall Tryz.prog J 10 [.agg [.d (.int .i64 6), .d (.str [97, 47, 98]), .d (.str []), .d (.str []), .d (.str [])]] (.one (.d (.int .i64 0))) := by
 refine PureCall.of_body tOk (fn := Tryz.f10) Tryz.func10 (by kernel_rfl) rfl (Nat.le_of_ble_eq_true rfl) (fun E => ?_)
 refine W.seq ?_
 refine W.region ?_
 refine S.box rfl rfl rfl rfl ?_
 refine S.pure tOk zOk rfl rfl rfl ?_
 refine thenK_n ?_
 refine W.seq ?_
 refine W.seq ?_
 refine W.region ?_
 refine S.pure tOk zOk rfl rfl rfl ?_
 refine S.pure tOk zOk rfl rfl rfl ?_
 refine S.pure tOk zOk rfl rfl rfl ?_
 refine S.pure tOk zOk rfl rfl rfl ?_
 refine S.pureG tOk zOk rfl rfl tg (fun _ => rfl) rfl ?_
 refine S.pureG tOk zOk rfl rfl tg (fun _ => rfl) rfl ?_
 refine S.pureG tOk zOk rfl rfl tg (fun _ => rfl) rfl ?_
 refine S.pickOr tOk zOk rfl rfl tg ?_
 refine thenK_n ?_
 refine W.condF rfl rfl ?_
 refine W.skip ?_
 refine thenK_n ?_
 refine W.seq ?_
 refine W.region ?_
 refine S.pure tOk zOk rfl rfl rfl ?_
 refine S.pure tOk zOk rfl rfl rfl ?_
 refine S.call rfl rfl rfl rfl rfl (pc_uses6) ?_
 refine S.pure tOk zOk rfl rfl rfl ?_
 refine S.pure tOk zOk rfl rfl rfl ?_
 refine S.pure tOk zOk rfl rfl rfl ?_
 refine S.pure tOk zOk rfl rfl rfl ?_
 refine S.pure tOk zOk rfl rfl rfl ?_
 refine S.pure tOk zOk rfl rfl rfl ?_
 refine S.pure tOk zOk rfl rfl rfl ?_
 refine thenK_n ?_
 refine W.seq ?_
 refine W.block ?_
 refine W.seq ?_
 refine W.region ?_
 refine S.pure tOk zOk rfl rfl rfl ?_
 refine S.pure tOk zOk rfl rfl rfl ?_
 refine S.call rfl rfl rfl rfl rfl (pc_pathAB) ?_
 refine S.pure tOk zOk rfl rfl rfl ?_
 refine S.pure tOk zOk rfl rfl rfl ?_
 refine S.pureG tOk zOk rfl rfl tg (fun _ => rfl) rfl ?_
 refine S.pureG tOk zOk rfl rfl tg (fun _ => rfl) rfl ?_
 refine S.pureG tOk zOk rfl rfl tg (fun _ => rfl) rfl ?_
 refine S.pureG tOk zOk rfl rfl tg (fun _ => rfl) rfl ?_
 refine S.callG rfl rfl rfl rfl tg rfl rfl (fun _ => pc_ver_IsPath [] (by decide)) ?_
 refine S.pureG tOk zOk rfl rfl tg (fun _ => rfl) rfl ?_
 refine S.pickAndG tOk zOk rfl rfl rfl tg tg ?_
 refine S.pickOr tOk zOk rfl rfl tg ?_
 refine S.pure tOk zOk rfl rfl rfl ?_
 refine thenK_n ?_
 refine W.condF rfl rfl ?_
 refine W.seq ?_
 refine W.region ?_
 refine S.pure tOk zOk rfl rfl rfl ?_
 refine S.pure tOk zOk rfl rfl rfl ?_
 refine S.pure tOk zOk rfl rfl rfl ?_
 refine S.pureG tOk zOk rfl rfl tg (fun _ => rfl) rfl ?_
 refine S.pureG tOk zOk rfl rfl tg (fun _ => rfl) rfl ?_
 refine S.pureG tOk zOk rfl rfl tg (fun _ => rfl) rfl ?_
 refine S.pickAnd tOk zOk rfl rfl tg ?_
 refine S.pure tOk zOk rfl rfl rfl ?_
 refine S.pureG tOk zOk rfl rfl tg (fun _ => rfl) rfl ?_
 refine S.pureG tOk zOk rfl rfl tg (fun _ => rfl) rfl ?_
 refine S.pureG tOk zOk rfl rfl tg (fun _ => rfl) rfl ?_
 refine S.pureG tOk zOk rfl rfl tg (fun _ => rfl) rfl ?_
 refine S.pureG tOk zOk rfl rfl tg (fun _ => rfl) rfl ?_
 refine S.pureG tOk zOk rfl rfl tg (fun _ => rfl) rfl ?_
 refine S.pickAndG tOk zOk rfl rfl rfl tg tg ?_
 refine S.pickOr tOk zOk rfl rfl tg ?_
 refine S.pure tOk zOk rfl rfl rfl ?_
 refine S.pureG tOk zOk rfl rfl tg (fun _ => rfl) rfl ?_
 refine S.pureG tOk zOk rfl rfl tg (fun _ => rfl) rfl ?_
 refine S.pureG tOk zOk rfl rfl tg (fun _ => rfl) rfl ?_
 refine S.pureG tOk zOk rfl rfl tg (fun _ => rfl) rfl ?_
 refine S.pureG tOk zOk rfl rfl tg (fun _ => rfl) rfl ?_
 refine S.pureG tOk zOk rfl rfl tg (fun _ => rfl) rfl ?_
 refine S.pickAndG tOk zOk rfl rfl rfl tg tg ?_
 refine S.pickOr tOk zOk rfl rfl tg ?_
 refine S.pure tOk zOk rfl rfl rfl ?_
 refine S.pureG tOk zOk rfl rfl tg (fun _ => rfl) rfl ?_
 refine S.pureG tOk zOk rfl rfl tg (fun _ => rfl) rfl ?_
 refine S.callG rfl rfl rfl rfl tg rfl rfl (fun _ => pc_valE) ?_
 refine S.pureG tOk zOk rfl rfl tg (fun _ => rfl) rfl ?_
 refine S.pickOr tOk zOk rfl rfl tg ?_
 refine S.pure tOk zOk rfl rfl rfl ?_
 refine S.pureG tOk zOk rfl rfl tg (fun _ => rfl) rfl ?_
 refine S.pureG tOk zOk rfl rfl tg (fun _ => rfl) rfl ?_
 refine S.callG rfl rfl rfl rfl tg rfl rfl (fun _ => pc_valE) ?_
 refine S.pureG tOk zOk rfl rfl tg (fun _ => rfl) rfl ?_
 refine S.pickOr tOk zOk rfl rfl tg ?_
 refine S.pure tOk zOk rfl rfl rfl ?_
 refine thenK_n ?_
 refine W.condF rfl rfl ?_
 refine W.seq ?_
 refine W.region ?_
 refine S.pure tOk zOk rfl rfl rfl ?_
 refine S.pure tOk zOk rfl rfl rfl ?_
 refine S.pureG tOk zOk rfl rfl tg (fun _ => rfl) rfl ?_
 refine S.pureG tOk zOk rfl rfl tg (fun _ => rfl) rfl ?_
 refine S.pureG tOk zOk rfl rfl tg (fun _ => rfl) rfl ?_
 refine S.pureG tOk zOk rfl rfl tg (fun _ => rfl) rfl ?_
 refine S.pureG tOk zOk rfl rfl tg (fun _ => rfl) rfl ?_
 refine S.pickAnd tOk zOk rfl rfl tg ?_
 refine S.pure tOk zOk rfl rfl rfl ?_
 refine thenK_n ?_
 refine W.condF rfl rfl ?_
 refine W.seq ?_
 refine W.region ?_
 refine S.pure tOk zOk rfl rfl rfl ?_
 refine S.pure tOk zOk rfl rfl rfl ?_
 refine S.pure tOk zOk rfl rfl rfl ?_
 refine S.pure tOk zOk rfl rfl rfl ?_
 refine S.pureG tOk zOk rfl rfl tg (fun _ => rfl) rfl ?_
 refine S.pureG tOk zOk rfl rfl tg (fun _ => rfl) rfl ?_
 refine S.pureG tOk zOk rfl rfl tg (fun _ => rfl) rfl ?_
 refine S.pureG tOk zOk rfl rfl tg (fun _ => rfl) rfl ?_
 refine S.callG rfl rfl rfl rfl tg rfl rfl (fun _ => pc_migrate_below [97, 47, 98] [] (by decide)) ?_
 refine S.pureG tOk zOk rfl rfl tg (fun _ => rfl) rfl ?_
 refine S.pureG tOk zOk rfl rfl tg (fun _ => rfl) rfl ?_
 refine S.pureG tOk zOk rfl rfl tg (fun _ => rfl) rfl ?_
 refine S.pureG tOk zOk rfl rfl tg (fun _ => rfl) rfl ?_
 refine S.pureG tOk zOk rfl rfl tg (fun _ => rfl) rfl ?_
 refine S.callG rfl rfl rfl rfl tg rfl rfl (fun _ => pc_migrate_below [] [97, 47, 98] (by decide)) ?_
 refine S.pickOrG tOk zOk rfl rfl rfl tg tg ?_
 refine S.pickAnd tOk zOk rfl rfl tg ?_
 refine S.pure tOk zOk rfl rfl rfl ?_
 refine thenK_n ?_
 refine W.condF rfl rfl ?_
 refine W.seq ?_
 refine W.region ?_
 refine S.pure tOk zOk rfl rfl rfl ?_
 refine S.pure tOk zOk rfl rfl rfl ?_
 refine S.pureG tOk zOk rfl rfl tg (fun _ => rfl) rfl ?_
 refine S.pureG tOk zOk rfl rfl tg (fun _ => rfl) rfl ?_
 refine S.pureG tOk zOk rfl rfl tg (fun _ => rfl) rfl ?_
 refine S.pureG tOk zOk rfl rfl tg (fun _ => rfl) rfl ?_
 refine S.pureG tOk zOk rfl rfl tg (fun _ => rfl) rfl ?_
 refine S.pickAnd tOk zOk rfl rfl tg ?_
 refine S.pure tOk zOk rfl rfl rfl ?_
 refine thenK_n ?_
 refine W.condF rfl rfl ?_
 refine W.skip ?_
 refine blockK_n ?_
 refine thenK_n ?_
 refine W.seq ?_
 refine W.region ?_
 refine S.pure tOk zOk rfl rfl rfl ?_
 refine thenK_n ?_
 refine W.ret ?_
 exact ⟨_, rfl, rfl, LeV.refl _⟩
theorem pc_ParseRule6  :
  PureCall Tryz.prog J 11 [.one (.d (.str [100, 114, 111, 112, 32, 97, 47, 98]))] (.tup [.agg [.d (.int .i64 6), .d (.str [97, 47, 98]), .d (.str []), .d (.str []), .d (.str [])], .one (.d (.int .i64 0))]) := by
 refine PureCall.of_body tOk (fn := Tryz.f11) Tryz.func11 (by kernel_rfl) rfl (Nat.le_of_ble_eq_true rfl) (fun E => ?_)
 refine W.seq ?_
 refine W.region ?_
 refine S.alloc tOk rfl rfl rfl rfl ?_
 refine S.pure tOk zOk rfl rfl rfl ?_
 refine thenK_n ?_
 refine W.seq ?_
 refine W.seq ?_
 refine W.region ?_
 refine S.pure tOk zOk rfl rfl rfl ?_
 refine S.pure tOk zOk rfl rfl rfl ?_
 refine S.pure tOk zOk rfl rfl rfl ?_
 refine thenK_n ?_
 refine W.condF rfl rfl ?_
 refine W.skip ?_
 refine thenK_n ?_
 refine W.seq ?_
 refine W.region ?_
 refine S.pure tOk zOk rfl rfl rfl ?_
 refine S.call rfl rfl rfl rfl rfl (pc_cutA) ?_
 refine S.pure tOk zOk rfl rfl rfl ?_
 refine S.pure tOk zOk rfl rfl rfl ?_
 refine S.pure tOk zOk rfl rfl rfl ?_
 refine S.pure tOk zOk rfl rfl rfl ?_
 refine S.pure tOk zOk rfl rfl rfl ?_
 refine S.pure tOk zOk rfl rfl rfl ?_
 refine S.pure tOk zOk rfl rfl rfl ?_
 refine thenK_n ?_
 refine W.seq ?_
 refine W.region ?_
 refine S.call rfl rfl rfl rfl rfl (pc_migrate_ruleWords) ?_
 refine S.pure tOk zOk rfl rfl rfl ?_
 refine S.call rfl rfl rfl rfl rfl (pc_idx6) ?_
 refine S.pure tOk zOk rfl rfl rfl ?_
 refine S.alloc tOk rfl rfl rfl rfl ?_
 refine S.store tOk rfl rfl rfl rfl rfl rfl rfl rfl ?_
 refine thenK_n ?_
 refine W.seq ?_
 refine W.seq ?_
 refine W.region ?_
 refine S.pure tOk zOk rfl rfl rfl ?_
 refine S.pure tOk zOk rfl rfl rfl ?_
 refine S.pure tOk zOk rfl rfl rfl ?_
 refine S.pureG tOk zOk rfl rfl tg (fun _ => rfl) rfl ?_
 refine S.pureG tOk zOk rfl rfl tg (fun _ => rfl) rfl ?_
 refine S.pureG tOk zOk rfl rfl tg (fun _ => rfl) rfl ?_
 refine S.pickOr tOk zOk rfl rfl tg ?_
 refine thenK_n ?_
 refine W.condF rfl rfl ?_
 refine W.skip ?_
 refine thenK_n ?_
 refine W.seq ?_
 refine W.region ?_
 refine S.pure tOk zOk rfl rfl rfl ?_
 refine S.pure tOk zOk rfl rfl rfl ?_
 refine S.call rfl rfl rfl rfl rfl (pc_uses6) ?_
 refine S.pure tOk zOk rfl rfl rfl ?_
 refine S.pure tOk zOk rfl rfl rfl ?_
 refine S.pure tOk zOk rfl rfl rfl ?_
 refine S.pure tOk zOk rfl rfl rfl ?_
 refine S.pure tOk zOk rfl rfl rfl ?_
 refine S.pure tOk zOk rfl rfl rfl ?_
 refine S.pure tOk zOk rfl rfl rfl ?_
 refine thenK_n ?_
 refine W.seq ?_
 refine W.region ?_
 refine S.pure tOk zOk rfl rfl rfl ?_
 refine thenK_n ?_
 refine W.seq ?_
 refine W.region ?_
 refine S.pure tOk zOk rfl rfl rfl ?_
 refine S.call rfl rfl rfl rfl rfl (pc_cutB) ?_
 refine S.pure tOk zOk rfl rfl rfl ?_
 refine S.pure tOk zOk rfl rfl rfl ?_
 refine S.pure tOk zOk rfl rfl rfl ?_
 refine S.pure tOk zOk rfl rfl rfl ?_
 refine S.pure tOk zOk rfl rfl rfl ?_
 refine S.store tOk rfl rfl rfl rfl rfl rfl rfl rfl ?_
 refine S.pure tOk zOk rfl rfl rfl ?_
 refine S.pure tOk zOk rfl rfl rfl ?_
 refine thenK_n ?_
 refine W.seq ?_
 refine W.seq ?_
 refine W.region ?_
 refine S.pure tOk zOk rfl rfl rfl ?_
 refine S.pure tOk zOk rfl rfl rfl ?_
 refine S.pure tOk zOk rfl rfl rfl ?_
 refine S.pure tOk zOk rfl rfl rfl ?_
 refine S.pureG tOk zOk rfl rfl tg (fun _ => rfl) rfl ?_
 refine S.pureG tOk zOk rfl rfl tg (fun _ => rfl) rfl ?_
 refine S.pureG tOk zOk rfl rfl tg (fun _ => rfl) rfl ?_
 refine S.pureG tOk zOk rfl rfl tg (fun _ => rfl) rfl ?_
 refine S.pickOrG tOk zOk rfl rfl rfl tg tg ?_
 refine S.pureG tOk zOk rfl rfl tg (fun _ => rfl) rfl ?_
 refine S.pureG tOk zOk rfl rfl tg (fun _ => rfl) rfl ?_
 refine S.pickOrG tOk zOk rfl rfl rfl tg tg ?_
 refine S.pureG tOk zOk rfl rfl tg (fun _ => rfl) rfl ?_
 refine S.pickOr tOk zOk rfl rfl tg ?_
 refine thenK_n ?_
 refine W.condF rfl rfl ?_
 refine W.skip ?_
 refine thenK_n ?_
 refine W.seq ?_
 refine W.seq ?_
 refine W.region ?_
 refine S.pure tOk zOk rfl rfl rfl ?_
 refine thenK_n ?_
 refine W.condF rfl rfl ?_
 refine W.skip ?_
 refine thenK_n ?_
 refine W.seq ?_
 refine W.seq ?_
 refine W.region ?_
 refine S.pure tOk zOk rfl rfl rfl ?_
 refine thenK_n ?_
 refine W.condF rfl rfl ?_
 refine W.skip ?_
 refine thenK_n ?_
 refine W.seq ?_
 refine W.seq ?_
 refine W.region ?_
 refine S.pure tOk zOk rfl rfl rfl ?_
 refine thenK_n ?_
 refine W.condF rfl rfl ?_
 refine W.skip ?_
 refine thenK_n ?_
 refine W.seq ?_
 refine W.seq ?_
 refine W.region ?_
 refine S.pure tOk zOk rfl rfl rfl ?_
 refine S.pure tOk zOk rfl rfl rfl ?_
 refine thenK_n ?_
 refine W.condF rfl rfl ?_
 refine W.skip ?_
 refine thenK_n ?_
 refine W.seq ?_
 refine W.seq ?_
 refine W.region ?_
 refine S.pure tOk zOk rfl rfl rfl ?_
 refine S.call rfl rfl rfl rfl rfl (pc_CheckRule6) ?_
 refine S.pure tOk zOk rfl rfl rfl ?_
 refine thenK_n ?_
 refine W.seq ?_
 refine W.region ?_
 refine S.pure tOk zOk rfl rfl rfl ?_
 refine S.pure tOk zOk rfl rfl rfl ?_
 refine thenK_n ?_
 refine W.condF rfl rfl ?_
 refine W.skip ?_
 refine thenK_n ?_
 refine W.seq ?_
 refine W.region ?_
 refine S.pure tOk zOk rfl rfl rfl ?_
 refine S.store tOk rfl rfl rfl rfl rfl rfl rfl rfl ?_
 refine S.pure tOk zOk rfl rfl rfl ?_
 refine thenK_n ?_
 refine W.ret ?_
 exact ⟨_, rfl, rfl, LeV.refl _⟩
theorem pc_outlaw2_migrates  :
  PureCall Tryz.prog J 9 [] (.one (.d (.bool true))) := by
 refine PureCall.of_body tOk (fn := Tryz.f9) Tryz.func9 (by kernel_rfl) rfl (Nat.le_of_ble_eq_true rfl) (fun E => ?_)
 refine W.seq ?_
 refine W.region ?_
 refine S.pure tOk zOk rfl rfl rfl ?_
 refine thenK_n ?_
 refine W.seq ?_
 refine W.region ?_
 refine S.call rfl rfl rfl rfl rfl (pc_ParseRule6) ?_
 refine S.pure tOk zOk rfl rfl rfl ?_
 refine S.pure tOk zOk rfl rfl rfl ?_
 refine S.pure tOk zOk rfl rfl rfl ?_
 refine S.alloc tOk rfl rfl rfl rfl ?_
 refine S.store tOk rfl rfl rfl rfl rfl rfl rfl rfl ?_
 refine S.pure tOk zOk rfl rfl rfl ?_
 refine thenK_n ?_
 refine W.seq ?_
 refine W.region ?_
 refine S.pure tOk zOk rfl rfl rfl ?_
 refine S.pure tOk zOk rfl rfl rfl ?_
 refine S.pure tOk zOk rfl rfl rfl ?_
 refine S.pureG tOk zOk rfl rfl tg (fun _ => rfl) rfl ?_
 refine S.pureG tOk zOk rfl rfl tg (fun _ => rfl) rfl ?_
 refine S.pureG tOk zOk rfl rfl tg (fun _ => rfl) rfl ?_
 refine S.pickAnd tOk zOk rfl rfl tg ?_
 refine S.pure tOk zOk rfl rfl rfl ?_
 refine thenK_n ?_
 refine W.ret ?_
 exact ⟨_, rfl, rfl, LeV.refl _⟩
end Go.Proofs.YtgknfikdajoiaaaGreatDoor
namespace Go.Proofs.YtgknfikdajoiaaaGreatDoor
open Go
theorem inv_1 {r : Rul} (h : (ruleC r != 0) = true) : invR r = (Rul.z, ruleC r) := if_pos h
theorem inv_2 {r : Rul} (h : (ruleC r != 0) = false) (c : (r.kd == 1 || r.kd == 2) = true) : invR r = (⟨r.kd, r.tu, r.k, r.old, r.nu⟩, 0) := by unfold invR; rw [if_neg (Bool.eq_false_iff.1 h), if_pos c]
theorem inv_7 {r : Rul} (h : (ruleC r != 0) = false) (c : (r.kd == 1 || r.kd == 2) = false) (c7 : (r.kd == 7) = true) : invR r = (⟨r.kd, r.k, r.tu, r.nu, r.old⟩, 0) := by
  unfold invR; rw [if_neg (Bool.eq_false_iff.1 h), if_neg (Bool.eq_false_iff.1 c), if_pos c7]
theorem inv_8 {r : Rul} (h : (ruleC r != 0) = false) (c : (r.kd == 1 || r.kd == 2) = false) (c7 : (r.kd == 7) = false) (c8 : (r.kd == 8) = true) : invR r = (r, 0) := by
  unfold invR; rw [if_neg (Bool.eq_false_iff.1 h), if_neg (Bool.eq_false_iff.1 c), if_neg (Bool.eq_false_iff.1 c7), if_pos c8]
theorem inv_0 {r : Rul} (h : (ruleC r != 0) = false) (c : (r.kd == 1 || r.kd == 2) = false) (c7 : (r.kd == 7) = false) (c8 : (r.kd == 8) = false) : invR r = (Rul.z, 12) := by
  unfold invR; rw [if_neg (Bool.eq_false_iff.1 h), if_neg (Bool.eq_false_iff.1 c), if_neg (Bool.eq_false_iff.1 c7), if_neg (Bool.eq_false_iff.1 c8)]
theorem two_or {r : Rul} (h : (r.kd == 1) = false) (h2 : (r.kd == 2) = false) : (r.kd == 1 || r.kd == 2) = false := by rw [h, h2]; rfl
theorem two_1 {r : Rul} (h : (r.kd == 1) = true) : (r.kd == 1 || r.kd == 2) = true := by rw [h]; rfl
theorem two_2 {r : Rul} (h : (r.kd == 2) = true) : (r.kd == 1 || r.kd == 2) = true := by rw [h, Bool.or_true]
theorem inv_12 {r : Rul} (h : (ruleC r != 0) = false) (c : (r.kd == 1 || r.kd == 2) = true) : invR r = (⟨r.kd, r.tu, r.k, [], []⟩, 0) := by
  have ho := rul_ok (by simpa using h)
  have hk : r.kd = 1 ∨ r.kd = 2 := by simpa using c
  rw [inv_2 h c, ho.old0 (by rcases hk with e | e <;> rw [e] <;> rfl), ho.nu0 (by rcases hk with e | e <;> rw [e] <;> rfl)]
theorem inv_70 {r : Rul} (h : (ruleC r != 0) = false) (c : (r.kd == 1 || r.kd == 2) = false) (c7 : (r.kd == 7) = true) : invR r = (⟨r.kd, r.k, [], r.nu, r.old⟩, 0) := by
  have ho := rul_ok (by simpa using h)
  have hk : r.kd = 7 := by simpa using c7
  rw [inv_7 h c c7, ho.tu0 (by rw [hk]; rfl)]
end Go.Proofs.YtgknfikdajoiaaaGreatDoor
namespace Go.Proofs.YtgknfikdajoiaaaGreatDoor
open Go
theorem value_len {v : L8} (h : valueB v = true) : v.length ≤ 1000 := by
  unfold valueB at h
  rw [Bool.or_eq_true] at h
  rcases h with h | h
  · rw [beq_iff_eq.1 h]; simp
  · unfold eachB at h; simp at h; omega
end Go.Proofs.YtgknfikdajoiaaaGreatDoor
namespace Go.Proofs.YtgknfikdajoiaaaGreatDoor
open Go
theorem qAt_le {s : List UInt8} {f : Nat} (hf : f < s.length) (h : (qAt s f).isSome = true) : f < qE (qAt s f) ∧ qE (qAt s f) ≤ s.length ∧ (qT (qAt s f)).length ≤ s.length := by
  obtain ⟨⟨x, e⟩, hq⟩ := Option.isSome_iff_exists.1 h
  have := qL_le _ _ _ _ _ _ (Nat.le_refl _) (show quoteL (s.drop (f + 1)) [] (f + 1) = some (x, e) from hq)
  rw [hq]
  simp at this
  simp [qE, qT]
  omega
end Go.Proofs.YtgknfikdajoiaaaGreatDoor
namespace Go.Proofs.YtgknfikdajoiaaaGreatDoor
open Go
def quoP (s : L8) : L8 × L8 × Bool :=
  if s == [] || (bI (s.getD 0 0) != 34) then ([], [], false)
  else match qAt s 0 with
    | some q => (q.1, s.drop q.2, true)
    | none => ([], [], false)
theorem quo_1 {s : L8} (h : (s == [] || (bI (s.getD 0 0) != 34)) = true) : quoP s = ([], [], false) := if_pos h
theorem quo_2 {s : L8} (h : (s == [] || (bI (s.getD 0 0) != 34)) = false) {x : L8} {e : Nat} (hq : qAt s 0 = some (x, e)) : quoP s = (x, s.drop e, true) := by
  unfold quoP; rw [if_neg (Bool.eq_false_iff.1 h), hq]
theorem quo_3 {s : L8} (h : (s == [] || (bI (s.getD 0 0) != 34)) = false) (hq : qAt s 0 = none) : quoP s = ([], [], false) := by
  unfold quoP; rw [if_neg (Bool.eq_false_iff.1 h), hq]
theorem quo_nil {s : L8} (h : (s == [] || (bI (s.getD 0 0) != 34)) = false) : 0 < s.length := by
  cases s with
  | nil => simp at h
  | cons a l => simp
theorem quo_le (s : L8) : (quoP s).1.length ≤ s.length ∧ (quoP s).2.1.length ≤ s.length := by
  unfold quoP
  split
  · simp
  · rename_i h
    have hs := quo_nil (s := s) (Bool.eq_false_iff.2 h)
    cases hq : qAt s 0 with
    | none => simp
    | some q =>
      have h1 := qAt_le hs (by rw [hq]; rfl)
      rw [hq] at h1
      exact ⟨h1.2.2, by simp⟩
theorem quo_b {s : L8} {N : Nat} (h : s.length ≤ N) : (quoP s).1.length ≤ N := Nat.le_trans (quo_le s).1 h
theorem quo_r {s : L8} {N : Nat} (h : s.length ≤ N) : (quoP s).2.1.length ≤ N := Nat.le_trans (quo_le s).2 h
theorem drop_b {s : L8} {N : Nat} (h : s.length ≤ N) : (s.drop 1).length ≤ N := by simp; omega
theorem pre_len {s : L8} {a : Bool} (h : (a || !Lib.hasPrefix s [32]) = false) : 1 ≤ s.length := by
  rw [Bool.or_eq_false_iff] at h
  have h2 : Lib.hasPrefix s [32] = true := by simpa using h.2
  obtain ⟨z, rfl⟩ := hasPrefix_iff.1 h2
  simp
theorem q0 {s : L8} (h : (!(s == [])) = true) : (decide (0 ≤ (0 : Int)) && decide ((0 : Int) < (s.length : Int))) = true := by
  cases s with
  | nil => simp at h
  | cons a l => simp
theorem sl_drop (s : L8) (i : Nat) : V.one (.d (.str ((s.take ((s.length : Int)).toNat).drop (((i + 1 : Nat) : Int)).toNat))) = V.one (.d (.str (s.drop (i + 1)))) := by
  rw [Int.toNat_natCast, Int.toNat_natCast, List.take_length]
theorem sl_drop1 (s : L8) : V.one (.d (.str ((s.take ((s.length : Int)).toNat).drop ((1 : Int)).toNat))) = V.one (.d (.str (s.drop 1))) := by
  rw [Int.toNat_natCast, List.take_length]; rfl
def prEnd (r : Rul) (rest : L8) : Rul × Int := if !(rest == []) then (Rul.z, 8) else if ruleC r != 0 then (Rul.z, ruleC r) else (r, 0)
def prNew (r : Rul) (rest : L8) : Rul × Int :=
  if usNew r.kd then (if !(quoP rest).2.2 then (Rul.z, 8) else prEnd ⟨r.kd, r.k, r.tu, r.old, (quoP rest).1⟩ (quoP rest).2.1) else prEnd r rest
def prOld (r : Rul) (rest : L8) : Rul × Int :=
  if usOld r.kd then (if !(quoP rest).2.2 || !Lib.hasPrefix (quoP rest).2.1 [32] then (Rul.z, 8) else prNew ⟨r.kd, r.k, r.tu, (quoP rest).1, r.nu⟩ ((quoP rest).2.1.drop 1)) else prNew r rest
def prTo (r : Rul) (rest : L8) : Rul × Int :=
  if usTu r.kd then (if rest == [] || Lib.contains rest [32] then (Rul.z, 8) else prOld ⟨r.kd, r.k, rest, r.old, r.nu⟩ []) else prOld r rest
def parK (kd : Int) (rest : L8) : Rul × Int :=
  if (Lib.cut rest [32]).1 == [] || ((Lib.cut rest [32]).2.2 != (usTu kd || usOld kd || usNew kd)) then (Rul.z, 8) else prTo ⟨kd, (Lib.cut rest [32]).1, [], [], []⟩ (Lib.cut rest [32]).2.1
end Go.Proofs.YtgknfikdajoiaaaGreatDoor
namespace Go.Proofs.YtgknfikdajoiaaaGreatDoor
open Go
open Go.RowKit
attribute [local irreducible] pathB valueB quoteL qAt ruleC idxOf quoP Lib.cut Lib.contains
theorem pc_mquoted (s : List UInt8) (hs : s.length ≤ 4000) :
  PureCall Tryz.prog J 42 [.one (.d (.str s))] (.tup [.one (.d (.str (quoP s).1)), .one (.d (.str (quoP s).2.1)), .one (.d (.bool (quoP s).2.2))]) := by
 refine PureCall.of_body tOk (fn := Tryz.f42) Tryz.func42 (by kernel_rfl) rfl (Nat.le_of_ble_eq_true rfl) (fun E => ?_)
 refine W.seq ?_
 refine W.region ?_
 refine S.pure tOk zOk rfl rfl rfl ?_
 refine S.pure tOk zOk rfl rfl rfl ?_
 refine S.pure tOk zOk rfl rfl rfl ?_
 refine thenK_n ?_
 refine W.seq ?_
 refine W.seq ?_
 refine W.region ?_
 refine S.pure tOk zOk rfl rfl rfl ?_
 refine S.pure tOk zOk rfl rfl rfl ?_
 refine S.pure tOk zOk rfl rfl rfl ?_
 refine S.pureG tOk zOk rfl rfl tg (fun _ => rfl) rfl ?_
 refine S.pureG tOk zOk rfl rfl tg (fun h => q0 h) rfl ?_
 refine S.pureG tOk zOk rfl rfl tg (fun _ => rfl) rfl ?_
 refine S.pickOr tOk zOk rfl rfl tg ?_
 refine thenK_n ?_
 refine W.cond rfl (fun c1 => ?_) (fun c1 => ?_)
 ·skip
  refine W.seq ?_
  refine W.region ?_
  refine S.pure tOk zOk rfl rfl rfl ?_
  refine S.pure tOk zOk rfl rfl rfl ?_
  refine S.pure tOk zOk rfl rfl rfl ?_
  refine thenK_n ?_
  refine W.ret ?_
  refine thenK_r ?_
  exact ⟨_, rfl, rfl, LeV.of_force rfl (by rw [quo_1 c1]; rfl)⟩
 ·skip
  have hf := quo_nil c1
  refine W.skip ?_
  refine thenK_n ?_
  refine W.seq ?_
  refine W.region ?_
  refine S.pure tOk zOk rfl rfl rfl ?_
  refine thenK_n ?_
  refine W.seq ?_
  refine W.seq ?_
  refine W.region ?_
  refine S.pure tOk zOk rfl rfl rfl ?_
  refine thenK_n ?_
  refine W.newRow 5 1 5 rfl ?_
  refine W.block ?_
  refine W.loop (fun k st => ∃ i : Nat, ∃ o : List UInt8, ∃ v : Nat, ∃ al : Bool, i ≤ s.length ∧ quoteL (s.drop i) o i = (qAt s 0) ∧ o.length ≤ i ∧ k = s.length - i ∧ ∃ t b2 r2 m2, st = ⟨t, [] ++ b2, [some ⟨al, v, 1, 5, byteRow o⟩] ++ r2, [] ++ m2⟩ ∧ holdsL t [(0, .one (.d (.str s))), (5, .one (.row 0 v 0 (byteRow o).length)), (6, .one (.d (.int .i64 (i : Int))))]) (s.length - 1) ⟨1, [], 0, false, hf, q_start, Nat.zero_le _, rfl, _, _, _, _, rfl, rfl, rfl, rfl, trivial⟩ ?_
  rintro k0 _ ⟨i, o, v, al, f0_0, f0_1, f0_2, rfl, t0, bb0, rr0, mm0, rfl, hh0⟩
  refine W.keepR _ _ _ _ _ _ _ hh0 rfl ?_
  refine W.seq ?_
  refine W.seq ?_
  refine W.region ?_
  refine S.pure tOk zOk rfl rfl rfl ?_
  refine S.pure tOk zOk rfl rfl rfl ?_
  refine S.pure tOk zOk rfl rfl rfl ?_
  refine S.pure tOk zOk rfl rfl rfl ?_
  refine thenK_n ?_
  refine W.cond rfl (fun c2 => ?_) (fun c2 => ?_)
  ·skip
   have hi : i < s.length := by simpa using c2
   refine W.skip ?_
   refine thenK_n ?_
   refine W.seq ?_
   refine W.block ?_
   refine W.seq ?_
   refine W.seq ?_
   refine W.region ?_
   refine S.pure tOk zOk rfl rfl rfl ?_
   refine S.pure tOk zOk rfl rfl rfl ?_
   refine S.pure tOk zOk rfl (str_ok hi) rfl ?_
   refine thenK_n ?_
   refine W.block ?_
   refine W.seq ?_
   refine W.region ?_
   refine S.pure tOk zOk rfl rfl rfl ?_
   refine S.pure tOk zOk rfl rfl rfl ?_
   refine thenK_n ?_
   refine W.cond rfl (fun c3 => ?_) (fun c3 => ?_)
   ·skip
    have hq := qL_q hi (u8i (k := 34) c3) f0_1
    refine W.seq ?_
    refine W.regionS 9 mixed rfl (by kernel_rfl) ?_
    refine AnyZ.eager 0 rfl (by kernel_rfl) (Eag.pure tOk zOk rfl (fun _ _ _ => rfl) rfl rfl) ?_
    refine AnyZ.eager 2 rfl (by kernel_rfl) (Eag.pure tOk zOk rfl (fun _ _ _ => rfl) rfl rfl) ?_
    refine AnyZ.eager 3 rfl (by kernel_rfl) (Eag.pure tOk zOk rfl (fun _ _ _ => rfl) rfl rfl) ?_
    refine AnyZ.eager 4 rfl (by kernel_rfl) (Eag.pure tOk zOk rfl (fun _ _ _ => congrArg (fun x => some (_, x)) (inc_i64 (by omega))) rfl rfl) ?_
    refine AnyZ.two 1 5 (by kernel_rfl) rfl rfl ?_ ?_
    ·skip
     refine OpZ.convRow tOk o rfl rfl rfl rfl rfl rfl rfl rfl (by simp [byteRow]) ?_
     refine AnyZ.eager 6 rfl (by kernel_rfl) (Eag.pure tOk zOk rfl (fun _ _ _ => rfl) rfl rfl) ?_
     refine AnyZ.one 5 (by kernel_rfl) rfl ?_
     refine OpZ.d ?_
     refine D.pureE tOk zOk rfl rfl (sl_ok (by omega) (by omega) (by omega)) (sl_drop s i) rfl ?_
     refine WD.nil ?_
     refine AnyZ.eager 7 rfl (by kernel_rfl) (Eag.pure tOk zOk rfl (fun _ _ _ => rfl) rfl rfl) ?_
     refine AnyZ.eager 8 rfl (by kernel_rfl) (Eag.pure tOk zOk rfl (fun _ _ _ => rfl) rfl rfl) ?_
     refine AnyZ.nil (by kernel_rfl) ?_
     refine thenK_n ?_
     refine W.ret ?_
     refine blockK_r ?_
     refine thenK_r ?_
     refine blockK_r ?_
     refine thenK_r ?_
     refine thenK_r ?_
     refine blockK_r ?_
     refine thenK_r ?_
     exact ⟨_, rfl, rfl, LeV.of_force rfl (by first | (rw [quo_2 c1 hq]; rfl) | (rw [quo_3 c1 hq]; rfl))⟩
    ·skip
     refine OpZ.d ?_
     refine D.pureE tOk zOk rfl rfl (sl_ok (by omega) (by omega) (by omega)) (sl_drop s i) rfl ?_
     refine WD.nil ?_
     refine AnyZ.one 1 (by kernel_rfl) rfl ?_
     refine OpZ.convRow tOk o rfl rfl rfl rfl rfl rfl rfl rfl (by simp [byteRow]) ?_
     refine AnyZ.eager 6 rfl (by kernel_rfl) (Eag.pure tOk zOk rfl (fun _ _ _ => rfl) rfl rfl) ?_
     refine AnyZ.eager 7 rfl (by kernel_rfl) (Eag.pure tOk zOk rfl (fun _ _ _ => rfl) rfl rfl) ?_
     refine AnyZ.eager 8 rfl (by kernel_rfl) (Eag.pure tOk zOk rfl (fun _ _ _ => rfl) rfl rfl) ?_
     refine AnyZ.nil (by kernel_rfl) ?_
     refine thenK_n ?_
     refine W.ret ?_
     refine blockK_r ?_
     refine thenK_r ?_
     refine blockK_r ?_
     refine thenK_r ?_
     refine thenK_r ?_
     refine blockK_r ?_
     refine thenK_r ?_
     exact ⟨_, rfl, rfl, LeV.of_force rfl (by first | (rw [quo_2 c1 hq]; rfl) | (rw [quo_3 c1 hq]; rfl))⟩
   ·skip
    have hc := u8i (c := s.getD i 0) (k := 34) c3
    refine W.seq ?_
    refine W.region ?_
    refine S.pure tOk zOk rfl rfl rfl ?_
    refine S.pure tOk zOk rfl rfl rfl ?_
    refine thenK_n ?_
    refine W.cond rfl (fun c4 => ?_) (fun c4 => ?_)
    ·skip
     have hb := u8i (c := s.getD i 0) (k := 92) c4
     refine W.seq ?_
     refine W.region ?_
     refine S.pure tOk zOk rfl rfl rfl ?_
     refine S.pureE tOk zOk rfl rfl (inc_i64 (by omega)) rfl ?_
     refine S.pure tOk zOk rfl rfl rfl ?_
     refine thenK_n ?_
     refine W.seq ?_
     refine W.region ?_
     refine S.pure tOk zOk rfl rfl rfl ?_
     refine S.pure tOk zOk rfl rfl rfl ?_
     refine S.pure tOk zOk rfl rfl rfl ?_
     refine S.pure tOk zOk rfl rfl rfl ?_
     refine S.pure tOk zOk rfl rfl rfl ?_
     refine S.pureG tOk zOk rfl rfl tg (fun _ => rfl) rfl ?_
     refine S.pureG tOk zOk rfl rfl tg (fun _ => rfl) rfl ?_
     refine S.pureG tOk zOk rfl rfl tg (fun h => qidx hi h) rfl ?_
     refine S.pureG tOk zOk rfl rfl tg (fun _ => rfl) rfl ?_
     refine S.pureG tOk zOk rfl rfl tg (fun _ => rfl) rfl ?_
     refine S.pureG tOk zOk rfl rfl tg (fun _ => rfl) rfl ?_
     refine S.pureG tOk zOk rfl rfl tg (fun _ => rfl) rfl ?_
     refine S.pureG tOk zOk rfl rfl tg (fun h => qidx hi (andl h)) rfl ?_
     refine S.pureG tOk zOk rfl rfl tg (fun _ => rfl) rfl ?_
     refine S.pickAndG tOk zOk rfl rfl rfl tg tg ?_
     refine S.pickOr tOk zOk rfl rfl tg ?_
     refine thenK_n ?_
     refine W.cond rfl (fun c5 => ?_) (fun c5 => ?_)
     ·skip
      have hq := qL_bad hi hc hb (qbad c5) f0_1
      refine W.seq ?_
      refine W.region ?_
      refine S.pure tOk zOk rfl rfl rfl ?_
      refine S.pure tOk zOk rfl rfl rfl ?_
      refine S.pure tOk zOk rfl rfl rfl ?_
      refine thenK_n ?_
      refine W.ret ?_
      refine blockK_r ?_
      refine thenK_r ?_
      refine blockK_r ?_
      refine thenK_r ?_
      refine thenK_r ?_
      refine blockK_r ?_
      refine thenK_r ?_
      exact ⟨_, rfl, rfl, LeV.of_force rfl (by first | (rw [quo_2 c1 hq]; rfl) | (rw [quo_3 c1 hq]; rfl))⟩
     ·skip
      have hi1 : i + 1 < s.length := qok1 hi c5
      have hd := qok2 c5
      refine W.skip ?_
      refine blockK_n ?_
      refine thenK_n ?_
      refine W.region ?_
      refine S.pure tOk zOk rfl rfl rfl ?_
      refine S.pure tOk zOk rfl rfl rfl ?_
      refine S.pure tOk zOk rfl rfl rfl ?_
      refine S.pure tOk zOk rfl (by first | exact str_ok hi1 | exact str_ok hi) rfl ?_
      refine S.slice tOk rfl rfl ?_
      refine S.append tOk rfl rfl rfl rfl rfl rfl rfl rfl rfl rfl rfl rfl (qlen hs f0_0 f0_2) rfl (byteRow_add o (s.getD (i + 1) 0)) rfl ?_
      refine S.pure tOk zOk rfl rfl rfl ?_
      refine blockK_n ?_
      refine thenK_n ?_
      refine W.region ?_
      refine S.pure tOk zOk rfl rfl rfl ?_
      refine S.pure tOk zOk rfl rfl rfl ?_
      refine S.pure tOk zOk rfl rfl rfl ?_
      refine loop_n (s.length - _) (by first | exact qm2 hi | exact qm1 hi) ⟨i + 1 + 1, _, _, _, hi1, qL_esc hi1 hc hb hd f0_1, (by simp; omega), rfl, _, _, _, _, rfl, rfl, rfl, inc_i64 (by omega), trivial⟩
    ·skip
     have hb := u8i (c := s.getD i 0) (k := 92) c4
     refine W.skip ?_
     refine blockK_n ?_
     refine thenK_n ?_
     refine W.region ?_
     refine S.pure tOk zOk rfl rfl rfl ?_
     refine S.pure tOk zOk rfl rfl rfl ?_
     refine S.pure tOk zOk rfl rfl rfl ?_
     refine S.pure tOk zOk rfl (by first | exact str_ok hi1 | exact str_ok hi) rfl ?_
     refine S.slice tOk rfl rfl ?_
     refine S.append tOk rfl rfl rfl rfl rfl rfl rfl rfl rfl rfl rfl rfl (qlen hs f0_0 f0_2) rfl (byteRow_add o (s.getD i 0)) rfl ?_
     refine S.pure tOk zOk rfl rfl rfl ?_
     refine blockK_n ?_
     refine thenK_n ?_
     refine W.region ?_
     refine S.pure tOk zOk rfl rfl rfl ?_
     refine S.pure tOk zOk rfl rfl rfl ?_
     refine S.pure tOk zOk rfl rfl rfl ?_
     refine loop_n (s.length - _) (by first | exact qm2 hi | exact qm1 hi) ⟨i + 1, _, _, _, hi, qL_c hi hc hb f0_1, (by simp; omega), rfl, _, _, _, _, rfl, rfl, rfl, inc_i64 (by omega), trivial⟩
  ·skip
   have hi : s.length ≤ i := by simpa using c2
   have hq := qL_end hi f0_1
   refine W.exit ?_
   refine thenK_e ?_
   refine thenK_e ?_
   refine blockK_x ?_
   refine thenK_n ?_
   refine W.seq ?_
   refine W.region ?_
   refine S.pure tOk zOk rfl rfl rfl ?_
   refine S.pure tOk zOk rfl rfl rfl ?_
   refine S.pure tOk zOk rfl rfl rfl ?_
   refine thenK_n ?_
   refine W.ret ?_
   exact ⟨_, rfl, rfl, LeV.of_force rfl (by first | (rw [quo_2 c1 hq]; rfl) | (rw [quo_3 c1 hq]; rfl))⟩
def parR (s : L8) : Rul × Int :=
  if decide ((s.length : Int) > 4000) then (Rul.z, 4)
  else if !(Lib.cut s [32]).2.2 || decide (idxOf (fun y => (Lib.cut s [32]).1 == y) ruleWs < 1) then (Rul.z, 8)
  else parK (idxOf (fun y => (Lib.cut s [32]).1 == y) ruleWs) (Lib.cut s [32]).2.1
theorem pc_ParseRule (s : List UInt8) (hs : s.length ≤ 4000000) :
  PureCall Tryz.prog J 11 [.one (.d (.str s))] (.tup [.agg [.d (.int .i64 (parR s).1.kd), .d (.str (parR s).1.k), .d (.str (parR s).1.tu), .d (.str (parR s).1.old), .d (.str (parR s).1.nu)], .one (.d (.int .i64 (parR s).2))]) := by
 have hc1 := cut_le s [32]
 have hc2 := cut_le (Lib.cut s [32]).2.1 [32]
 refine PureCall.of_body tOk (fn := Tryz.f11) Tryz.func11 (by kernel_rfl) rfl (Nat.le_of_ble_eq_true rfl) (fun E => ?_)
 refine W.seq ?_
 refine W.region ?_
 refine S.alloc tOk rfl rfl rfl rfl ?_
 refine S.pure tOk zOk rfl rfl rfl ?_
 refine thenK_n ?_
 refine W.seq ?_
 refine W.seq ?_
 refine W.region ?_
 refine S.pure tOk zOk rfl rfl rfl ?_
 refine S.pure tOk zOk rfl rfl rfl ?_
 refine S.pure tOk zOk rfl rfl rfl ?_
 refine thenK_n ?_
 refine W.cond rfl (fun c1 => ?_) (fun c1 => ?_)
 ·skip
  refine W.seq ?_
  refine W.region ?_
  refine S.pure tOk zOk rfl rfl rfl ?_
  refine S.store tOk rfl rfl rfl rfl rfl rfl rfl rfl ?_
  refine S.pure tOk zOk rfl rfl rfl ?_
  refine thenK_n ?_
  refine W.ret ?_
  refine thenK_r ?_
  exact ⟨_, rfl, rfl, LeV.of_force rfl (congrArg (fun x : Rul × Int => V.tup [V.agg [.d (.int .i64 x.1.kd), .d (.str x.1.k), .d (.str x.1.tu), .d (.str x.1.old), .d (.str x.1.nu)], V.one (C.d (D.int .i64 x.2))]) ((if_pos c1) : parR s = _)).symm⟩
 ·skip
  have hs4 : s.length ≤ 4000 := by simp at c1; omega
  refine W.skip ?_
  refine thenK_n ?_
  refine W.seq ?_
  refine W.region ?_
  refine S.pure tOk zOk rfl rfl rfl ?_
  refine S.call rfl rfl rfl rfl rfl (pc_Cut s [32] (by omega)) ?_
  refine S.pure tOk zOk rfl rfl rfl ?_
  refine S.pure tOk zOk rfl rfl rfl ?_
  refine S.pure tOk zOk rfl rfl rfl ?_
  refine S.pure tOk zOk rfl rfl rfl ?_
  refine S.pure tOk zOk rfl rfl rfl ?_
  refine S.pure tOk zOk rfl rfl rfl ?_
  refine S.pure tOk zOk rfl rfl rfl ?_
  refine thenK_n ?_
  refine W.seq ?_
  refine W.region ?_
  refine S.call rfl rfl rfl rfl rfl (pc_migrate_ruleWords) ?_
  refine S.pure tOk zOk rfl rfl rfl ?_
  refine S.call rfl rfl rfl rfl rfl (pc_IndexS ruleWs (Lib.cut s [32]).1 (by decide)) ?_
  refine S.pure tOk zOk rfl rfl rfl ?_
  refine S.alloc tOk rfl rfl rfl rfl ?_
  refine S.store tOk rfl rfl rfl rfl rfl rfl rfl rfl ?_
  refine thenK_n ?_
  refine W.seq ?_
  refine W.seq ?_
  refine W.region ?_
  refine S.pure tOk zOk rfl rfl rfl ?_
  refine S.pure tOk zOk rfl rfl rfl ?_
  refine S.pure tOk zOk rfl rfl rfl ?_
  refine S.pureG tOk zOk rfl rfl tg (fun _ => rfl) rfl ?_
  refine S.pureG tOk zOk rfl rfl tg (fun _ => rfl) rfl ?_
  refine S.pureG tOk zOk rfl rfl tg (fun _ => rfl) rfl ?_
  refine S.pickOr tOk zOk rfl rfl tg ?_
  refine thenK_n ?_
  refine W.cond rfl (fun c2 => ?_) (fun c2 => ?_)
  ·skip
   refine W.seq ?_
   refine W.region ?_
   refine S.pure tOk zOk rfl rfl rfl ?_
   refine S.store tOk rfl rfl rfl rfl rfl rfl rfl rfl ?_
   refine S.pure tOk zOk rfl rfl rfl ?_
   refine thenK_n ?_
   refine W.ret ?_
   refine thenK_r ?_
   exact ⟨_, rfl, rfl, LeV.of_force rfl (congrArg (fun x : Rul × Int => V.tup [V.agg [.d (.int .i64 x.1.kd), .d (.str x.1.k), .d (.str x.1.tu), .d (.str x.1.old), .d (.str x.1.nu)], V.one (C.d (D.int .i64 x.2))]) (((if_neg (Bool.eq_false_iff.1 c1)).trans (if_pos c2)) : parR s = _)).symm⟩
  ·skip
   refine W.skip ?_
   refine thenK_n ?_
   refine W.seq ?_
   refine W.region ?_
   refine S.pure tOk zOk rfl rfl rfl ?_
   refine S.pure tOk zOk rfl rfl rfl ?_
   refine S.call rfl rfl rfl rfl rfl (pc_uses (idxOf (fun y => (Lib.cut s [32]).1 == y) ruleWs)) ?_
   refine S.pure tOk zOk rfl rfl rfl ?_
   refine S.pure tOk zOk rfl rfl rfl ?_
   refine S.pure tOk zOk rfl rfl rfl ?_
   refine S.pure tOk zOk rfl rfl rfl ?_
   refine S.pure tOk zOk rfl rfl rfl ?_
   refine S.pure tOk zOk rfl rfl rfl ?_
   refine S.pure tOk zOk rfl rfl rfl ?_
   refine thenK_n ?_
   refine W.seq ?_
   refine W.region ?_
   refine S.pure tOk zOk rfl rfl rfl ?_
   refine thenK_n ?_
   refine W.seq ?_
   refine W.region ?_
   refine S.pure tOk zOk rfl rfl rfl ?_
   refine S.call rfl rfl rfl rfl rfl (pc_Cut (Lib.cut s [32]).2.1 [32] (by omega)) ?_
   refine S.pure tOk zOk rfl rfl rfl ?_
   refine S.pure tOk zOk rfl rfl rfl ?_
   refine S.pure tOk zOk rfl rfl rfl ?_
   refine S.pure tOk zOk rfl rfl rfl ?_
   refine S.pure tOk zOk rfl rfl rfl ?_
   refine S.store tOk rfl rfl rfl rfl rfl rfl rfl rfl ?_
   refine S.pure tOk zOk rfl rfl rfl ?_
   refine S.pure tOk zOk rfl rfl rfl ?_
   refine thenK_n ?_
   refine W.seq ?_
   refine W.seq ?_
   refine W.region ?_
   refine S.pure tOk zOk rfl rfl rfl ?_
   refine S.pure tOk zOk rfl rfl rfl ?_
   refine S.pure tOk zOk rfl rfl rfl ?_
   refine S.pure tOk zOk rfl rfl rfl ?_
   refine S.pureG tOk zOk rfl rfl tg (fun _ => rfl) rfl ?_
   refine S.pureG tOk zOk rfl rfl tg (fun _ => rfl) rfl ?_
   refine S.pureG tOk zOk rfl rfl tg (fun _ => rfl) rfl ?_
   refine S.pureG tOk zOk rfl rfl tg (fun _ => rfl) rfl ?_
   refine S.pickOrG tOk zOk rfl rfl rfl tg tg ?_
   refine S.pureG tOk zOk rfl rfl tg (fun _ => rfl) rfl ?_
   refine S.pureG tOk zOk rfl rfl tg (fun _ => rfl) rfl ?_
   refine S.pickOrG tOk zOk rfl rfl rfl tg tg ?_
   refine S.pureG tOk zOk rfl rfl tg (fun _ => rfl) rfl ?_
   refine S.pickOr tOk zOk rfl rfl tg ?_
   refine thenK_n ?_
   refine W.cond rfl (fun c3 => ?_) (fun c3 => ?_)
   ·skip
    refine W.seq ?_
    refine W.region ?_
    refine S.pure tOk zOk rfl rfl rfl ?_
    refine S.store tOk rfl rfl rfl rfl rfl rfl rfl rfl ?_
    refine S.pure tOk zOk rfl rfl rfl ?_
    refine thenK_n ?_
    refine W.ret ?_
    refine thenK_r ?_
    exact ⟨_, rfl, rfl, LeV.of_force rfl (congrArg (fun x : Rul × Int => V.tup [V.agg [.d (.int .i64 x.1.kd), .d (.str x.1.k), .d (.str x.1.tu), .d (.str x.1.old), .d (.str x.1.nu)], V.one (C.d (D.int .i64 x.2))]) (((if_neg (Bool.eq_false_iff.1 c1)).trans ((if_neg (Bool.eq_false_iff.1 c2)).trans (if_pos c3))) : parR s = _)).symm⟩
   ·skip
    refine W.skip ?_
    refine thenK_n ?_
    refine W.seq ?_
    refine W.seq ?_
    refine W.region ?_
    refine S.pure tOk zOk rfl rfl rfl ?_
    refine thenK_n ?_
    refine W.cond rfl (fun c4 => ?_) (fun c4 => ?_)
    ·skip
     refine W.seq ?_
     refine W.region ?_
     refine S.pure tOk zOk rfl rfl rfl ?_
     refine S.pure tOk zOk rfl rfl rfl ?_
     refine S.store tOk rfl rfl rfl rfl rfl rfl rfl rfl ?_
     refine S.pure tOk zOk rfl rfl rfl ?_
     refine thenK_n ?_
     refine W.seq ?_
     refine W.region ?_
     refine S.pure tOk zOk rfl rfl rfl ?_
     refine S.pure tOk zOk rfl rfl rfl ?_
     refine S.pure tOk zOk rfl rfl rfl ?_
     refine S.pure tOk zOk rfl rfl rfl ?_
     refine S.pureG tOk zOk rfl rfl tg (fun _ => rfl) rfl ?_
     refine S.pureG tOk zOk rfl rfl tg (fun _ => rfl) rfl ?_
     refine S.callG rfl rfl rfl rfl tg rfl rfl (fun _ => pc_Contains (Lib.cut (Lib.cut s [32]).2.1 [32]).2.1 [32] (by omega)) ?_
     refine S.pickOr tOk zOk rfl rfl tg ?_
     refine thenK_n ?_
     refine W.cond rfl (fun c5 => ?_) (fun c5 => ?_)
     ·skip
      refine W.seq ?_
      refine W.region ?_
      refine S.pure tOk zOk rfl rfl rfl ?_
      refine S.store tOk rfl rfl rfl rfl rfl rfl rfl rfl ?_
      refine S.pure tOk zOk rfl rfl rfl ?_
      refine thenK_n ?_
      refine W.ret ?_
      refine thenK_r ?_
      exact ⟨_, rfl, rfl, LeV.of_force rfl (congrArg (fun x : Rul × Int => V.tup [V.agg [.d (.int .i64 x.1.kd), .d (.str x.1.k), .d (.str x.1.tu), .d (.str x.1.old), .d (.str x.1.nu)], V.one (C.d (D.int .i64 x.2))]) (((if_neg (Bool.eq_false_iff.1 c1)).trans ((if_neg (Bool.eq_false_iff.1 c2)).trans ((if_neg (Bool.eq_false_iff.1 c3)).trans ((if_pos c4).trans (if_pos c5))))) : parR s = _)).symm⟩
     ·skip
      refine W.skip ?_
      refine thenK_n ?_
      refine W.seq ?_
      refine W.seq ?_
      refine W.region ?_
      refine S.pure tOk zOk rfl rfl rfl ?_
      refine thenK_n ?_
      refine W.cond rfl (fun c6 => ?_) (fun c6 => ?_)
      ·skip
       refine W.seq ?_
       refine W.seq ?_
       refine W.region ?_
       refine S.pure tOk zOk rfl rfl rfl ?_
       refine S.call rfl rfl rfl rfl rfl (pc_mquoted _ (by (try dsimp only); repeat first | omega | exact Nat.le_trans hc2.1 (by omega) | exact Nat.le_trans hc2.2 (by omega) | exact Nat.zero_le _ | apply quo_b | apply quo_r | apply drop_b)) ?_
       refine S.pure tOk zOk rfl rfl rfl ?_
       refine S.pure tOk zOk rfl rfl rfl ?_
       refine S.pure tOk zOk rfl rfl rfl ?_
       refine S.pure tOk zOk rfl rfl rfl ?_
       refine S.pure tOk zOk rfl rfl rfl ?_
       refine S.store tOk rfl rfl rfl rfl rfl rfl rfl rfl ?_
       refine S.pure tOk zOk rfl rfl rfl ?_
       refine S.pure tOk zOk rfl rfl rfl ?_
       refine thenK_n ?_
       refine W.seq ?_
       refine W.region ?_
       refine S.pure tOk zOk rfl rfl rfl ?_
       refine S.pure tOk zOk rfl rfl rfl ?_
       refine S.pure tOk zOk rfl rfl rfl ?_
       refine S.pureG tOk zOk rfl rfl tg (fun _ => rfl) rfl ?_
       refine S.callG rfl rfl rfl rfl tg rfl rfl (fun _ => pc_HasPrefix _ [32]) ?_
       refine S.pureG tOk zOk rfl rfl tg (fun _ => rfl) rfl ?_
       refine S.pickOr tOk zOk rfl rfl tg ?_
       refine thenK_n ?_
       refine W.cond rfl (fun c7 => ?_) (fun c7 => ?_)
       ·skip
        refine W.seq ?_
        refine W.region ?_
        refine S.pure tOk zOk rfl rfl rfl ?_
        refine S.store tOk rfl rfl rfl rfl rfl rfl rfl rfl ?_
        refine S.pure tOk zOk rfl rfl rfl ?_
        refine thenK_n ?_
        refine W.ret ?_
        refine thenK_r ?_
        refine thenK_r ?_
        exact ⟨_, rfl, rfl, LeV.of_force rfl (congrArg (fun x : Rul × Int => V.tup [V.agg [.d (.int .i64 x.1.kd), .d (.str x.1.k), .d (.str x.1.tu), .d (.str x.1.old), .d (.str x.1.nu)], V.one (C.d (D.int .i64 x.2))]) (((if_neg (Bool.eq_false_iff.1 c1)).trans ((if_neg (Bool.eq_false_iff.1 c2)).trans ((if_neg (Bool.eq_false_iff.1 c3)).trans ((if_pos c4).trans ((if_neg (Bool.eq_false_iff.1 c5)).trans ((if_pos c6).trans (if_pos c7))))))) : parR s = _)).symm⟩
       ·skip
        have hpl := pre_len (by first | assumption)
        refine W.skip ?_
        refine thenK_n ?_
        refine W.region ?_
        refine S.pure tOk zOk rfl rfl rfl ?_
        refine S.pureE tOk zOk rfl (sl_ok (by omega) (by omega) (by omega)) (sl_drop1 _) rfl ?_
        refine S.pure tOk zOk rfl rfl rfl ?_
        refine thenK_n ?_
        refine W.seq ?_
        refine W.seq ?_
        refine W.region ?_
        refine S.pure tOk zOk rfl rfl rfl ?_
        refine thenK_n ?_
        refine W.cond rfl (fun c8 => ?_) (fun c8 => ?_)
        ·skip
         refine W.seq ?_
         refine W.region ?_
         refine S.pure tOk zOk rfl rfl rfl ?_
         refine S.call rfl rfl rfl rfl rfl (pc_mquoted _ (by (try dsimp only); repeat first | omega | exact Nat.le_trans hc2.1 (by omega) | exact Nat.le_trans hc2.2 (by omega) | exact Nat.zero_le _ | apply quo_b | apply quo_r | apply drop_b)) ?_
         refine S.pure tOk zOk rfl rfl rfl ?_
         refine S.pure tOk zOk rfl rfl rfl ?_
         refine S.pure tOk zOk rfl rfl rfl ?_
         refine S.pure tOk zOk rfl rfl rfl ?_
         refine S.pure tOk zOk rfl rfl rfl ?_
         refine S.store tOk rfl rfl rfl rfl rfl rfl rfl rfl ?_
         refine S.pure tOk zOk rfl rfl rfl ?_
         refine S.pure tOk zOk rfl rfl rfl ?_
         refine thenK_n ?_
         refine W.seq ?_
         refine W.region ?_
         refine S.pure tOk zOk rfl rfl rfl ?_
         refine S.pure tOk zOk rfl rfl rfl ?_
         refine thenK_n ?_
         refine W.cond rfl (fun c9 => ?_) (fun c9 => ?_)
         ·skip
          refine W.seq ?_
          refine W.region ?_
          refine S.pure tOk zOk rfl rfl rfl ?_
          refine S.store tOk rfl rfl rfl rfl rfl rfl rfl rfl ?_
          refine S.pure tOk zOk rfl rfl rfl ?_
          refine thenK_n ?_
          refine W.ret ?_
          refine thenK_r ?_
          exact ⟨_, rfl, rfl, LeV.of_force rfl (congrArg (fun x : Rul × Int => V.tup [V.agg [.d (.int .i64 x.1.kd), .d (.str x.1.k), .d (.str x.1.tu), .d (.str x.1.old), .d (.str x.1.nu)], V.one (C.d (D.int .i64 x.2))]) (((if_neg (Bool.eq_false_iff.1 c1)).trans ((if_neg (Bool.eq_false_iff.1 c2)).trans ((if_neg (Bool.eq_false_iff.1 c3)).trans ((if_pos c4).trans ((if_neg (Bool.eq_false_iff.1 c5)).trans ((if_pos c6).trans ((if_neg (Bool.eq_false_iff.1 c7)).trans ((if_pos c8).trans (if_pos c9))))))))) : parR s = _)).symm⟩
         ·skip
          refine W.skip ?_
          refine thenK_n ?_
          refine W.seq ?_
          refine W.seq ?_
          refine W.region ?_
          refine S.pure tOk zOk rfl rfl rfl ?_
          refine S.pure tOk zOk rfl rfl rfl ?_
          refine thenK_n ?_
          refine W.cond rfl (fun c10 => ?_) (fun c10 => ?_)
          ·skip
           refine W.seq ?_
           refine W.region ?_
           refine S.pure tOk zOk rfl rfl rfl ?_
           refine S.store tOk rfl rfl rfl rfl rfl rfl rfl rfl ?_
           refine S.pure tOk zOk rfl rfl rfl ?_
           refine thenK_n ?_
           refine W.ret ?_
           refine thenK_r ?_
           exact ⟨_, rfl, rfl, LeV.of_force rfl (congrArg (fun x : Rul × Int => V.tup [V.agg [.d (.int .i64 x.1.kd), .d (.str x.1.k), .d (.str x.1.tu), .d (.str x.1.old), .d (.str x.1.nu)], V.one (C.d (D.int .i64 x.2))]) (((if_neg (Bool.eq_false_iff.1 c1)).trans ((if_neg (Bool.eq_false_iff.1 c2)).trans ((if_neg (Bool.eq_false_iff.1 c3)).trans ((if_pos c4).trans ((if_neg (Bool.eq_false_iff.1 c5)).trans ((if_pos c6).trans ((if_neg (Bool.eq_false_iff.1 c7)).trans ((if_pos c8).trans ((if_neg (Bool.eq_false_iff.1 c9)).trans (if_pos c10)))))))))) : parR s = _)).symm⟩
          ·skip
           refine W.skip ?_
           refine thenK_n ?_
           refine W.seq ?_
           refine W.seq ?_
           refine W.region ?_
           refine S.pure tOk zOk rfl rfl rfl ?_
           refine S.call rfl rfl rfl rfl rfl (pc_CheckRule ⟨_, _, _, _, _⟩ ⟨by (try dsimp only); repeat first | omega | exact Nat.le_trans hc2.1 (by omega) | exact Nat.le_trans hc2.2 (by omega) | exact Nat.zero_le _ | apply quo_b | apply quo_r | apply drop_b, by (try dsimp only); repeat first | omega | exact Nat.le_trans hc2.1 (by omega) | exact Nat.le_trans hc2.2 (by omega) | exact Nat.zero_le _ | apply quo_b | apply quo_r | apply drop_b, by (try dsimp only); repeat first | omega | exact Nat.le_trans hc2.1 (by omega) | exact Nat.le_trans hc2.2 (by omega) | exact Nat.zero_le _ | apply quo_b | apply quo_r | apply drop_b, by (try dsimp only); repeat first | omega | exact Nat.le_trans hc2.1 (by omega) | exact Nat.le_trans hc2.2 (by omega) | exact Nat.zero_le _ | apply quo_b | apply quo_r | apply drop_b⟩) ?_
           refine S.pure tOk zOk rfl rfl rfl ?_
           refine thenK_n ?_
           refine W.seq ?_
           refine W.region ?_
           refine S.pure tOk zOk rfl rfl rfl ?_
           refine S.pure tOk zOk rfl rfl rfl ?_
           refine thenK_n ?_
           refine W.cond rfl (fun c11 => ?_) (fun c11 => ?_)
           ·skip
            refine W.seq ?_
            refine W.region ?_
            refine S.pure tOk zOk rfl rfl rfl ?_
            refine S.pure tOk zOk rfl rfl rfl ?_
            refine S.store tOk rfl rfl rfl rfl rfl rfl rfl rfl ?_
            refine S.pure tOk zOk rfl rfl rfl ?_
            refine thenK_n ?_
            refine W.ret ?_
            refine thenK_r ?_
            exact ⟨_, rfl, rfl, LeV.of_force rfl (congrArg (fun x : Rul × Int => V.tup [V.agg [.d (.int .i64 x.1.kd), .d (.str x.1.k), .d (.str x.1.tu), .d (.str x.1.old), .d (.str x.1.nu)], V.one (C.d (D.int .i64 x.2))]) (((if_neg (Bool.eq_false_iff.1 c1)).trans ((if_neg (Bool.eq_false_iff.1 c2)).trans ((if_neg (Bool.eq_false_iff.1 c3)).trans ((if_pos c4).trans ((if_neg (Bool.eq_false_iff.1 c5)).trans ((if_pos c6).trans ((if_neg (Bool.eq_false_iff.1 c7)).trans ((if_pos c8).trans ((if_neg (Bool.eq_false_iff.1 c9)).trans ((if_neg (Bool.eq_false_iff.1 c10)).trans (if_pos c11))))))))))) : parR s = _)).symm⟩
           ·skip
            refine W.skip ?_
            refine thenK_n ?_
            refine W.seq ?_
            refine W.region ?_
            refine S.pure tOk zOk rfl rfl rfl ?_
            refine S.store tOk rfl rfl rfl rfl rfl rfl rfl rfl ?_
            refine S.pure tOk zOk rfl rfl rfl ?_
            refine thenK_n ?_
            refine W.ret ?_
            exact ⟨_, rfl, rfl, LeV.of_force rfl (congrArg (fun x : Rul × Int => V.tup [V.agg [.d (.int .i64 x.1.kd), .d (.str x.1.k), .d (.str x.1.tu), .d (.str x.1.old), .d (.str x.1.nu)], V.one (C.d (D.int .i64 x.2))]) (((if_neg (Bool.eq_false_iff.1 c1)).trans ((if_neg (Bool.eq_false_iff.1 c2)).trans ((if_neg (Bool.eq_false_iff.1 c3)).trans ((if_pos c4).trans ((if_neg (Bool.eq_false_iff.1 c5)).trans ((if_pos c6).trans ((if_neg (Bool.eq_false_iff.1 c7)).trans ((if_pos c8).trans ((if_neg (Bool.eq_false_iff.1 c9)).trans ((if_neg (Bool.eq_false_iff.1 c10)).trans (if_neg (Bool.eq_false_iff.1 c11)))))))))))) : parR s = _)).symm⟩
        ·skip
         refine W.skip ?_
         refine thenK_n ?_
         refine W.seq ?_
         refine W.seq ?_
         refine W.region ?_
         refine S.pure tOk zOk rfl rfl rfl ?_
         refine S.pure tOk zOk rfl rfl rfl ?_
         refine thenK_n ?_
         refine W.cond rfl (fun c12 => ?_) (fun c12 => ?_)
         ·skip
          refine W.seq ?_
          refine W.region ?_
          refine S.pure tOk zOk rfl rfl rfl ?_
          refine S.store tOk rfl rfl rfl rfl rfl rfl rfl rfl ?_
          refine S.pure tOk zOk rfl rfl rfl ?_
          refine thenK_n ?_
          refine W.ret ?_
          refine thenK_r ?_
          exact ⟨_, rfl, rfl, LeV.of_force rfl (congrArg (fun x : Rul × Int => V.tup [V.agg [.d (.int .i64 x.1.kd), .d (.str x.1.k), .d (.str x.1.tu), .d (.str x.1.old), .d (.str x.1.nu)], V.one (C.d (D.int .i64 x.2))]) (((if_neg (Bool.eq_false_iff.1 c1)).trans ((if_neg (Bool.eq_false_iff.1 c2)).trans ((if_neg (Bool.eq_false_iff.1 c3)).trans ((if_pos c4).trans ((if_neg (Bool.eq_false_iff.1 c5)).trans ((if_pos c6).trans ((if_neg (Bool.eq_false_iff.1 c7)).trans ((if_neg (Bool.eq_false_iff.1 c8)).trans (if_pos c12))))))))) : parR s = _)).symm⟩
         ·skip
          refine W.skip ?_
          refine thenK_n ?_
          refine W.seq ?_
          refine W.seq ?_
          refine W.region ?_
          refine S.pure tOk zOk rfl rfl rfl ?_
          refine S.call rfl rfl rfl rfl rfl (pc_CheckRule ⟨_, _, _, _, _⟩ ⟨by (try dsimp only); repeat first | omega | exact Nat.le_trans hc2.1 (by omega) | exact Nat.le_trans hc2.2 (by omega) | exact Nat.zero_le _ | apply quo_b | apply quo_r | apply drop_b, by (try dsimp only); repeat first | omega | exact Nat.le_trans hc2.1 (by omega) | exact Nat.le_trans hc2.2 (by omega) | exact Nat.zero_le _ | apply quo_b | apply quo_r | apply drop_b, by (try dsimp only); repeat first | omega | exact Nat.le_trans hc2.1 (by omega) | exact Nat.le_trans hc2.2 (by omega) | exact Nat.zero_le _ | apply quo_b | apply quo_r | apply drop_b, by (try dsimp only); repeat first | omega | exact Nat.le_trans hc2.1 (by omega) | exact Nat.le_trans hc2.2 (by omega) | exact Nat.zero_le _ | apply quo_b | apply quo_r | apply drop_b⟩) ?_
          refine S.pure tOk zOk rfl rfl rfl ?_
          refine thenK_n ?_
          refine W.seq ?_
          refine W.region ?_
          refine S.pure tOk zOk rfl rfl rfl ?_
          refine S.pure tOk zOk rfl rfl rfl ?_
          refine thenK_n ?_
          refine W.cond rfl (fun c13 => ?_) (fun c13 => ?_)
          ·skip
           refine W.seq ?_
           refine W.region ?_
           refine S.pure tOk zOk rfl rfl rfl ?_
           refine S.pure tOk zOk rfl rfl rfl ?_
           refine S.store tOk rfl rfl rfl rfl rfl rfl rfl rfl ?_
           refine S.pure tOk zOk rfl rfl rfl ?_
           refine thenK_n ?_
           refine W.ret ?_
           refine thenK_r ?_
           exact ⟨_, rfl, rfl, LeV.of_force rfl (congrArg (fun x : Rul × Int => V.tup [V.agg [.d (.int .i64 x.1.kd), .d (.str x.1.k), .d (.str x.1.tu), .d (.str x.1.old), .d (.str x.1.nu)], V.one (C.d (D.int .i64 x.2))]) (((if_neg (Bool.eq_false_iff.1 c1)).trans ((if_neg (Bool.eq_false_iff.1 c2)).trans ((if_neg (Bool.eq_false_iff.1 c3)).trans ((if_pos c4).trans ((if_neg (Bool.eq_false_iff.1 c5)).trans ((if_pos c6).trans ((if_neg (Bool.eq_false_iff.1 c7)).trans ((if_neg (Bool.eq_false_iff.1 c8)).trans ((if_neg (Bool.eq_false_iff.1 c12)).trans (if_pos c13)))))))))) : parR s = _)).symm⟩
          ·skip
           refine W.skip ?_
           refine thenK_n ?_
           refine W.seq ?_
           refine W.region ?_
           refine S.pure tOk zOk rfl rfl rfl ?_
           refine S.store tOk rfl rfl rfl rfl rfl rfl rfl rfl ?_
           refine S.pure tOk zOk rfl rfl rfl ?_
           refine thenK_n ?_
           refine W.ret ?_
           exact ⟨_, rfl, rfl, LeV.of_force rfl (congrArg (fun x : Rul × Int => V.tup [V.agg [.d (.int .i64 x.1.kd), .d (.str x.1.k), .d (.str x.1.tu), .d (.str x.1.old), .d (.str x.1.nu)], V.one (C.d (D.int .i64 x.2))]) (((if_neg (Bool.eq_false_iff.1 c1)).trans ((if_neg (Bool.eq_false_iff.1 c2)).trans ((if_neg (Bool.eq_false_iff.1 c3)).trans ((if_pos c4).trans ((if_neg (Bool.eq_false_iff.1 c5)).trans ((if_pos c6).trans ((if_neg (Bool.eq_false_iff.1 c7)).trans ((if_neg (Bool.eq_false_iff.1 c8)).trans ((if_neg (Bool.eq_false_iff.1 c12)).trans (if_neg (Bool.eq_false_iff.1 c13))))))))))) : parR s = _)).symm⟩
      ·skip
       refine W.skip ?_
       refine thenK_n ?_
       refine W.seq ?_
       refine W.seq ?_
       refine W.region ?_
       refine S.pure tOk zOk rfl rfl rfl ?_
       refine thenK_n ?_
       refine W.cond rfl (fun c14 => ?_) (fun c14 => ?_)
       ·skip
        refine W.seq ?_
        refine W.region ?_
        refine S.pure tOk zOk rfl rfl rfl ?_
        refine S.call rfl rfl rfl rfl rfl (pc_mquoted _ (by (try dsimp only); repeat first | omega | exact Nat.le_trans hc2.1 (by omega) | exact Nat.le_trans hc2.2 (by omega) | exact Nat.zero_le _ | apply quo_b | apply quo_r | apply drop_b)) ?_
        refine S.pure tOk zOk rfl rfl rfl ?_
        refine S.pure tOk zOk rfl rfl rfl ?_
        refine S.pure tOk zOk rfl rfl rfl ?_
        refine S.pure tOk zOk rfl rfl rfl ?_
        refine S.pure tOk zOk rfl rfl rfl ?_
        refine S.store tOk rfl rfl rfl rfl rfl rfl rfl rfl ?_
        refine S.pure tOk zOk rfl rfl rfl ?_
        refine S.pure tOk zOk rfl rfl rfl ?_
        refine thenK_n ?_
        refine W.seq ?_
        refine W.region ?_
        refine S.pure tOk zOk rfl rfl rfl ?_
        refine S.pure tOk zOk rfl rfl rfl ?_
        refine thenK_n ?_
        refine W.cond rfl (fun c15 => ?_) (fun c15 => ?_)
        ·skip
         refine W.seq ?_
         refine W.region ?_
         refine S.pure tOk zOk rfl rfl rfl ?_
         refine S.store tOk rfl rfl rfl rfl rfl rfl rfl rfl ?_
         refine S.pure tOk zOk rfl rfl rfl ?_
         refine thenK_n ?_
         refine W.ret ?_
         refine thenK_r ?_
         exact ⟨_, rfl, rfl, LeV.of_force rfl (congrArg (fun x : Rul × Int => V.tup [V.agg [.d (.int .i64 x.1.kd), .d (.str x.1.k), .d (.str x.1.tu), .d (.str x.1.old), .d (.str x.1.nu)], V.one (C.d (D.int .i64 x.2))]) (((if_neg (Bool.eq_false_iff.1 c1)).trans ((if_neg (Bool.eq_false_iff.1 c2)).trans ((if_neg (Bool.eq_false_iff.1 c3)).trans ((if_pos c4).trans ((if_neg (Bool.eq_false_iff.1 c5)).trans ((if_neg (Bool.eq_false_iff.1 c6)).trans ((if_pos c14).trans (if_pos c15)))))))) : parR s = _)).symm⟩
        ·skip
         refine W.skip ?_
         refine thenK_n ?_
         refine W.seq ?_
         refine W.seq ?_
         refine W.region ?_
         refine S.pure tOk zOk rfl rfl rfl ?_
         refine S.pure tOk zOk rfl rfl rfl ?_
         refine thenK_n ?_
         refine W.cond rfl (fun c16 => ?_) (fun c16 => ?_)
         ·skip
          refine W.seq ?_
          refine W.region ?_
          refine S.pure tOk zOk rfl rfl rfl ?_
          refine S.store tOk rfl rfl rfl rfl rfl rfl rfl rfl ?_
          refine S.pure tOk zOk rfl rfl rfl ?_
          refine thenK_n ?_
          refine W.ret ?_
          refine thenK_r ?_
          exact ⟨_, rfl, rfl, LeV.of_force rfl (congrArg (fun x : Rul × Int => V.tup [V.agg [.d (.int .i64 x.1.kd), .d (.str x.1.k), .d (.str x.1.tu), .d (.str x.1.old), .d (.str x.1.nu)], V.one (C.d (D.int .i64 x.2))]) (((if_neg (Bool.eq_false_iff.1 c1)).trans ((if_neg (Bool.eq_false_iff.1 c2)).trans ((if_neg (Bool.eq_false_iff.1 c3)).trans ((if_pos c4).trans ((if_neg (Bool.eq_false_iff.1 c5)).trans ((if_neg (Bool.eq_false_iff.1 c6)).trans ((if_pos c14).trans ((if_neg (Bool.eq_false_iff.1 c15)).trans (if_pos c16))))))))) : parR s = _)).symm⟩
         ·skip
          refine W.skip ?_
          refine thenK_n ?_
          refine W.seq ?_
          refine W.seq ?_
          refine W.region ?_
          refine S.pure tOk zOk rfl rfl rfl ?_
          refine S.call rfl rfl rfl rfl rfl (pc_CheckRule ⟨_, _, _, _, _⟩ ⟨by (try dsimp only); repeat first | omega | exact Nat.le_trans hc2.1 (by omega) | exact Nat.le_trans hc2.2 (by omega) | exact Nat.zero_le _ | apply quo_b | apply quo_r | apply drop_b, by (try dsimp only); repeat first | omega | exact Nat.le_trans hc2.1 (by omega) | exact Nat.le_trans hc2.2 (by omega) | exact Nat.zero_le _ | apply quo_b | apply quo_r | apply drop_b, by (try dsimp only); repeat first | omega | exact Nat.le_trans hc2.1 (by omega) | exact Nat.le_trans hc2.2 (by omega) | exact Nat.zero_le _ | apply quo_b | apply quo_r | apply drop_b, by (try dsimp only); repeat first | omega | exact Nat.le_trans hc2.1 (by omega) | exact Nat.le_trans hc2.2 (by omega) | exact Nat.zero_le _ | apply quo_b | apply quo_r | apply drop_b⟩) ?_
          refine S.pure tOk zOk rfl rfl rfl ?_
          refine thenK_n ?_
          refine W.seq ?_
          refine W.region ?_
          refine S.pure tOk zOk rfl rfl rfl ?_
          refine S.pure tOk zOk rfl rfl rfl ?_
          refine thenK_n ?_
          refine W.cond rfl (fun c17 => ?_) (fun c17 => ?_)
          ·skip
           refine W.seq ?_
           refine W.region ?_
           refine S.pure tOk zOk rfl rfl rfl ?_
           refine S.pure tOk zOk rfl rfl rfl ?_
           refine S.store tOk rfl rfl rfl rfl rfl rfl rfl rfl ?_
           refine S.pure tOk zOk rfl rfl rfl ?_
           refine thenK_n ?_
           refine W.ret ?_
           refine thenK_r ?_
           exact ⟨_, rfl, rfl, LeV.of_force rfl (congrArg (fun x : Rul × Int => V.tup [V.agg [.d (.int .i64 x.1.kd), .d (.str x.1.k), .d (.str x.1.tu), .d (.str x.1.old), .d (.str x.1.nu)], V.one (C.d (D.int .i64 x.2))]) (((if_neg (Bool.eq_false_iff.1 c1)).trans ((if_neg (Bool.eq_false_iff.1 c2)).trans ((if_neg (Bool.eq_false_iff.1 c3)).trans ((if_pos c4).trans ((if_neg (Bool.eq_false_iff.1 c5)).trans ((if_neg (Bool.eq_false_iff.1 c6)).trans ((if_pos c14).trans ((if_neg (Bool.eq_false_iff.1 c15)).trans ((if_neg (Bool.eq_false_iff.1 c16)).trans (if_pos c17)))))))))) : parR s = _)).symm⟩
          ·skip
           refine W.skip ?_
           refine thenK_n ?_
           refine W.seq ?_
           refine W.region ?_
           refine S.pure tOk zOk rfl rfl rfl ?_
           refine S.store tOk rfl rfl rfl rfl rfl rfl rfl rfl ?_
           refine S.pure tOk zOk rfl rfl rfl ?_
           refine thenK_n ?_
           refine W.ret ?_
           exact ⟨_, rfl, rfl, LeV.of_force rfl (congrArg (fun x : Rul × Int => V.tup [V.agg [.d (.int .i64 x.1.kd), .d (.str x.1.k), .d (.str x.1.tu), .d (.str x.1.old), .d (.str x.1.nu)], V.one (C.d (D.int .i64 x.2))]) (((if_neg (Bool.eq_false_iff.1 c1)).trans ((if_neg (Bool.eq_false_iff.1 c2)).trans ((if_neg (Bool.eq_false_iff.1 c3)).trans ((if_pos c4).trans ((if_neg (Bool.eq_false_iff.1 c5)).trans ((if_neg (Bool.eq_false_iff.1 c6)).trans ((if_pos c14).trans ((if_neg (Bool.eq_false_iff.1 c15)).trans ((if_neg (Bool.eq_false_iff.1 c16)).trans (if_neg (Bool.eq_false_iff.1 c17))))))))))) : parR s = _)).symm⟩
       ·skip
        refine W.skip ?_
        refine thenK_n ?_
        refine W.seq ?_
        refine W.seq ?_
        refine W.region ?_
        refine S.pure tOk zOk rfl rfl rfl ?_
        refine S.pure tOk zOk rfl rfl rfl ?_
        refine thenK_n ?_
        refine W.cond rfl (fun c18 => ?_) (fun c18 => ?_)
        ·skip
         refine W.seq ?_
         refine W.region ?_
         refine S.pure tOk zOk rfl rfl rfl ?_
         refine S.store tOk rfl rfl rfl rfl rfl rfl rfl rfl ?_
         refine S.pure tOk zOk rfl rfl rfl ?_
         refine thenK_n ?_
         refine W.ret ?_
         refine thenK_r ?_
         exact ⟨_, rfl, rfl, LeV.of_force rfl (congrArg (fun x : Rul × Int => V.tup [V.agg [.d (.int .i64 x.1.kd), .d (.str x.1.k), .d (.str x.1.tu), .d (.str x.1.old), .d (.str x.1.nu)], V.one (C.d (D.int .i64 x.2))]) (((if_neg (Bool.eq_false_iff.1 c1)).trans ((if_neg (Bool.eq_false_iff.1 c2)).trans ((if_neg (Bool.eq_false_iff.1 c3)).trans ((if_pos c4).trans ((if_neg (Bool.eq_false_iff.1 c5)).trans ((if_neg (Bool.eq_false_iff.1 c6)).trans ((if_neg (Bool.eq_false_iff.1 c14)).trans (if_pos c18)))))))) : parR s = _)).symm⟩
        ·skip
         refine W.skip ?_
         refine thenK_n ?_
         refine W.seq ?_
         refine W.seq ?_
         refine W.region ?_
         refine S.pure tOk zOk rfl rfl rfl ?_
         refine S.call rfl rfl rfl rfl rfl (pc_CheckRule ⟨_, _, _, _, _⟩ ⟨by (try dsimp only); repeat first | omega | exact Nat.le_trans hc2.1 (by omega) | exact Nat.le_trans hc2.2 (by omega) | exact Nat.zero_le _ | apply quo_b | apply quo_r | apply drop_b, by (try dsimp only); repeat first | omega | exact Nat.le_trans hc2.1 (by omega) | exact Nat.le_trans hc2.2 (by omega) | exact Nat.zero_le _ | apply quo_b | apply quo_r | apply drop_b, by (try dsimp only); repeat first | omega | exact Nat.le_trans hc2.1 (by omega) | exact Nat.le_trans hc2.2 (by omega) | exact Nat.zero_le _ | apply quo_b | apply quo_r | apply drop_b, by (try dsimp only); repeat first | omega | exact Nat.le_trans hc2.1 (by omega) | exact Nat.le_trans hc2.2 (by omega) | exact Nat.zero_le _ | apply quo_b | apply quo_r | apply drop_b⟩) ?_
         refine S.pure tOk zOk rfl rfl rfl ?_
         refine thenK_n ?_
         refine W.seq ?_
         refine W.region ?_
         refine S.pure tOk zOk rfl rfl rfl ?_
         refine S.pure tOk zOk rfl rfl rfl ?_
         refine thenK_n ?_
         refine W.cond rfl (fun c19 => ?_) (fun c19 => ?_)
         ·skip
          refine W.seq ?_
          refine W.region ?_
          refine S.pure tOk zOk rfl rfl rfl ?_
          refine S.pure tOk zOk rfl rfl rfl ?_
          refine S.store tOk rfl rfl rfl rfl rfl rfl rfl rfl ?_
          refine S.pure tOk zOk rfl rfl rfl ?_
          refine thenK_n ?_
          refine W.ret ?_
          refine thenK_r ?_
          exact ⟨_, rfl, rfl, LeV.of_force rfl (congrArg (fun x : Rul × Int => V.tup [V.agg [.d (.int .i64 x.1.kd), .d (.str x.1.k), .d (.str x.1.tu), .d (.str x.1.old), .d (.str x.1.nu)], V.one (C.d (D.int .i64 x.2))]) (((if_neg (Bool.eq_false_iff.1 c1)).trans ((if_neg (Bool.eq_false_iff.1 c2)).trans ((if_neg (Bool.eq_false_iff.1 c3)).trans ((if_pos c4).trans ((if_neg (Bool.eq_false_iff.1 c5)).trans ((if_neg (Bool.eq_false_iff.1 c6)).trans ((if_neg (Bool.eq_false_iff.1 c14)).trans ((if_neg (Bool.eq_false_iff.1 c18)).trans (if_pos c19))))))))) : parR s = _)).symm⟩
         ·skip
          refine W.skip ?_
          refine thenK_n ?_
          refine W.seq ?_
          refine W.region ?_
          refine S.pure tOk zOk rfl rfl rfl ?_
          refine S.store tOk rfl rfl rfl rfl rfl rfl rfl rfl ?_
          refine S.pure tOk zOk rfl rfl rfl ?_
          refine thenK_n ?_
          refine W.ret ?_
          exact ⟨_, rfl, rfl, LeV.of_force rfl (congrArg (fun x : Rul × Int => V.tup [V.agg [.d (.int .i64 x.1.kd), .d (.str x.1.k), .d (.str x.1.tu), .d (.str x.1.old), .d (.str x.1.nu)], V.one (C.d (D.int .i64 x.2))]) (((if_neg (Bool.eq_false_iff.1 c1)).trans ((if_neg (Bool.eq_false_iff.1 c2)).trans ((if_neg (Bool.eq_false_iff.1 c3)).trans ((if_pos c4).trans ((if_neg (Bool.eq_false_iff.1 c5)).trans ((if_neg (Bool.eq_false_iff.1 c6)).trans ((if_neg (Bool.eq_false_iff.1 c14)).trans ((if_neg (Bool.eq_false_iff.1 c18)).trans (if_neg (Bool.eq_false_iff.1 c19)))))))))) : parR s = _)).symm⟩
    ·skip
     refine W.skip ?_
     refine thenK_n ?_
     refine W.seq ?_
     refine W.seq ?_
     refine W.region ?_
     refine S.pure tOk zOk rfl rfl rfl ?_
     refine thenK_n ?_
     refine W.cond rfl (fun c20 => ?_) (fun c20 => ?_)
     ·skip
      refine W.seq ?_
      refine W.seq ?_
      refine W.region ?_
      refine S.pure tOk zOk rfl rfl rfl ?_
      refine S.call rfl rfl rfl rfl rfl (pc_mquoted _ (by (try dsimp only); repeat first | omega | exact Nat.le_trans hc2.1 (by omega) | exact Nat.le_trans hc2.2 (by omega) | exact Nat.zero_le _ | apply quo_b | apply quo_r | apply drop_b)) ?_
      refine S.pure tOk zOk rfl rfl rfl ?_
      refine S.pure tOk zOk rfl rfl rfl ?_
      refine S.pure tOk zOk rfl rfl rfl ?_
      refine S.pure tOk zOk rfl rfl rfl ?_
      refine S.pure tOk zOk rfl rfl rfl ?_
      refine S.store tOk rfl rfl rfl rfl rfl rfl rfl rfl ?_
      refine S.pure tOk zOk rfl rfl rfl ?_
      refine S.pure tOk zOk rfl rfl rfl ?_
      refine thenK_n ?_
      refine W.seq ?_
      refine W.region ?_
      refine S.pure tOk zOk rfl rfl rfl ?_
      refine S.pure tOk zOk rfl rfl rfl ?_
      refine S.pure tOk zOk rfl rfl rfl ?_
      refine S.pureG tOk zOk rfl rfl tg (fun _ => rfl) rfl ?_
      refine S.callG rfl rfl rfl rfl tg rfl rfl (fun _ => pc_HasPrefix _ [32]) ?_
      refine S.pureG tOk zOk rfl rfl tg (fun _ => rfl) rfl ?_
      refine S.pickOr tOk zOk rfl rfl tg ?_
      refine thenK_n ?_
      refine W.cond rfl (fun c21 => ?_) (fun c21 => ?_)
      ·skip
       refine W.seq ?_
       refine W.region ?_
       refine S.pure tOk zOk rfl rfl rfl ?_
       refine S.store tOk rfl rfl rfl rfl rfl rfl rfl rfl ?_
       refine S.pure tOk zOk rfl rfl rfl ?_
       refine thenK_n ?_
       refine W.ret ?_
       refine thenK_r ?_
       refine thenK_r ?_
       exact ⟨_, rfl, rfl, LeV.of_force rfl (congrArg (fun x : Rul × Int => V.tup [V.agg [.d (.int .i64 x.1.kd), .d (.str x.1.k), .d (.str x.1.tu), .d (.str x.1.old), .d (.str x.1.nu)], V.one (C.d (D.int .i64 x.2))]) (((if_neg (Bool.eq_false_iff.1 c1)).trans ((if_neg (Bool.eq_false_iff.1 c2)).trans ((if_neg (Bool.eq_false_iff.1 c3)).trans ((if_neg (Bool.eq_false_iff.1 c4)).trans ((if_pos c20).trans (if_pos c21)))))) : parR s = _)).symm⟩
      ·skip
       have hpl := pre_len (by first | assumption)
       refine W.skip ?_
       refine thenK_n ?_
       refine W.region ?_
       refine S.pure tOk zOk rfl rfl rfl ?_
       refine S.pureE tOk zOk rfl (sl_ok (by omega) (by omega) (by omega)) (sl_drop1 _) rfl ?_
       refine S.pure tOk zOk rfl rfl rfl ?_
       refine thenK_n ?_
       refine W.seq ?_
       refine W.seq ?_
       refine W.region ?_
       refine S.pure tOk zOk rfl rfl rfl ?_
       refine thenK_n ?_
       refine W.cond rfl (fun c22 => ?_) (fun c22 => ?_)
       ·skip
        refine W.seq ?_
        refine W.region ?_
        refine S.pure tOk zOk rfl rfl rfl ?_
        refine S.call rfl rfl rfl rfl rfl (pc_mquoted _ (by (try dsimp only); repeat first | omega | exact Nat.le_trans hc2.1 (by omega) | exact Nat.le_trans hc2.2 (by omega) | exact Nat.zero_le _ | apply quo_b | apply quo_r | apply drop_b)) ?_
        refine S.pure tOk zOk rfl rfl rfl ?_
        refine S.pure tOk zOk rfl rfl rfl ?_
        refine S.pure tOk zOk rfl rfl rfl ?_
        refine S.pure tOk zOk rfl rfl rfl ?_
        refine S.pure tOk zOk rfl rfl rfl ?_
        refine S.store tOk rfl rfl rfl rfl rfl rfl rfl rfl ?_
        refine S.pure tOk zOk rfl rfl rfl ?_
        refine S.pure tOk zOk rfl rfl rfl ?_
        refine thenK_n ?_
        refine W.seq ?_
        refine W.region ?_
        refine S.pure tOk zOk rfl rfl rfl ?_
        refine S.pure tOk zOk rfl rfl rfl ?_
        refine thenK_n ?_
        refine W.cond rfl (fun c23 => ?_) (fun c23 => ?_)
        ·skip
         refine W.seq ?_
         refine W.region ?_
         refine S.pure tOk zOk rfl rfl rfl ?_
         refine S.store tOk rfl rfl rfl rfl rfl rfl rfl rfl ?_
         refine S.pure tOk zOk rfl rfl rfl ?_
         refine thenK_n ?_
         refine W.ret ?_
         refine thenK_r ?_
         exact ⟨_, rfl, rfl, LeV.of_force rfl (congrArg (fun x : Rul × Int => V.tup [V.agg [.d (.int .i64 x.1.kd), .d (.str x.1.k), .d (.str x.1.tu), .d (.str x.1.old), .d (.str x.1.nu)], V.one (C.d (D.int .i64 x.2))]) (((if_neg (Bool.eq_false_iff.1 c1)).trans ((if_neg (Bool.eq_false_iff.1 c2)).trans ((if_neg (Bool.eq_false_iff.1 c3)).trans ((if_neg (Bool.eq_false_iff.1 c4)).trans ((if_pos c20).trans ((if_neg (Bool.eq_false_iff.1 c21)).trans ((if_pos c22).trans (if_pos c23)))))))) : parR s = _)).symm⟩
        ·skip
         refine W.skip ?_
         refine thenK_n ?_
         refine W.seq ?_
         refine W.seq ?_
         refine W.region ?_
         refine S.pure tOk zOk rfl rfl rfl ?_
         refine S.pure tOk zOk rfl rfl rfl ?_
         refine thenK_n ?_
         refine W.cond rfl (fun c24 => ?_) (fun c24 => ?_)
         ·skip
          refine W.seq ?_
          refine W.region ?_
          refine S.pure tOk zOk rfl rfl rfl ?_
          refine S.store tOk rfl rfl rfl rfl rfl rfl rfl rfl ?_
          refine S.pure tOk zOk rfl rfl rfl ?_
          refine thenK_n ?_
          refine W.ret ?_
          refine thenK_r ?_
          exact ⟨_, rfl, rfl, LeV.of_force rfl (congrArg (fun x : Rul × Int => V.tup [V.agg [.d (.int .i64 x.1.kd), .d (.str x.1.k), .d (.str x.1.tu), .d (.str x.1.old), .d (.str x.1.nu)], V.one (C.d (D.int .i64 x.2))]) (((if_neg (Bool.eq_false_iff.1 c1)).trans ((if_neg (Bool.eq_false_iff.1 c2)).trans ((if_neg (Bool.eq_false_iff.1 c3)).trans ((if_neg (Bool.eq_false_iff.1 c4)).trans ((if_pos c20).trans ((if_neg (Bool.eq_false_iff.1 c21)).trans ((if_pos c22).trans ((if_neg (Bool.eq_false_iff.1 c23)).trans (if_pos c24))))))))) : parR s = _)).symm⟩
         ·skip
          refine W.skip ?_
          refine thenK_n ?_
          refine W.seq ?_
          refine W.seq ?_
          refine W.region ?_
          refine S.pure tOk zOk rfl rfl rfl ?_
          refine S.call rfl rfl rfl rfl rfl (pc_CheckRule ⟨_, _, _, _, _⟩ ⟨by (try dsimp only); repeat first | omega | exact Nat.le_trans hc2.1 (by omega) | exact Nat.le_trans hc2.2 (by omega) | exact Nat.zero_le _ | apply quo_b | apply quo_r | apply drop_b, by (try dsimp only); repeat first | omega | exact Nat.le_trans hc2.1 (by omega) | exact Nat.le_trans hc2.2 (by omega) | exact Nat.zero_le _ | apply quo_b | apply quo_r | apply drop_b, by (try dsimp only); repeat first | omega | exact Nat.le_trans hc2.1 (by omega) | exact Nat.le_trans hc2.2 (by omega) | exact Nat.zero_le _ | apply quo_b | apply quo_r | apply drop_b, by (try dsimp only); repeat first | omega | exact Nat.le_trans hc2.1 (by omega) | exact Nat.le_trans hc2.2 (by omega) | exact Nat.zero_le _ | apply quo_b | apply quo_r | apply drop_b⟩) ?_
          refine S.pure tOk zOk rfl rfl rfl ?_
          refine thenK_n ?_
          refine W.seq ?_
          refine W.region ?_
          refine S.pure tOk zOk rfl rfl rfl ?_
          refine S.pure tOk zOk rfl rfl rfl ?_
          refine thenK_n ?_
          refine W.cond rfl (fun c25 => ?_) (fun c25 => ?_)
          ·skip
           refine W.seq ?_
           refine W.region ?_
           refine S.pure tOk zOk rfl rfl rfl ?_
           refine S.pure tOk zOk rfl rfl rfl ?_
           refine S.store tOk rfl rfl rfl rfl rfl rfl rfl rfl ?_
           refine S.pure tOk zOk rfl rfl rfl ?_
           refine thenK_n ?_
           refine W.ret ?_
           refine thenK_r ?_
           exact ⟨_, rfl, rfl, LeV.of_force rfl (congrArg (fun x : Rul × Int => V.tup [V.agg [.d (.int .i64 x.1.kd), .d (.str x.1.k), .d (.str x.1.tu), .d (.str x.1.old), .d (.str x.1.nu)], V.one (C.d (D.int .i64 x.2))]) (((if_neg (Bool.eq_false_iff.1 c1)).trans ((if_neg (Bool.eq_false_iff.1 c2)).trans ((if_neg (Bool.eq_false_iff.1 c3)).trans ((if_neg (Bool.eq_false_iff.1 c4)).trans ((if_pos c20).trans ((if_neg (Bool.eq_false_iff.1 c21)).trans ((if_pos c22).trans ((if_neg (Bool.eq_false_iff.1 c23)).trans ((if_neg (Bool.eq_false_iff.1 c24)).trans (if_pos c25)))))))))) : parR s = _)).symm⟩
          ·skip
           refine W.skip ?_
           refine thenK_n ?_
           refine W.seq ?_
           refine W.region ?_
           refine S.pure tOk zOk rfl rfl rfl ?_
           refine S.store tOk rfl rfl rfl rfl rfl rfl rfl rfl ?_
           refine S.pure tOk zOk rfl rfl rfl ?_
           refine thenK_n ?_
           refine W.ret ?_
           exact ⟨_, rfl, rfl, LeV.of_force rfl (congrArg (fun x : Rul × Int => V.tup [V.agg [.d (.int .i64 x.1.kd), .d (.str x.1.k), .d (.str x.1.tu), .d (.str x.1.old), .d (.str x.1.nu)], V.one (C.d (D.int .i64 x.2))]) (((if_neg (Bool.eq_false_iff.1 c1)).trans ((if_neg (Bool.eq_false_iff.1 c2)).trans ((if_neg (Bool.eq_false_iff.1 c3)).trans ((if_neg (Bool.eq_false_iff.1 c4)).trans ((if_pos c20).trans ((if_neg (Bool.eq_false_iff.1 c21)).trans ((if_pos c22).trans ((if_neg (Bool.eq_false_iff.1 c23)).trans ((if_neg (Bool.eq_false_iff.1 c24)).trans (if_neg (Bool.eq_false_iff.1 c25))))))))))) : parR s = _)).symm⟩
       ·skip
        refine W.skip ?_
        refine thenK_n ?_
        refine W.seq ?_
        refine W.seq ?_
        refine W.region ?_
        refine S.pure tOk zOk rfl rfl rfl ?_
        refine S.pure tOk zOk rfl rfl rfl ?_
        refine thenK_n ?_
        refine W.cond rfl (fun c26 => ?_) (fun c26 => ?_)
        ·skip
         refine W.seq ?_
         refine W.region ?_
         refine S.pure tOk zOk rfl rfl rfl ?_
         refine S.store tOk rfl rfl rfl rfl rfl rfl rfl rfl ?_
         refine S.pure tOk zOk rfl rfl rfl ?_
         refine thenK_n ?_
         refine W.ret ?_
         refine thenK_r ?_
         exact ⟨_, rfl, rfl, LeV.of_force rfl (congrArg (fun x : Rul × Int => V.tup [V.agg [.d (.int .i64 x.1.kd), .d (.str x.1.k), .d (.str x.1.tu), .d (.str x.1.old), .d (.str x.1.nu)], V.one (C.d (D.int .i64 x.2))]) (((if_neg (Bool.eq_false_iff.1 c1)).trans ((if_neg (Bool.eq_false_iff.1 c2)).trans ((if_neg (Bool.eq_false_iff.1 c3)).trans ((if_neg (Bool.eq_false_iff.1 c4)).trans ((if_pos c20).trans ((if_neg (Bool.eq_false_iff.1 c21)).trans ((if_neg (Bool.eq_false_iff.1 c22)).trans (if_pos c26)))))))) : parR s = _)).symm⟩
        ·skip
         refine W.skip ?_
         refine thenK_n ?_
         refine W.seq ?_
         refine W.seq ?_
         refine W.region ?_
         refine S.pure tOk zOk rfl rfl rfl ?_
         refine S.call rfl rfl rfl rfl rfl (pc_CheckRule ⟨_, _, _, _, _⟩ ⟨by (try dsimp only); repeat first | omega | exact Nat.le_trans hc2.1 (by omega) | exact Nat.le_trans hc2.2 (by omega) | exact Nat.zero_le _ | apply quo_b | apply quo_r | apply drop_b, by (try dsimp only); repeat first | omega | exact Nat.le_trans hc2.1 (by omega) | exact Nat.le_trans hc2.2 (by omega) | exact Nat.zero_le _ | apply quo_b | apply quo_r | apply drop_b, by (try dsimp only); repeat first | omega | exact Nat.le_trans hc2.1 (by omega) | exact Nat.le_trans hc2.2 (by omega) | exact Nat.zero_le _ | apply quo_b | apply quo_r | apply drop_b, by (try dsimp only); repeat first | omega | exact Nat.le_trans hc2.1 (by omega) | exact Nat.le_trans hc2.2 (by omega) | exact Nat.zero_le _ | apply quo_b | apply quo_r | apply drop_b⟩) ?_
         refine S.pure tOk zOk rfl rfl rfl ?_
         refine thenK_n ?_
         refine W.seq ?_
         refine W.region ?_
         refine S.pure tOk zOk rfl rfl rfl ?_
         refine S.pure tOk zOk rfl rfl rfl ?_
         refine thenK_n ?_
         refine W.cond rfl (fun c27 => ?_) (fun c27 => ?_)
         ·skip
          refine W.seq ?_
          refine W.region ?_
          refine S.pure tOk zOk rfl rfl rfl ?_
          refine S.pure tOk zOk rfl rfl rfl ?_
          refine S.store tOk rfl rfl rfl rfl rfl rfl rfl rfl ?_
          refine S.pure tOk zOk rfl rfl rfl ?_
          refine thenK_n ?_
          refine W.ret ?_
          refine thenK_r ?_
          exact ⟨_, rfl, rfl, LeV.of_force rfl (congrArg (fun x : Rul × Int => V.tup [V.agg [.d (.int .i64 x.1.kd), .d (.str x.1.k), .d (.str x.1.tu), .d (.str x.1.old), .d (.str x.1.nu)], V.one (C.d (D.int .i64 x.2))]) (((if_neg (Bool.eq_false_iff.1 c1)).trans ((if_neg (Bool.eq_false_iff.1 c2)).trans ((if_neg (Bool.eq_false_iff.1 c3)).trans ((if_neg (Bool.eq_false_iff.1 c4)).trans ((if_pos c20).trans ((if_neg (Bool.eq_false_iff.1 c21)).trans ((if_neg (Bool.eq_false_iff.1 c22)).trans ((if_neg (Bool.eq_false_iff.1 c26)).trans (if_pos c27))))))))) : parR s = _)).symm⟩
         ·skip
          refine W.skip ?_
          refine thenK_n ?_
          refine W.seq ?_
          refine W.region ?_
          refine S.pure tOk zOk rfl rfl rfl ?_
          refine S.store tOk rfl rfl rfl rfl rfl rfl rfl rfl ?_
          refine S.pure tOk zOk rfl rfl rfl ?_
          refine thenK_n ?_
          refine W.ret ?_
          exact ⟨_, rfl, rfl, LeV.of_force rfl (congrArg (fun x : Rul × Int => V.tup [V.agg [.d (.int .i64 x.1.kd), .d (.str x.1.k), .d (.str x.1.tu), .d (.str x.1.old), .d (.str x.1.nu)], V.one (C.d (D.int .i64 x.2))]) (((if_neg (Bool.eq_false_iff.1 c1)).trans ((if_neg (Bool.eq_false_iff.1 c2)).trans ((if_neg (Bool.eq_false_iff.1 c3)).trans ((if_neg (Bool.eq_false_iff.1 c4)).trans ((if_pos c20).trans ((if_neg (Bool.eq_false_iff.1 c21)).trans ((if_neg (Bool.eq_false_iff.1 c22)).trans ((if_neg (Bool.eq_false_iff.1 c26)).trans (if_neg (Bool.eq_false_iff.1 c27)))))))))) : parR s = _)).symm⟩
     ·skip
      refine W.skip ?_
      refine thenK_n ?_
      refine W.seq ?_
      refine W.seq ?_
      refine W.region ?_
      refine S.pure tOk zOk rfl rfl rfl ?_
      refine thenK_n ?_
      refine W.cond rfl (fun c28 => ?_) (fun c28 => ?_)
      ·skip
       refine W.seq ?_
       refine W.region ?_
       refine S.pure tOk zOk rfl rfl rfl ?_
       refine S.call rfl rfl rfl rfl rfl (pc_mquoted _ (by (try dsimp only); repeat first | omega | exact Nat.le_trans hc2.1 (by omega) | exact Nat.le_trans hc2.2 (by omega) | exact Nat.zero_le _ | apply quo_b | apply quo_r | apply drop_b)) ?_
       refine S.pure tOk zOk rfl rfl rfl ?_
       refine S.pure tOk zOk rfl rfl rfl ?_
       refine S.pure tOk zOk rfl rfl rfl ?_
       refine S.pure tOk zOk rfl rfl rfl ?_
       refine S.pure tOk zOk rfl rfl rfl ?_
       refine S.store tOk rfl rfl rfl rfl rfl rfl rfl rfl ?_
       refine S.pure tOk zOk rfl rfl rfl ?_
       refine S.pure tOk zOk rfl rfl rfl ?_
       refine thenK_n ?_
       refine W.seq ?_
       refine W.region ?_
       refine S.pure tOk zOk rfl rfl rfl ?_
       refine S.pure tOk zOk rfl rfl rfl ?_
       refine thenK_n ?_
       refine W.cond rfl (fun c29 => ?_) (fun c29 => ?_)
       ·skip
        refine W.seq ?_
        refine W.region ?_
        refine S.pure tOk zOk rfl rfl rfl ?_
        refine S.store tOk rfl rfl rfl rfl rfl rfl rfl rfl ?_
        refine S.pure tOk zOk rfl rfl rfl ?_
        refine thenK_n ?_
        refine W.ret ?_
        refine thenK_r ?_
        exact ⟨_, rfl, rfl, LeV.of_force rfl (congrArg (fun x : Rul × Int => V.tup [V.agg [.d (.int .i64 x.1.kd), .d (.str x.1.k), .d (.str x.1.tu), .d (.str x.1.old), .d (.str x.1.nu)], V.one (C.d (D.int .i64 x.2))]) (((if_neg (Bool.eq_false_iff.1 c1)).trans ((if_neg (Bool.eq_false_iff.1 c2)).trans ((if_neg (Bool.eq_false_iff.1 c3)).trans ((if_neg (Bool.eq_false_iff.1 c4)).trans ((if_neg (Bool.eq_false_iff.1 c20)).trans ((if_pos c28).trans (if_pos c29))))))) : parR s = _)).symm⟩
       ·skip
        refine W.skip ?_
        refine thenK_n ?_
        refine W.seq ?_
        refine W.seq ?_
        refine W.region ?_
        refine S.pure tOk zOk rfl rfl rfl ?_
        refine S.pure tOk zOk rfl rfl rfl ?_
        refine thenK_n ?_
        refine W.cond rfl (fun c30 => ?_) (fun c30 => ?_)
        ·skip
         refine W.seq ?_
         refine W.region ?_
         refine S.pure tOk zOk rfl rfl rfl ?_
         refine S.store tOk rfl rfl rfl rfl rfl rfl rfl rfl ?_
         refine S.pure tOk zOk rfl rfl rfl ?_
         refine thenK_n ?_
         refine W.ret ?_
         refine thenK_r ?_
         exact ⟨_, rfl, rfl, LeV.of_force rfl (congrArg (fun x : Rul × Int => V.tup [V.agg [.d (.int .i64 x.1.kd), .d (.str x.1.k), .d (.str x.1.tu), .d (.str x.1.old), .d (.str x.1.nu)], V.one (C.d (D.int .i64 x.2))]) (((if_neg (Bool.eq_false_iff.1 c1)).trans ((if_neg (Bool.eq_false_iff.1 c2)).trans ((if_neg (Bool.eq_false_iff.1 c3)).trans ((if_neg (Bool.eq_false_iff.1 c4)).trans ((if_neg (Bool.eq_false_iff.1 c20)).trans ((if_pos c28).trans ((if_neg (Bool.eq_false_iff.1 c29)).trans (if_pos c30)))))))) : parR s = _)).symm⟩
        ·skip
         refine W.skip ?_
         refine thenK_n ?_
         refine W.seq ?_
         refine W.seq ?_
         refine W.region ?_
         refine S.pure tOk zOk rfl rfl rfl ?_
         refine S.call rfl rfl rfl rfl rfl (pc_CheckRule ⟨_, _, _, _, _⟩ ⟨by (try dsimp only); repeat first | omega | exact Nat.le_trans hc2.1 (by omega) | exact Nat.le_trans hc2.2 (by omega) | exact Nat.zero_le _ | apply quo_b | apply quo_r | apply drop_b, by (try dsimp only); repeat first | omega | exact Nat.le_trans hc2.1 (by omega) | exact Nat.le_trans hc2.2 (by omega) | exact Nat.zero_le _ | apply quo_b | apply quo_r | apply drop_b, by (try dsimp only); repeat first | omega | exact Nat.le_trans hc2.1 (by omega) | exact Nat.le_trans hc2.2 (by omega) | exact Nat.zero_le _ | apply quo_b | apply quo_r | apply drop_b, by (try dsimp only); repeat first | omega | exact Nat.le_trans hc2.1 (by omega) | exact Nat.le_trans hc2.2 (by omega) | exact Nat.zero_le _ | apply quo_b | apply quo_r | apply drop_b⟩) ?_
         refine S.pure tOk zOk rfl rfl rfl ?_
         refine thenK_n ?_
         refine W.seq ?_
         refine W.region ?_
         refine S.pure tOk zOk rfl rfl rfl ?_
         refine S.pure tOk zOk rfl rfl rfl ?_
         refine thenK_n ?_
         refine W.cond rfl (fun c31 => ?_) (fun c31 => ?_)
         ·skip
          refine W.seq ?_
          refine W.region ?_
          refine S.pure tOk zOk rfl rfl rfl ?_
          refine S.pure tOk zOk rfl rfl rfl ?_
          refine S.store tOk rfl rfl rfl rfl rfl rfl rfl rfl ?_
          refine S.pure tOk zOk rfl rfl rfl ?_
          refine thenK_n ?_
          refine W.ret ?_
          refine thenK_r ?_
          exact ⟨_, rfl, rfl, LeV.of_force rfl (congrArg (fun x : Rul × Int => V.tup [V.agg [.d (.int .i64 x.1.kd), .d (.str x.1.k), .d (.str x.1.tu), .d (.str x.1.old), .d (.str x.1.nu)], V.one (C.d (D.int .i64 x.2))]) (((if_neg (Bool.eq_false_iff.1 c1)).trans ((if_neg (Bool.eq_false_iff.1 c2)).trans ((if_neg (Bool.eq_false_iff.1 c3)).trans ((if_neg (Bool.eq_false_iff.1 c4)).trans ((if_neg (Bool.eq_false_iff.1 c20)).trans ((if_pos c28).trans ((if_neg (Bool.eq_false_iff.1 c29)).trans ((if_neg (Bool.eq_false_iff.1 c30)).trans (if_pos c31))))))))) : parR s = _)).symm⟩
         ·skip
          refine W.skip ?_
          refine thenK_n ?_
          refine W.seq ?_
          refine W.region ?_
          refine S.pure tOk zOk rfl rfl rfl ?_
          refine S.store tOk rfl rfl rfl rfl rfl rfl rfl rfl ?_
          refine S.pure tOk zOk rfl rfl rfl ?_
          refine thenK_n ?_
          refine W.ret ?_
          exact ⟨_, rfl, rfl, LeV.of_force rfl (congrArg (fun x : Rul × Int => V.tup [V.agg [.d (.int .i64 x.1.kd), .d (.str x.1.k), .d (.str x.1.tu), .d (.str x.1.old), .d (.str x.1.nu)], V.one (C.d (D.int .i64 x.2))]) (((if_neg (Bool.eq_false_iff.1 c1)).trans ((if_neg (Bool.eq_false_iff.1 c2)).trans ((if_neg (Bool.eq_false_iff.1 c3)).trans ((if_neg (Bool.eq_false_iff.1 c4)).trans ((if_neg (Bool.eq_false_iff.1 c20)).trans ((if_pos c28).trans ((if_neg (Bool.eq_false_iff.1 c29)).trans ((if_neg (Bool.eq_false_iff.1 c30)).trans (if_neg (Bool.eq_false_iff.1 c31)))))))))) : parR s = _)).symm⟩
      ·skip
       refine W.skip ?_
       refine thenK_n ?_
       refine W.seq ?_
       refine W.seq ?_
       refine W.region ?_
       refine S.pure tOk zOk rfl rfl rfl ?_
       refine S.pure tOk zOk rfl rfl rfl ?_
       refine thenK_n ?_
       refine W.cond rfl (fun c32 => ?_) (fun c32 => ?_)
       ·skip
        refine W.seq ?_
        refine W.region ?_
        refine S.pure tOk zOk rfl rfl rfl ?_
        refine S.store tOk rfl rfl rfl rfl rfl rfl rfl rfl ?_
        refine S.pure tOk zOk rfl rfl rfl ?_
        refine thenK_n ?_
        refine W.ret ?_
        refine thenK_r ?_
        exact ⟨_, rfl, rfl, LeV.of_force rfl (congrArg (fun x : Rul × Int => V.tup [V.agg [.d (.int .i64 x.1.kd), .d (.str x.1.k), .d (.str x.1.tu), .d (.str x.1.old), .d (.str x.1.nu)], V.one (C.d (D.int .i64 x.2))]) (((if_neg (Bool.eq_false_iff.1 c1)).trans ((if_neg (Bool.eq_false_iff.1 c2)).trans ((if_neg (Bool.eq_false_iff.1 c3)).trans ((if_neg (Bool.eq_false_iff.1 c4)).trans ((if_neg (Bool.eq_false_iff.1 c20)).trans ((if_neg (Bool.eq_false_iff.1 c28)).trans (if_pos c32))))))) : parR s = _)).symm⟩
       ·skip
        refine W.skip ?_
        refine thenK_n ?_
        refine W.seq ?_
        refine W.seq ?_
        refine W.region ?_
        refine S.pure tOk zOk rfl rfl rfl ?_
        refine S.call rfl rfl rfl rfl rfl (pc_CheckRule ⟨_, _, _, _, _⟩ ⟨by (try dsimp only); repeat first | omega | exact Nat.le_trans hc2.1 (by omega) | exact Nat.le_trans hc2.2 (by omega) | exact Nat.zero_le _ | apply quo_b | apply quo_r | apply drop_b, by (try dsimp only); repeat first | omega | exact Nat.le_trans hc2.1 (by omega) | exact Nat.le_trans hc2.2 (by omega) | exact Nat.zero_le _ | apply quo_b | apply quo_r | apply drop_b, by (try dsimp only); repeat first | omega | exact Nat.le_trans hc2.1 (by omega) | exact Nat.le_trans hc2.2 (by omega) | exact Nat.zero_le _ | apply quo_b | apply quo_r | apply drop_b, by (try dsimp only); repeat first | omega | exact Nat.le_trans hc2.1 (by omega) | exact Nat.le_trans hc2.2 (by omega) | exact Nat.zero_le _ | apply quo_b | apply quo_r | apply drop_b⟩) ?_
        refine S.pure tOk zOk rfl rfl rfl ?_
        refine thenK_n ?_
        refine W.seq ?_
        refine W.region ?_
        refine S.pure tOk zOk rfl rfl rfl ?_
        refine S.pure tOk zOk rfl rfl rfl ?_
        refine thenK_n ?_
        refine W.cond rfl (fun c33 => ?_) (fun c33 => ?_)
        ·skip
         refine W.seq ?_
         refine W.region ?_
         refine S.pure tOk zOk rfl rfl rfl ?_
         refine S.pure tOk zOk rfl rfl rfl ?_
         refine S.store tOk rfl rfl rfl rfl rfl rfl rfl rfl ?_
         refine S.pure tOk zOk rfl rfl rfl ?_
         refine thenK_n ?_
         refine W.ret ?_
         refine thenK_r ?_
         exact ⟨_, rfl, rfl, LeV.of_force rfl (congrArg (fun x : Rul × Int => V.tup [V.agg [.d (.int .i64 x.1.kd), .d (.str x.1.k), .d (.str x.1.tu), .d (.str x.1.old), .d (.str x.1.nu)], V.one (C.d (D.int .i64 x.2))]) (((if_neg (Bool.eq_false_iff.1 c1)).trans ((if_neg (Bool.eq_false_iff.1 c2)).trans ((if_neg (Bool.eq_false_iff.1 c3)).trans ((if_neg (Bool.eq_false_iff.1 c4)).trans ((if_neg (Bool.eq_false_iff.1 c20)).trans ((if_neg (Bool.eq_false_iff.1 c28)).trans ((if_neg (Bool.eq_false_iff.1 c32)).trans (if_pos c33)))))))) : parR s = _)).symm⟩
        ·skip
         refine W.skip ?_
         refine thenK_n ?_
         refine W.seq ?_
         refine W.region ?_
         refine S.pure tOk zOk rfl rfl rfl ?_
         refine S.store tOk rfl rfl rfl rfl rfl rfl rfl rfl ?_
         refine S.pure tOk zOk rfl rfl rfl ?_
         refine thenK_n ?_
         refine W.ret ?_
         exact ⟨_, rfl, rfl, LeV.of_force rfl (congrArg (fun x : Rul × Int => V.tup [V.agg [.d (.int .i64 x.1.kd), .d (.str x.1.k), .d (.str x.1.tu), .d (.str x.1.old), .d (.str x.1.nu)], V.one (C.d (D.int .i64 x.2))]) (((if_neg (Bool.eq_false_iff.1 c1)).trans ((if_neg (Bool.eq_false_iff.1 c2)).trans ((if_neg (Bool.eq_false_iff.1 c3)).trans ((if_neg (Bool.eq_false_iff.1 c4)).trans ((if_neg (Bool.eq_false_iff.1 c20)).trans ((if_neg (Bool.eq_false_iff.1 c28)).trans ((if_neg (Bool.eq_false_iff.1 c32)).trans (if_neg (Bool.eq_false_iff.1 c33))))))))) : parR s = _)).symm⟩
end Go.Proofs.YtgknfikdajoiaaaGreatDoor
namespace Go.Proofs.YtgknfikdajoiaaaGreatDoor
open Go
open Go.RowKit
attribute [local irreducible] pathB valueB quoteL qAt
end Go.Proofs.YtgknfikdajoiaaaGreatDoor
namespace Go.Proofs.YtgknfikdajoiaaaGreatDoor
open Go
section
variable {s o : List UInt8} {i : Nat}
theorem qcat (hi : i < s.length) : V.one (.d (.str (o ++ (s.take ((i + 1 : Nat) : Int).toNat).drop ((i : Nat) : Int).toNat))) = V.one (.d (.str (o ++ [s.getD i 0]))) := by
  have h : (s.take (i + 1)).drop i = [s.getD i 0] := by
    rw [List.getD_eq_getElem?_getD, List.getElem?_eq_getElem hi, List.take_succ_eq_append_getElem hi, List.drop_append_of_le_length (by simp; omega)]
    simp
  show V.one (.d (.str (o ++ (s.take (i + 1)).drop i))) = _
  rw [h]
end
end Go.Proofs.YtgknfikdajoiaaaGreatDoor
namespace Go.Proofs.YtgknfikdajoiaaaGreatDoor
open Go
open Go.RowKit
attribute [local irreducible] pathB valueB quoteL qAt
theorem pc_outref2_quotedAt (s : List UInt8) (f : Nat) (hs : s.length ≤ 4000) (hf : f < s.length) :
  PureCall Tryz.prog J 45 [.one (.d (.str s)), .one (.d (.int .i64 (f : Int)))] (.tup [.one (.d (.str (qT (qAt s f)))), .one (.d (.int .i64 (qE (qAt s f) : Int))), .one (.d (.bool (qAt s f).isSome))]) := by
 refine PureCall.of_body tOk (fn := Tryz.f45) Tryz.func45 (by kernel_rfl) rfl (Nat.le_of_ble_eq_true rfl) (fun E => ?_)
 refine W.seq ?_
 refine W.region ?_
 refine S.pure tOk zOk rfl rfl rfl ?_
 refine S.pure tOk zOk rfl rfl rfl ?_
 refine S.pure tOk zOk rfl rfl rfl ?_
 refine thenK_n ?_
 refine W.seq ?_
 refine W.region ?_
 refine S.pure tOk zOk rfl rfl rfl ?_
 refine thenK_n ?_
 refine W.seq ?_
 refine W.seq ?_
 refine W.region ?_
 refine S.pure tOk zOk rfl rfl rfl ?_
 refine S.pureE tOk zOk rfl rfl (inc_i64 (by omega)) rfl ?_
 refine S.pure tOk zOk rfl rfl rfl ?_
 refine thenK_n ?_
 refine W.block ?_
 refine W.loop (fun k st => ∃ i : Nat, ∃ o : List UInt8, i ≤ s.length ∧ quoteL (s.drop i) o i = (qAt s f) ∧ o.length ≤ i ∧ k = s.length - i ∧ ∃ t b2 r2 m2, st = ⟨t, [] ++ b2, [] ++ r2, [] ++ m2⟩ ∧ holdsL t [(0, .one (.d (.str s))), (7, .one (.d (.str o))), (8, .one (.d (.int .i64 (i : Int))))]) (s.length - (f + 1)) ⟨f + 1, [], hf, q_start, Nat.zero_le _, rfl, _, _, _, _, rfl, rfl, rfl, rfl, trivial⟩ ?_
 rintro k0 _ ⟨i, o, f0_0, f0_1, f0_2, rfl, t0, bb0, rr0, mm0, rfl, hh0⟩
 refine W.keepR _ _ _ _ _ _ _ hh0 rfl ?_
 refine W.seq ?_
 refine W.seq ?_
 refine W.region ?_
 refine S.pure tOk zOk rfl rfl rfl ?_
 refine S.pure tOk zOk rfl rfl rfl ?_
 refine S.pure tOk zOk rfl rfl rfl ?_
 refine S.pure tOk zOk rfl rfl rfl ?_
 refine thenK_n ?_
 refine W.cond rfl (fun c1 => ?_) (fun c1 => ?_)
 ·skip
  have hi : i < s.length := by simpa using c1
  refine W.skip ?_
  refine thenK_n ?_
  refine W.seq ?_
  refine W.block ?_
  refine W.seq ?_
  refine W.seq ?_
  refine W.region ?_
  refine S.pure tOk zOk rfl rfl rfl ?_
  refine S.pure tOk zOk rfl rfl rfl ?_
  refine S.pure tOk zOk rfl (str_ok hi) rfl ?_
  refine thenK_n ?_
  refine W.block ?_
  refine W.seq ?_
  refine W.region ?_
  refine S.pure tOk zOk rfl rfl rfl ?_
  refine S.pure tOk zOk rfl rfl rfl ?_
  refine thenK_n ?_
  refine W.cond rfl (fun c2 => ?_) (fun c2 => ?_)
  ·skip
   have hq := qL_q hi (u8i (k := 34) c2) f0_1
   refine W.seq ?_
   refine W.region ?_
   refine S.pure tOk zOk rfl rfl rfl ?_
   refine S.pure tOk zOk rfl rfl rfl ?_
   refine S.pureE tOk zOk rfl rfl (inc_i64 (by omega)) rfl ?_
   refine S.pure tOk zOk rfl rfl rfl ?_
   refine S.pure tOk zOk rfl rfl rfl ?_
   refine S.pure tOk zOk rfl rfl rfl ?_
   refine thenK_n ?_
   refine W.ret ?_
   refine blockK_r ?_
   refine thenK_r ?_
   refine blockK_r ?_
   refine thenK_r ?_
   refine thenK_r ?_
   refine blockK_r ?_
   refine thenK_r ?_
   exact ⟨_, rfl, rfl, LeV.of_force rfl (by rw [hq]; rfl)⟩
  ·skip
   have hc := u8i (c := s.getD i 0) (k := 34) c2
   refine W.seq ?_
   refine W.region ?_
   refine S.pure tOk zOk rfl rfl rfl ?_
   refine S.pure tOk zOk rfl rfl rfl ?_
   refine thenK_n ?_
   refine W.cond rfl (fun c3 => ?_) (fun c3 => ?_)
   ·skip
    have hb := u8i (c := s.getD i 0) (k := 92) c3
    refine W.seq ?_
    refine W.region ?_
    refine S.pure tOk zOk rfl rfl rfl ?_
    refine S.pureE tOk zOk rfl rfl (inc_i64 (by omega)) rfl ?_
    refine S.pure tOk zOk rfl rfl rfl ?_
    refine thenK_n ?_
    refine W.seq ?_
    refine W.region ?_
    refine S.pure tOk zOk rfl rfl rfl ?_
    refine S.pure tOk zOk rfl rfl rfl ?_
    refine S.pure tOk zOk rfl rfl rfl ?_
    refine S.pure tOk zOk rfl rfl rfl ?_
    refine S.pure tOk zOk rfl rfl rfl ?_
    refine S.pureG tOk zOk rfl rfl tg (fun _ => rfl) rfl ?_
    refine S.pureG tOk zOk rfl rfl tg (fun _ => rfl) rfl ?_
    refine S.pureG tOk zOk rfl rfl tg (fun h => qidx hi h) rfl ?_
    refine S.pureG tOk zOk rfl rfl tg (fun _ => rfl) rfl ?_
    refine S.pureG tOk zOk rfl rfl tg (fun _ => rfl) rfl ?_
    refine S.pureG tOk zOk rfl rfl tg (fun _ => rfl) rfl ?_
    refine S.pureG tOk zOk rfl rfl tg (fun _ => rfl) rfl ?_
    refine S.pureG tOk zOk rfl rfl tg (fun h => qidx hi (andl h)) rfl ?_
    refine S.pureG tOk zOk rfl rfl tg (fun _ => rfl) rfl ?_
    refine S.pickAndG tOk zOk rfl rfl rfl tg tg ?_
    refine S.pickOr tOk zOk rfl rfl tg ?_
    refine thenK_n ?_
    refine W.cond rfl (fun c4 => ?_) (fun c4 => ?_)
    ·skip
     have hq := qL_bad hi hc hb (qbad c4) f0_1
     refine W.seq ?_
     refine W.region ?_
     refine S.pure tOk zOk rfl rfl rfl ?_
     refine S.pure tOk zOk rfl rfl rfl ?_
     refine S.pure tOk zOk rfl rfl rfl ?_
     refine thenK_n ?_
     refine W.ret ?_
     refine blockK_r ?_
     refine thenK_r ?_
     refine blockK_r ?_
     refine thenK_r ?_
     refine thenK_r ?_
     refine blockK_r ?_
     refine thenK_r ?_
     exact ⟨_, rfl, rfl, LeV.of_force rfl (by rw [hq]; rfl)⟩
    ·skip
     have hi1 : i + 1 < s.length := qok1 hi c4
     have hd := qok2 c4
     refine W.skip ?_
     refine blockK_n ?_
     refine thenK_n ?_
     refine W.region ?_
     refine S.pure tOk zOk rfl rfl rfl ?_
     refine S.pure tOk zOk rfl rfl rfl ?_
     refine S.pure tOk zOk rfl rfl rfl ?_
     refine S.pure tOk zOk rfl rfl rfl ?_
     refine S.pureE tOk zOk rfl rfl (inc_i64 (by omega)) rfl ?_
     refine S.pure tOk zOk rfl (sl_ok (by omega) (by omega) (by omega)) rfl ?_
     refine S.pureE tOk zOk rfl (cat_ok (by simp; omega)) (by first | exact qcat hi1 | exact qcat hi) rfl ?_
     refine S.pure tOk zOk rfl rfl rfl ?_
     refine blockK_n ?_
     refine thenK_n ?_
     refine W.region ?_
     refine S.pure tOk zOk rfl rfl rfl ?_
     refine S.pure tOk zOk rfl rfl rfl ?_
     refine S.pure tOk zOk rfl rfl rfl ?_
     refine loop_n (s.length - _) (by first | exact qm2 hi | exact qm1 hi) ⟨i + 1 + 1, _, hi1, qL_esc hi1 hc hb hd f0_1, (by simp; omega), rfl, _, _, _, _, rfl, rfl, rfl, inc_i64 (by omega), trivial⟩
   ·skip
    have hb := u8i (c := s.getD i 0) (k := 92) c3
    refine W.skip ?_
    refine blockK_n ?_
    refine thenK_n ?_
    refine W.region ?_
    refine S.pure tOk zOk rfl rfl rfl ?_
    refine S.pure tOk zOk rfl rfl rfl ?_
    refine S.pure tOk zOk rfl rfl rfl ?_
    refine S.pure tOk zOk rfl rfl rfl ?_
    refine S.pureE tOk zOk rfl rfl (inc_i64 (by omega)) rfl ?_
    refine S.pure tOk zOk rfl (sl_ok (by omega) (by omega) (by omega)) rfl ?_
    refine S.pureE tOk zOk rfl (cat_ok (by simp; omega)) (by first | exact qcat hi1 | exact qcat hi) rfl ?_
    refine S.pure tOk zOk rfl rfl rfl ?_
    refine blockK_n ?_
    refine thenK_n ?_
    refine W.region ?_
    refine S.pure tOk zOk rfl rfl rfl ?_
    refine S.pure tOk zOk rfl rfl rfl ?_
    refine S.pure tOk zOk rfl rfl rfl ?_
    refine loop_n (s.length - _) (by first | exact qm2 hi | exact qm1 hi) ⟨i + 1, _, hi, qL_c hi hc hb f0_1, (by simp; omega), rfl, _, _, _, _, rfl, rfl, rfl, inc_i64 (by omega), trivial⟩
 ·skip
  have hi : s.length ≤ i := by simpa using c1
  have hq := qL_end hi f0_1
  refine W.exit ?_
  refine thenK_e ?_
  refine thenK_e ?_
  refine blockK_x ?_
  refine thenK_n ?_
  refine W.seq ?_
  refine W.region ?_
  refine S.pure tOk zOk rfl rfl rfl ?_
  refine S.pure tOk zOk rfl rfl rfl ?_
  refine S.pure tOk zOk rfl rfl rfl ?_
  refine thenK_n ?_
  refine W.ret ?_
  exact ⟨_, rfl, rfl, LeV.of_force rfl (by rw [hq]; rfl)⟩
end Go.Proofs.YtgknfikdajoiaaaGreatDoor
namespace Go.Proofs.YtgknfikdajoiaaaGreatDoor
open Go
theorem replK_ne {b c : UInt8} (new : L8) (h : b ≠ c) (l : L8) : ∀ k, Lib.replaceK [c] new k (b :: l) = b :: Lib.replaceK [c] new k l
  | 0 => rfl
  | k + 1 => by
    have hp : ([c] : L8).isPrefixOf (b :: l) = false := by
      simp only [List.isPrefixOf, Bool.and_true]
      simpa using fun e => h e.symm
    have hi : Lib.index (b :: l) [c] = if Lib.index l [c] == -1 then -1 else Lib.index l [c] + 1 := by
      show (if ([c] : L8).isPrefixOf (b :: l) then (0 : Int) else _) = _
      rw [hp]; rfl
    have hge := Lib.index_ge l [c]
    by_cases hm : Lib.index l [c] = -1
    · have e1 : Lib.index (b :: l) [c] = -1 := by rw [hi, hm]; rfl
      unfold Lib.replaceK
      rw [e1, hm]; rfl
    · have hm' : (Lib.index l [c] == -1) = false := by simpa using hm
      obtain ⟨i, hil⟩ : ∃ i : Nat, Lib.index l [c] = i := ⟨(Lib.index l [c]).toNat, by omega⟩
      have e1 : Lib.index (b :: l) [c] = ((i + 1 : Nat) : Int) := by rw [hi, hm', hil]; rfl
      rw [Lib.replaceK_hit _ _ _ _ _ e1, Lib.replaceK_hit _ _ _ _ _ hil]
      rfl
theorem repl_one (c : UInt8) {new : L8} : ∀ s : L8, Lib.replaceK [c] new (Lib.count s [c]) s = s.flatMap fun x => if x == c then new else [x]
  | [] => rfl
  | b :: l => by
    have ih := repl_one c (new := new) l
    by_cases h : b = c
    · subst h
      have hi : Lib.index (b :: l) [b] = ((0 : Nat) : Int) := by
        show (if ([b] : L8).isPrefixOf (b :: l) then (0 : Int) else _) = _
        simp [List.isPrefixOf]
      rw [Lib.count_cons_eq, Nat.add_comm, Lib.replaceK_hit _ _ _ _ _ hi]
      simp only [List.take_zero, List.nil_append, Nat.zero_add, List.length_cons, List.length_nil, List.drop_succ_cons, List.drop_zero, List.flatMap_cons, beq_self_eq_true, if_true]
      rw [ih]
    · rw [Lib.count_cons_ne b c l h, replK_ne new h, ih]
      have : (b == c) = false := by simpa using h
      simp only [List.flatMap_cons, this, Bool.false_eq_true, if_false]; rfl
theorem replAll_one (c : UInt8) {new : L8} (hn : new ≠ [c]) (s : L8) : Lib.replaceAll s [c] new = s.flatMap fun x => if x == c then new else [x] := by
  unfold Lib.replaceAll Lib.replace Lib.replaceNum
  rw [if_neg (by simpa using fun e => hn e.symm), if_pos (.inl (by decide))]
  exact repl_one c s
theorem repl_esc (s : L8) : Lib.replaceAll (Lib.replaceAll s [92] [92, 92]) [34] [92, 34] = escB s := by
  rw [replAll_one 92 (by decide), replAll_one 34 (by decide), List.flatMap_assoc]
  unfold escB
  congr 1
  funext c
  unfold esc1 spec
  by_cases h1 : c = 92
  · subst h1; rfl
  · by_cases h2 : c = 34
    · subst h2; rfl
    · have e1 : (c == 92) = false := by simpa using h1
      have e2 : (c == 34) = false := by simpa using h2
      simp [e1, e2, h1, h2]
theorem quote_esc (rest : L8) : ∀ (s o : L8) (i : Nat), quoteL (escB s ++ 34 :: rest) o i = some (o ++ s, i + (escB s).length + 1)
  | [], o, i => by
    show quoteL (34 :: rest) o i = _
    unfold quoteL
    simp [escB]
  | c :: s, o, i => by
    rw [esc_cons]
    have ih := fun o i => quote_esc rest s o i
    unfold esc1
    cases hs : spec c with
    | true =>
      rw [if_pos rfl]
      show quoteL (92 :: c :: (escB s ++ 34 :: rest)) o i = _
      unfold quoteL
      have hc : (c != 34 && c != 92) = false := by
        unfold spec at hs
        cases h1 : (c == 92) <;> cases h2 : (c == 34) <;> simp_all [bne]
      simp only [show ((92 : UInt8) == 34) = false from rfl, show ((92 : UInt8) == 92) = true from rfl, Bool.false_eq_true, if_false, if_true, hc]
      rw [ih]
      simp; omega
    | false =>
      rw [if_neg (by simp)]
      show quoteL (c :: (escB s ++ 34 :: rest)) o i = _
      unfold spec at hs
      rw [Bool.or_eq_false_iff] at hs
      unfold quoteL
      simp only [hs.1, hs.2, Bool.false_eq_true, if_false]
      rw [ih]
      simp; omega
theorem quo_len (s : L8) : (34 :: (escB s ++ [34])).length = (escB s).length + 2 := by simp
theorem qAt_quo (s rest : L8) : qAt (34 :: (escB s ++ [34]) ++ rest) 0 = some (s, (escB s).length + 2) := by
  unfold qAt
  show quoteL (escB s ++ [34] ++ rest) [] 1 = _
  rw [List.append_assoc]
  show quoteL (escB s ++ 34 :: rest) [] 1 = _
  rw [quote_esc]
  simp; omega
theorem quoP_quo (s rest : L8) : quoP (34 :: (escB s ++ [34]) ++ rest) = (s, rest, true) := by
  unfold quoP
  rw [qAt_quo]
  have hc : ((34 :: (escB s ++ [34]) ++ rest) == [] || (bI ((34 :: (escB s ++ [34]) ++ rest).getD 0 0) != 34)) = false := rfl
  rw [hc]
  show (s, (34 :: (escB s ++ [34]) ++ rest).drop ((escB s).length + 2), true) = _
  rw [List.drop_append_of_le_length (by rw [quo_len]; exact Nat.le_refl _), List.drop_of_length_le (by rw [quo_len]; exact Nat.le_refl _)]; rfl
theorem quote_sound : ∀ (n : Nat) (l o : L8) (i : Nat) (x : L8) (e : Nat), l.length ≤ n → quoteL l o i = some (x, e) → ∃ y t, x = o ++ y ∧ l = escB y ++ 34 :: t ∧ e = i + (escB y).length + 1
  | 0, l, o, i, x, e, h, hq => by
    obtain rfl : l = [] := List.length_eq_zero_iff.1 (by omega)
    simp [quoteL] at hq
  | n + 1, [], o, i, x, e, h, hq => by simp [quoteL] at hq
  | n + 1, c :: l, o, i, x, e, h, hq => by
    unfold quoteL at hq
    split at hq
    · rename_i hc
      have hc : c = 34 := by simpa using hc
      subst hc
      simp only [Option.some.injEq, Prod.mk.injEq] at hq
      exact ⟨[], l, by simp [hq.1], by simp [escB], by simp [escB]; omega⟩
    · rename_i hc
      split at hq
      · rename_i hb
        have hb : c = 92 := by simpa using hb
        subst hb
        split at hq
        · cases hq
        · rename_i d m
          split at hq
          · cases hq
          · rename_i hd
            simp at h
            obtain ⟨y, t, h1, h2, h3⟩ := quote_sound n m (o ++ [d]) (i + 2) x e (by omega) hq
            have hs : spec d = true := by
              unfold spec
              cases e1 : (d == 92) <;> cases e2 : (d == 34) <;> simp_all [bne]
            refine ⟨d :: y, t, by rw [h1]; simp, ?_, ?_⟩
            · rw [esc_cons, h2]; unfold esc1; rw [if_pos hs]; simp
            · rw [esc_cons, List.length_append, esc1_len, if_pos hs]; omega
      · rename_i hb
        simp at h
        obtain ⟨y, t, h1, h2, h3⟩ := quote_sound n l (o ++ [c]) (i + 1) x e (by omega) hq
        have hs : spec c = false := by
          unfold spec
          have e1 : (c == 92) = false := by simpa using hb
          have e2 : (c == 34) = false := by simpa using hc
          rw [e1, e2]; rfl
        refine ⟨c :: y, t, by rw [h1]; simp, ?_, ?_⟩
        · rw [esc_cons, h2]; unfold esc1; rw [if_neg (by rw [hs]; simp)]; simp
        · rw [esc_cons, List.length_append, esc1_len, if_neg (by rw [hs]; simp)]; omega
theorem qAt_sound {s x : L8} {e : Nat} (h0 : s.getD 0 0 = 34) (h1 : s ≠ []) (h : qAt s 0 = some (x, e)) : s = 34 :: (escB x ++ [34]) ++ s.drop e ∧ e = (escB x).length + 2 := by
  cases s with
  | nil => exact absurd rfl h1
  | cons c l =>
    have hc : c = 34 := by simpa using h0
    subst hc
    unfold qAt at h
    obtain ⟨y, t, h2, h3, h4⟩ := quote_sound _ _ _ _ _ _ (Nat.le_refl _) (show quoteL l [] 1 = some (x, e) from h)
    simp at h2
    subst h2
    refine ⟨?_, by omega⟩
    have he : e = (escB x).length + 2 := by omega
    rw [he, h3]
    have : (34 :: (escB x ++ 34 :: t)) = (34 :: (escB x ++ [34])) ++ t := by simp
    rw [this, List.drop_append_of_le_length (by rw [quo_len]; exact Nat.le_refl _), List.drop_of_length_le (by rw [quo_len]; exact Nat.le_refl _)]; rfl
end Go.Proofs.YtgknfikdajoiaaaGreatDoor
namespace Go.Proofs.YtgknfikdajoiaaaGreatDoor
open Go
open Go.RowKit
attribute [local irreducible] pathB valueB ruleC invR escB quoB parR ruleW
theorem pc_ReplaceAll (a b c : List UInt8) (ha : a.length ≤ 1000000000) (h1 : 1 ≤ b.length) (hc : c.length ≤ 10) : PureCall Tryz.prog J 91 [.one (.d (.str a)), .one (.d (.str b)), .one (.d (.str c))] (.one (.d (.str (Lib.replaceAll a b c)))) :=
  PureCall.lib Tryz.func91 (by kernel_rfl) (by kernel_rfl) (xs := [.string ⟨a.toArray⟩, .string ⟨b.toArray⟩, .string ⟨c.toArray⟩]) rfl fun w hw =>
    hw.max.elim fun m hm => Calls.mono (Tryz.strings_ReplaceAll ⟨a.toArray⟩ ⟨b.toArray⟩ ⟨c.toArray⟩ m w (by simp [ByteArray.size]; omega) hm (by simpa [ByteArray.size] using h1) (by
      have h2 := Lib.countB_mul_le ⟨b.toArray⟩ (by simpa [ByteArray.size] using h1) _ ⟨a.toArray⟩ (Nat.le_refl _)
      have h3 : Lib.countB ⟨a.toArray⟩ ⟨b.toArray⟩ * 1 ≤ Lib.countB ⟨a.toArray⟩ ⟨b.toArray⟩ * b.length := Nat.mul_le_mul_left _ h1
      have h4 : Lib.countB ⟨a.toArray⟩ ⟨b.toArray⟩ * c.length ≤ Lib.countB ⟨a.toArray⟩ ⟨b.toArray⟩ * 10 := Nat.mul_le_mul_left _ hc
      simp only [ByteArray.size, List.size_toArray] at h2 ⊢
      omega)) fun e w' ⟨he, hw⟩ => ⟨_, he, hw, RV.of_lit (by simp [D.lit])⟩
theorem esc_eq (s : List UInt8) : Lib.replaceAll (Lib.replaceAll s [92] [92, 92]) [34] [92, 34] = escB s := repl_esc s
theorem repl_len (s : List UInt8) : (Lib.replaceAll s [92] [92, 92]).length ≤ 2 * s.length := by
  rw [replAll_one 92 (by decide)]
  induction s with
  | nil => simp
  | cons c s ih =>
    rw [List.flatMap_cons, List.length_append, List.length_cons]
    split <;> simp at * <;> omega
theorem pc_outref2_Quoted (s : List UInt8) (hs : s.length ≤ 4000000) :
  PureCall Tryz.prog J 43 [.one (.d (.str s))] (.one (.d (.str (quoB s)))) := by
 have hle := esc_le s
 have hrl := repl_len s
 refine PureCall.of_body tOk (fn := Tryz.f43) Tryz.func43 (by kernel_rfl) rfl (Nat.le_of_ble_eq_true rfl) (fun E => ?_)
 refine W.seq ?_
 refine W.region ?_
 refine S.pure tOk zOk rfl rfl rfl ?_
 refine thenK_n ?_
 refine W.seq ?_
 refine W.region ?_
 refine S.pure tOk zOk rfl rfl rfl ?_
 refine S.call rfl rfl rfl rfl rfl (pc_ReplaceAll s [92] [92, 92] (by omega) (by decide) (by decide)) ?_
 refine S.call rfl rfl rfl rfl rfl (pc_ReplaceAll _ [34] [92, 34] (by omega) (by decide) (by decide)) ?_
 refine S.pure tOk zOk rfl (cat_ok (by have := congrArg List.length (repl_esc s); simp at this ⊢; omega)) rfl ?_
 refine S.pure tOk zOk rfl (cat_ok (by have := congrArg List.length (repl_esc s); simp at this ⊢; omega)) rfl ?_
 refine S.pure tOk zOk rfl rfl rfl ?_
 refine thenK_n ?_
 refine W.ret ?_
 exact ⟨_, rfl, rfl, LeV.of_force rfl (by rw [esc_eq]; unfold quoB; rfl)⟩
end Go.Proofs.YtgknfikdajoiaaaGreatDoor
namespace Go.Proofs.YtgknfikdajoiaaaGreatDoor
open Go
open Go.RowKit
attribute [local irreducible] pathB valueB ruleC invR escB quoB parR ruleW
def rt1 (r : Rul) : L8 := if usTu r.kd then ruleW r.kd ++ [32] ++ r.k ++ ([32] ++ r.tu) else ruleW r.kd ++ [32] ++ r.k
def rt2 (r : Rul) : L8 := if usOld r.kd then rt1 r ++ ([32] ++ quoB r.old) else rt1 r
def ruleT (r : Rul) : L8 := if usNew r.kd then rt2 r ++ ([32] ++ quoB r.nu) else rt2 r
def printT (r : Rul) : L8 × Int := if ruleC r != 0 then ([], ruleC r) else (ruleT r, 0)
theorem print_1 {r : Rul} (h : (ruleC r != 0) = true) : printT r = ([], ruleC r) := if_pos h
theorem print_2 {r : Rul} (h : (ruleC r != 0) = false) : printT r = (ruleT r, 0) := if_neg (Bool.eq_false_iff.1 h)
theorem ruleW_le (x : Int) : (ruleW x).length ≤ 10 := by
  unfold ruleW
  repeat' split
  all_goals decide
theorem quoB_le {s : L8} {N : Nat} (h : s.length ≤ N) : (quoB s).length ≤ 2 * N + 2 := by
  have := (esc_le s).2
  simp [quoB]; omega
theorem kd_ok {r : Rul} (h : RulOk r) : (decide (0 ≤ r.kd) && decide (r.kd < ((ruleWs.map fun x => ([.str x] : List D)).length : Int))) = true := by
  have h1 := h.lo
  have h2 := h.hi
  rw [List.length_map, show ruleWs.length = 9 from rfl]
  simp; omega
theorem kd_at {r : Rul} (h : RulOk r) : V.one (.eptr ((ruleWs.map fun x => ([.str x] : List D)).getD r.kd.toNat [])) = V.one (.eptr [.str (ruleW r.kd)]) := by
  have h1 := h.lo
  have h2 := h.hi
  have : r.kd = 1 ∨ r.kd = 2 ∨ r.kd = 3 ∨ r.kd = 4 ∨ r.kd = 5 ∨ r.kd = 6 ∨ r.kd = 7 ∨ r.kd = 8 := by omega
  unfold ruleW
  rcases this with h | h | h | h | h | h | h | h <;> rw [h] <;> rfl
theorem pc_PrintRule (r : Rul) (hr : RulB r) :
  PureCall Tryz.prog J 6 [.agg [.d (.int .i64 r.kd), .d (.str r.k), .d (.str r.tu), .d (.str r.old), .d (.str r.nu)]] (.tup [.one (.d (.str (printT r).1)), .one (.d (.int .i64 (printT r).2))]) := by
 obtain ⟨hr1, hr2, hr3, hr4⟩ := hr
 have hqo := quoB_le hr3
 have hqn := quoB_le hr4
 have hwl := ruleW_le r.kd
 refine PureCall.of_body tOk (fn := Tryz.f6) Tryz.func6 (by kernel_rfl) rfl (Nat.le_of_ble_eq_true rfl) (fun E => ?_)
 refine W.seq ?_
 refine W.region ?_
 refine S.box rfl rfl rfl rfl ?_
 refine S.pure tOk zOk rfl rfl rfl ?_
 refine S.pure tOk zOk rfl rfl rfl ?_
 refine thenK_n ?_
 refine W.seq ?_
 refine W.seq ?_
 refine W.region ?_
 refine S.pure tOk zOk rfl rfl rfl ?_
 refine S.call rfl rfl rfl rfl rfl (pc_CheckRule r ⟨hr1, hr2, hr3, hr4⟩) ?_
 refine S.pure tOk zOk rfl rfl rfl ?_
 refine thenK_n ?_
 refine W.seq ?_
 refine W.region ?_
 refine S.pure tOk zOk rfl rfl rfl ?_
 refine S.pure tOk zOk rfl rfl rfl ?_
 refine thenK_n ?_
 refine W.cond rfl (fun c1 => ?_) (fun c1 => ?_)
 ·skip
  refine W.seq ?_
  refine W.region ?_
  refine S.pure tOk zOk rfl rfl rfl ?_
  refine S.pure tOk zOk rfl rfl rfl ?_
  refine S.pure tOk zOk rfl rfl rfl ?_
  refine thenK_n ?_
  refine W.ret ?_
  refine thenK_r ?_
  exact ⟨_, rfl, rfl, LeV.of_force rfl (by rw [print_1 c1]; rfl)⟩
 ·skip
  have ho := rul_ok (show ruleC r = 0 by simpa using c1)
  refine W.skip ?_
  refine thenK_n ?_
  refine W.seq ?_
  refine W.region ?_
  refine S.pure tOk zOk rfl rfl rfl ?_
  refine S.pure tOk zOk rfl rfl rfl ?_
  refine S.call rfl rfl rfl rfl rfl (pc_uses r.kd) ?_
  refine S.pure tOk zOk rfl rfl rfl ?_
  refine S.pure tOk zOk rfl rfl rfl ?_
  refine S.pure tOk zOk rfl rfl rfl ?_
  refine S.pure tOk zOk rfl rfl rfl ?_
  refine S.pure tOk zOk rfl rfl rfl ?_
  refine S.pure tOk zOk rfl rfl rfl ?_
  refine S.pure tOk zOk rfl rfl rfl ?_
  refine thenK_n ?_
  refine W.seq ?_
  refine W.regionD mixed (by kernel_rfl) ?_
  refine D.call rfl rfl rfl rfl rfl (pc_migrate_ruleWords) ?_
  refine D.pure tOk zOk rfl rfl rfl rfl ?_
  refine D.pure tOk zOk rfl rfl rfl rfl ?_
  refine D.pureE tOk zOk rfl rfl (kd_ok ho) (kd_at ho) rfl ?_
  refine D.pure tOk zOk rfl rfl rfl rfl ?_
  refine D.pure tOk zOk rfl rfl (cat_ok (by simp only [List.length_append, List.length_cons, List.length_nil]; omega)) rfl ?_
  refine D.pure tOk zOk rfl rfl rfl rfl ?_
  refine D.pure tOk zOk rfl rfl rfl rfl ?_
  refine D.pure tOk zOk rfl rfl (cat_ok (by simp only [List.length_append, List.length_cons, List.length_nil]; omega)) rfl ?_
  refine D.pure tOk zOk rfl rfl rfl rfl ?_
  refine thenK_n ?_
  refine W.seq ?_
  refine W.seq ?_
  refine W.region ?_
  refine S.pure tOk zOk rfl rfl rfl ?_
  refine thenK_n ?_
  refine W.cond rfl (fun c2 => ?_) (fun c2 => ?_)
  ·skip
   refine W.region ?_
   refine S.pure tOk zOk rfl rfl rfl ?_
   refine S.pure tOk zOk rfl rfl rfl ?_
   refine S.pure tOk zOk rfl rfl rfl ?_
   refine S.pure tOk zOk rfl (cat_ok (by simp only [List.length_append, List.length_cons, List.length_nil]; omega)) rfl ?_
   refine S.pure tOk zOk rfl (cat_ok (by simp only [List.length_append, List.length_cons, List.length_nil]; omega)) rfl ?_
   refine S.pure tOk zOk rfl rfl rfl ?_
   refine thenK_n ?_
   refine W.seq ?_
   refine W.seq ?_
   refine W.region ?_
   refine S.pure tOk zOk rfl rfl rfl ?_
   refine thenK_n ?_
   refine W.cond rfl (fun c3 => ?_) (fun c3 => ?_)
   ·skip
    refine W.region ?_
    refine S.pure tOk zOk rfl rfl rfl ?_
    refine S.pure tOk zOk rfl rfl rfl ?_
    refine S.pure tOk zOk rfl rfl rfl ?_
    refine S.call rfl rfl rfl rfl rfl (pc_ver_Quoted r.old (by omega)) ?_
    refine S.pure tOk zOk rfl (cat_ok (by simp only [List.length_append, List.length_cons, List.length_nil]; omega)) rfl ?_
    refine S.pure tOk zOk rfl (cat_ok (by simp only [List.length_append, List.length_cons, List.length_nil]; omega)) rfl ?_
    refine S.pure tOk zOk rfl rfl rfl ?_
    refine thenK_n ?_
    refine W.seq ?_
    refine W.seq ?_
    refine W.region ?_
    refine S.pure tOk zOk rfl rfl rfl ?_
    refine thenK_n ?_
    refine W.cond rfl (fun c4 => ?_) (fun c4 => ?_)
    ·skip
     refine W.region ?_
     refine S.pure tOk zOk rfl rfl rfl ?_
     refine S.pure tOk zOk rfl rfl rfl ?_
     refine S.pure tOk zOk rfl rfl rfl ?_
     refine S.call rfl rfl rfl rfl rfl (pc_ver_Quoted r.nu (by omega)) ?_
     refine S.pure tOk zOk rfl (cat_ok (by simp only [List.length_append, List.length_cons, List.length_nil]; omega)) rfl ?_
     refine S.pure tOk zOk rfl (cat_ok (by simp only [List.length_append, List.length_cons, List.length_nil]; omega)) rfl ?_
     refine S.pure tOk zOk rfl rfl rfl ?_
     refine thenK_n ?_
     refine W.seq ?_
     refine W.region ?_
     refine S.pure tOk zOk rfl rfl rfl ?_
     refine S.pure tOk zOk rfl rfl rfl ?_
     refine S.pure tOk zOk rfl rfl rfl ?_
     refine thenK_n ?_
     refine W.ret ?_
     exact ⟨_, rfl, rfl, LeV.of_force rfl (by rw [print_2 c1]; unfold ruleT rt2 rt1; simp only [c1, c2, c3, c4, Bool.false_eq_true, if_true, if_false] <;> rfl)⟩
    ·skip
     refine W.skip ?_
     refine thenK_n ?_
     refine W.seq ?_
     refine W.region ?_
     refine S.pure tOk zOk rfl rfl rfl ?_
     refine S.pure tOk zOk rfl rfl rfl ?_
     refine S.pure tOk zOk rfl rfl rfl ?_
     refine thenK_n ?_
     refine W.ret ?_
     exact ⟨_, rfl, rfl, LeV.of_force rfl (by rw [print_2 c1]; unfold ruleT rt2 rt1; simp only [c1, c2, c3, c4, Bool.false_eq_true, if_true, if_false] <;> rfl)⟩
   ·skip
    refine W.skip ?_
    refine thenK_n ?_
    refine W.seq ?_
    refine W.seq ?_
    refine W.region ?_
    refine S.pure tOk zOk rfl rfl rfl ?_
    refine thenK_n ?_
    refine W.cond rfl (fun c5 => ?_) (fun c5 => ?_)
    ·skip
     refine W.region ?_
     refine S.pure tOk zOk rfl rfl rfl ?_
     refine S.pure tOk zOk rfl rfl rfl ?_
     refine S.pure tOk zOk rfl rfl rfl ?_
     refine S.call rfl rfl rfl rfl rfl (pc_ver_Quoted r.nu (by omega)) ?_
     refine S.pure tOk zOk rfl (cat_ok (by simp only [List.length_append, List.length_cons, List.length_nil]; omega)) rfl ?_
     refine S.pure tOk zOk rfl (cat_ok (by simp only [List.length_append, List.length_cons, List.length_nil]; omega)) rfl ?_
     refine S.pure tOk zOk rfl rfl rfl ?_
     refine thenK_n ?_
     refine W.seq ?_
     refine W.region ?_
     refine S.pure tOk zOk rfl rfl rfl ?_
     refine S.pure tOk zOk rfl rfl rfl ?_
     refine S.pure tOk zOk rfl rfl rfl ?_
     refine thenK_n ?_
     refine W.ret ?_
     exact ⟨_, rfl, rfl, LeV.of_force rfl (by rw [print_2 c1]; unfold ruleT rt2 rt1; simp only [c1, c2, c3, c5, Bool.false_eq_true, if_true, if_false] <;> rfl)⟩
    ·skip
     refine W.skip ?_
     refine thenK_n ?_
     refine W.seq ?_
     refine W.region ?_
     refine S.pure tOk zOk rfl rfl rfl ?_
     refine S.pure tOk zOk rfl rfl rfl ?_
     refine S.pure tOk zOk rfl rfl rfl ?_
     refine thenK_n ?_
     refine W.ret ?_
     exact ⟨_, rfl, rfl, LeV.of_force rfl (by rw [print_2 c1]; unfold ruleT rt2 rt1; simp only [c1, c2, c3, c5, Bool.false_eq_true, if_true, if_false] <;> rfl)⟩
  ·skip
   refine W.skip ?_
   refine thenK_n ?_
   refine W.seq ?_
   refine W.seq ?_
   refine W.region ?_
   refine S.pure tOk zOk rfl rfl rfl ?_
   refine thenK_n ?_
   refine W.cond rfl (fun c6 => ?_) (fun c6 => ?_)
   ·skip
    refine W.region ?_
    refine S.pure tOk zOk rfl rfl rfl ?_
    refine S.pure tOk zOk rfl rfl rfl ?_
    refine S.pure tOk zOk rfl rfl rfl ?_
    refine S.call rfl rfl rfl rfl rfl (pc_ver_Quoted r.old (by omega)) ?_
    refine S.pure tOk zOk rfl (cat_ok (by simp only [List.length_append, List.length_cons, List.length_nil]; omega)) rfl ?_
    refine S.pure tOk zOk rfl (cat_ok (by simp only [List.length_append, List.length_cons, List.length_nil]; omega)) rfl ?_
    refine S.pure tOk zOk rfl rfl rfl ?_
    refine thenK_n ?_
    refine W.seq ?_
    refine W.seq ?_
    refine W.region ?_
    refine S.pure tOk zOk rfl rfl rfl ?_
    refine thenK_n ?_
    refine W.cond rfl (fun c7 => ?_) (fun c7 => ?_)
    ·skip
     refine W.region ?_
     refine S.pure tOk zOk rfl rfl rfl ?_
     refine S.pure tOk zOk rfl rfl rfl ?_
     refine S.pure tOk zOk rfl rfl rfl ?_
     refine S.call rfl rfl rfl rfl rfl (pc_ver_Quoted r.nu (by omega)) ?_
     refine S.pure tOk zOk rfl (cat_ok (by simp only [List.length_append, List.length_cons, List.length_nil]; omega)) rfl ?_
     refine S.pure tOk zOk rfl (cat_ok (by simp only [List.length_append, List.length_cons, List.length_nil]; omega)) rfl ?_
     refine S.pure tOk zOk rfl rfl rfl ?_
     refine thenK_n ?_
     refine W.seq ?_
     refine W.region ?_
     refine S.pure tOk zOk rfl rfl rfl ?_
     refine S.pure tOk zOk rfl rfl rfl ?_
     refine S.pure tOk zOk rfl rfl rfl ?_
     refine thenK_n ?_
     refine W.ret ?_
     exact ⟨_, rfl, rfl, LeV.of_force rfl (by rw [print_2 c1]; unfold ruleT rt2 rt1; simp only [c1, c2, c6, c7, Bool.false_eq_true, if_true, if_false] <;> rfl)⟩
    ·skip
     refine W.skip ?_
     refine thenK_n ?_
     refine W.seq ?_
     refine W.region ?_
     refine S.pure tOk zOk rfl rfl rfl ?_
     refine S.pure tOk zOk rfl rfl rfl ?_
     refine S.pure tOk zOk rfl rfl rfl ?_
     refine thenK_n ?_
     refine W.ret ?_
     exact ⟨_, rfl, rfl, LeV.of_force rfl (by rw [print_2 c1]; unfold ruleT rt2 rt1; simp only [c1, c2, c6, c7, Bool.false_eq_true, if_true, if_false] <;> rfl)⟩
   ·skip
    refine W.skip ?_
    refine thenK_n ?_
    refine W.seq ?_
    refine W.seq ?_
    refine W.region ?_
    refine S.pure tOk zOk rfl rfl rfl ?_
    refine thenK_n ?_
    refine W.cond rfl (fun c8 => ?_) (fun c8 => ?_)
    ·skip
     refine W.region ?_
     refine S.pure tOk zOk rfl rfl rfl ?_
     refine S.pure tOk zOk rfl rfl rfl ?_
     refine S.pure tOk zOk rfl rfl rfl ?_
     refine S.call rfl rfl rfl rfl rfl (pc_ver_Quoted r.nu (by omega)) ?_
     refine S.pure tOk zOk rfl (cat_ok (by simp only [List.length_append, List.length_cons, List.length_nil]; omega)) rfl ?_
     refine S.pure tOk zOk rfl (cat_ok (by simp only [List.length_append, List.length_cons, List.length_nil]; omega)) rfl ?_
     refine S.pure tOk zOk rfl rfl rfl ?_
     refine thenK_n ?_
     refine W.seq ?_
     refine W.region ?_
     refine S.pure tOk zOk rfl rfl rfl ?_
     refine S.pure tOk zOk rfl rfl rfl ?_
     refine S.pure tOk zOk rfl rfl rfl ?_
     refine thenK_n ?_
     refine W.ret ?_
     exact ⟨_, rfl, rfl, LeV.of_force rfl (by rw [print_2 c1]; unfold ruleT rt2 rt1; simp only [c1, c2, c6, c8, Bool.false_eq_true, if_true, if_false] <;> rfl)⟩
    ·skip
     refine W.skip ?_
     refine thenK_n ?_
     refine W.seq ?_
     refine W.region ?_
     refine S.pure tOk zOk rfl rfl rfl ?_
     refine S.pure tOk zOk rfl rfl rfl ?_
     refine S.pure tOk zOk rfl rfl rfl ?_
     refine thenK_n ?_
     refine W.ret ?_
     exact ⟨_, rfl, rfl, LeV.of_force rfl (by rw [print_2 c1]; unfold ruleT rt2 rt1; simp only [c1, c2, c6, c8, Bool.false_eq_true, if_true, if_false] <;> rfl)⟩
theorem pc_RuleText (r : Rul) (hr : RulB r) :
  PureCall Tryz.prog J 12 [.agg [.d (.int .i64 r.kd), .d (.str r.k), .d (.str r.tu), .d (.str r.old), .d (.str r.nu)]] (.one (.d (.str (ruleT r)))) := by
 obtain ⟨hr1, hr2, hr3, hr4⟩ := hr
 have hqo := quoB_le hr3
 have hqn := quoB_le hr4
 have hwl := ruleW_le r.kd
 refine PureCall.of_body tOk (fn := Tryz.f12) Tryz.func12 (by kernel_rfl) rfl (Nat.le_of_ble_eq_true rfl) (fun E => ?_)
 refine W.seq ?_
 refine W.region ?_
 refine S.box rfl rfl rfl rfl ?_
 refine S.pure tOk zOk rfl rfl rfl ?_
 refine thenK_n ?_
 refine W.seq ?_
 refine W.region ?_
 refine S.pure tOk zOk rfl rfl rfl ?_
 refine S.pure tOk zOk rfl rfl rfl ?_
 refine S.call rfl rfl rfl rfl rfl (pc_ruleWord r.kd) ?_
 refine S.pure tOk zOk rfl rfl rfl ?_
 refine S.pure tOk zOk rfl rfl rfl ?_
 refine S.pure tOk zOk rfl rfl rfl ?_
 refine S.pure tOk zOk rfl rfl rfl ?_
 refine S.pure tOk zOk rfl rfl rfl ?_
 refine S.pure tOk zOk rfl rfl rfl ?_
 refine S.pure tOk zOk rfl rfl rfl ?_
 refine S.pure tOk zOk rfl rfl rfl ?_
 refine S.pure tOk zOk rfl rfl rfl ?_
 refine thenK_n ?_
 refine W.seq ?_
 refine W.region ?_
 refine S.pure tOk zOk rfl rfl rfl ?_
 refine S.pure tOk zOk rfl (cat_ok (by simp only [List.length_append, List.length_cons, List.length_nil]; omega)) rfl ?_
 refine S.pure tOk zOk rfl rfl rfl ?_
 refine S.pure tOk zOk rfl rfl rfl ?_
 refine S.pure tOk zOk rfl (cat_ok (by simp only [List.length_append, List.length_cons, List.length_nil]; omega)) rfl ?_
 refine S.pure tOk zOk rfl rfl rfl ?_
 refine thenK_n ?_
 refine W.seq ?_
 refine W.seq ?_
 refine W.region ?_
 refine S.pure tOk zOk rfl rfl rfl ?_
 refine thenK_n ?_
 refine W.cond rfl (fun c1 => ?_) (fun c1 => ?_)
 ·skip
  refine W.region ?_
  refine S.pure tOk zOk rfl rfl rfl ?_
  refine S.pure tOk zOk rfl rfl rfl ?_
  refine S.pure tOk zOk rfl rfl rfl ?_
  refine S.pure tOk zOk rfl (cat_ok (by simp only [List.length_append, List.length_cons, List.length_nil]; omega)) rfl ?_
  refine S.pure tOk zOk rfl (cat_ok (by simp only [List.length_append, List.length_cons, List.length_nil]; omega)) rfl ?_
  refine S.pure tOk zOk rfl rfl rfl ?_
  refine thenK_n ?_
  refine W.seq ?_
  refine W.seq ?_
  refine W.region ?_
  refine S.pure tOk zOk rfl rfl rfl ?_
  refine thenK_n ?_
  refine W.cond rfl (fun c2 => ?_) (fun c2 => ?_)
  ·skip
   refine W.region ?_
   refine S.pure tOk zOk rfl rfl rfl ?_
   refine S.pure tOk zOk rfl rfl rfl ?_
   refine S.pure tOk zOk rfl rfl rfl ?_
   refine S.call rfl rfl rfl rfl rfl (pc_outref2_Quoted r.old (by omega)) ?_
   refine S.pure tOk zOk rfl (cat_ok (by simp only [List.length_append, List.length_cons, List.length_nil]; omega)) rfl ?_
   refine S.pure tOk zOk rfl (cat_ok (by simp only [List.length_append, List.length_cons, List.length_nil]; omega)) rfl ?_
   refine S.pure tOk zOk rfl rfl rfl ?_
   refine thenK_n ?_
   refine W.seq ?_
   refine W.seq ?_
   refine W.region ?_
   refine S.pure tOk zOk rfl rfl rfl ?_
   refine thenK_n ?_
   refine W.cond rfl (fun c3 => ?_) (fun c3 => ?_)
   ·skip
    refine W.region ?_
    refine S.pure tOk zOk rfl rfl rfl ?_
    refine S.pure tOk zOk rfl rfl rfl ?_
    refine S.pure tOk zOk rfl rfl rfl ?_
    refine S.call rfl rfl rfl rfl rfl (pc_outref2_Quoted r.nu (by omega)) ?_
    refine S.pure tOk zOk rfl (cat_ok (by simp only [List.length_append, List.length_cons, List.length_nil]; omega)) rfl ?_
    refine S.pure tOk zOk rfl (cat_ok (by simp only [List.length_append, List.length_cons, List.length_nil]; omega)) rfl ?_
    refine S.pure tOk zOk rfl rfl rfl ?_
    refine thenK_n ?_
    refine W.seq ?_
    refine W.region ?_
    refine S.pure tOk zOk rfl rfl rfl ?_
    refine S.pure tOk zOk rfl rfl rfl ?_
    refine thenK_n ?_
    refine W.ret ?_
    exact ⟨_, rfl, rfl, LeV.of_force rfl (by unfold ruleT rt2 rt1; simp only [c1, c2, c3, Bool.false_eq_true, if_true, if_false])⟩
   ·skip
    refine W.skip ?_
    refine thenK_n ?_
    refine W.seq ?_
    refine W.region ?_
    refine S.pure tOk zOk rfl rfl rfl ?_
    refine S.pure tOk zOk rfl rfl rfl ?_
    refine thenK_n ?_
    refine W.ret ?_
    exact ⟨_, rfl, rfl, LeV.of_force rfl (by unfold ruleT rt2 rt1; simp only [c1, c2, c3, Bool.false_eq_true, if_true, if_false])⟩
  ·skip
   refine W.skip ?_
   refine thenK_n ?_
   refine W.seq ?_
   refine W.seq ?_
   refine W.region ?_
   refine S.pure tOk zOk rfl rfl rfl ?_
   refine thenK_n ?_
   refine W.cond rfl (fun c4 => ?_) (fun c4 => ?_)
   ·skip
    refine W.region ?_
    refine S.pure tOk zOk rfl rfl rfl ?_
    refine S.pure tOk zOk rfl rfl rfl ?_
    refine S.pure tOk zOk rfl rfl rfl ?_
    refine S.call rfl rfl rfl rfl rfl (pc_outref2_Quoted r.nu (by omega)) ?_
    refine S.pure tOk zOk rfl (cat_ok (by simp only [List.length_append, List.length_cons, List.length_nil]; omega)) rfl ?_
    refine S.pure tOk zOk rfl (cat_ok (by simp only [List.length_append, List.length_cons, List.length_nil]; omega)) rfl ?_
    refine S.pure tOk zOk rfl rfl rfl ?_
    refine thenK_n ?_
    refine W.seq ?_
    refine W.region ?_
    refine S.pure tOk zOk rfl rfl rfl ?_
    refine S.pure tOk zOk rfl rfl rfl ?_
    refine thenK_n ?_
    refine W.ret ?_
    exact ⟨_, rfl, rfl, LeV.of_force rfl (by unfold ruleT rt2 rt1; simp only [c1, c2, c4, Bool.false_eq_true, if_true, if_false])⟩
   ·skip
    refine W.skip ?_
    refine thenK_n ?_
    refine W.seq ?_
    refine W.region ?_
    refine S.pure tOk zOk rfl rfl rfl ?_
    refine S.pure tOk zOk rfl rfl rfl ?_
    refine thenK_n ?_
    refine W.ret ?_
    exact ⟨_, rfl, rfl, LeV.of_force rfl (by unfold ruleT rt2 rt1; simp only [c1, c2, c4, Bool.false_eq_true, if_true, if_false])⟩
 ·skip
  refine W.skip ?_
  refine thenK_n ?_
  refine W.seq ?_
  refine W.seq ?_
  refine W.region ?_
  refine S.pure tOk zOk rfl rfl rfl ?_
  refine thenK_n ?_
  refine W.cond rfl (fun c5 => ?_) (fun c5 => ?_)
  ·skip
   refine W.region ?_
   refine S.pure tOk zOk rfl rfl rfl ?_
   refine S.pure tOk zOk rfl rfl rfl ?_
   refine S.pure tOk zOk rfl rfl rfl ?_
   refine S.call rfl rfl rfl rfl rfl (pc_outref2_Quoted r.old (by omega)) ?_
   refine S.pure tOk zOk rfl (cat_ok (by simp only [List.length_append, List.length_cons, List.length_nil]; omega)) rfl ?_
   refine S.pure tOk zOk rfl (cat_ok (by simp only [List.length_append, List.length_cons, List.length_nil]; omega)) rfl ?_
   refine S.pure tOk zOk rfl rfl rfl ?_
   refine thenK_n ?_
   refine W.seq ?_
   refine W.seq ?_
   refine W.region ?_
   refine S.pure tOk zOk rfl rfl rfl ?_
   refine thenK_n ?_
   refine W.cond rfl (fun c6 => ?_) (fun c6 => ?_)
   ·skip
    refine W.region ?_
    refine S.pure tOk zOk rfl rfl rfl ?_
    refine S.pure tOk zOk rfl rfl rfl ?_
    refine S.pure tOk zOk rfl rfl rfl ?_
    refine S.call rfl rfl rfl rfl rfl (pc_outref2_Quoted r.nu (by omega)) ?_
    refine S.pure tOk zOk rfl (cat_ok (by simp only [List.length_append, List.length_cons, List.length_nil]; omega)) rfl ?_
    refine S.pure tOk zOk rfl (cat_ok (by simp only [List.length_append, List.length_cons, List.length_nil]; omega)) rfl ?_
    refine S.pure tOk zOk rfl rfl rfl ?_
    refine thenK_n ?_
    refine W.seq ?_
    refine W.region ?_
    refine S.pure tOk zOk rfl rfl rfl ?_
    refine S.pure tOk zOk rfl rfl rfl ?_
    refine thenK_n ?_
    refine W.ret ?_
    exact ⟨_, rfl, rfl, LeV.of_force rfl (by unfold ruleT rt2 rt1; simp only [c1, c5, c6, Bool.false_eq_true, if_true, if_false])⟩
   ·skip
    refine W.skip ?_
    refine thenK_n ?_
    refine W.seq ?_
    refine W.region ?_
    refine S.pure tOk zOk rfl rfl rfl ?_
    refine S.pure tOk zOk rfl rfl rfl ?_
    refine thenK_n ?_
    refine W.ret ?_
    exact ⟨_, rfl, rfl, LeV.of_force rfl (by unfold ruleT rt2 rt1; simp only [c1, c5, c6, Bool.false_eq_true, if_true, if_false])⟩
  ·skip
   refine W.skip ?_
   refine thenK_n ?_
   refine W.seq ?_
   refine W.seq ?_
   refine W.region ?_
   refine S.pure tOk zOk rfl rfl rfl ?_
   refine thenK_n ?_
   refine W.cond rfl (fun c7 => ?_) (fun c7 => ?_)
   ·skip
    refine W.region ?_
    refine S.pure tOk zOk rfl rfl rfl ?_
    refine S.pure tOk zOk rfl rfl rfl ?_
    refine S.pure tOk zOk rfl rfl rfl ?_
    refine S.call rfl rfl rfl rfl rfl (pc_outref2_Quoted r.nu (by omega)) ?_
    refine S.pure tOk zOk rfl (cat_ok (by simp only [List.length_append, List.length_cons, List.length_nil]; omega)) rfl ?_
    refine S.pure tOk zOk rfl (cat_ok (by simp only [List.length_append, List.length_cons, List.length_nil]; omega)) rfl ?_
    refine S.pure tOk zOk rfl rfl rfl ?_
    refine thenK_n ?_
    refine W.seq ?_
    refine W.region ?_
    refine S.pure tOk zOk rfl rfl rfl ?_
    refine S.pure tOk zOk rfl rfl rfl ?_
    refine thenK_n ?_
    refine W.ret ?_
    exact ⟨_, rfl, rfl, LeV.of_force rfl (by unfold ruleT rt2 rt1; simp only [c1, c5, c7, Bool.false_eq_true, if_true, if_false])⟩
   ·skip
    refine W.skip ?_
    refine thenK_n ?_
    refine W.seq ?_
    refine W.region ?_
    refine S.pure tOk zOk rfl rfl rfl ?_
    refine S.pure tOk zOk rfl rfl rfl ?_
    refine thenK_n ?_
    refine W.ret ?_
    exact ⟨_, rfl, rfl, LeV.of_force rfl (by unfold ruleT rt2 rt1; simp only [c1, c5, c7, Bool.false_eq_true, if_true, if_false])⟩
theorem pc_Inverse (r : Rul) (hr : RulB r) :
  PureCall Tryz.prog J 7 [.agg [.d (.int .i64 r.kd), .d (.str r.k), .d (.str r.tu), .d (.str r.old), .d (.str r.nu)]] (.tup [.agg [.d (.int .i64 (invR r).1.kd), .d (.str (invR r).1.k), .d (.str (invR r).1.tu), .d (.str (invR r).1.old), .d (.str (invR r).1.nu)], .one (.d (.int .i64 (invR r).2))]) := by
 refine PureCall.of_body tOk (fn := Tryz.f7) Tryz.func7 (by kernel_rfl) rfl (Nat.le_of_ble_eq_true rfl) (fun E => ?_)
 refine W.seq ?_
 refine W.region ?_
 refine S.box rfl rfl rfl rfl ?_
 refine S.alloc tOk rfl rfl rfl rfl ?_
 refine S.pure tOk zOk rfl rfl rfl ?_
 refine thenK_n ?_
 refine W.seq ?_
 refine W.seq ?_
 refine W.region ?_
 refine S.pure tOk zOk rfl rfl rfl ?_
 refine S.call rfl rfl rfl rfl rfl (pc_CheckRule r hr) ?_
 refine S.pure tOk zOk rfl rfl rfl ?_
 refine thenK_n ?_
 refine W.seq ?_
 refine W.region ?_
 refine S.pure tOk zOk rfl rfl rfl ?_
 refine S.pure tOk zOk rfl rfl rfl ?_
 refine thenK_n ?_
 refine W.cond rfl (fun c1 => ?_) (fun c1 => ?_)
 ·skip
  refine W.seq ?_
  refine W.region ?_
  refine S.pure tOk zOk rfl rfl rfl ?_
  refine S.pure tOk zOk rfl rfl rfl ?_
  refine S.store tOk rfl rfl rfl rfl rfl rfl rfl rfl ?_
  refine S.pure tOk zOk rfl rfl rfl ?_
  refine thenK_n ?_
  refine W.ret ?_
  refine thenK_r ?_
  exact ⟨_, rfl, rfl, LeV.of_force rfl (by rw [inv_1 c1]; rfl)⟩
 ·skip
  refine W.skip ?_
  refine thenK_n ?_
  refine W.seq ?_
  refine W.seq ?_
  refine W.region ?_
  refine S.pure tOk zOk rfl rfl rfl ?_
  refine S.pure tOk zOk rfl rfl rfl ?_
  refine thenK_n ?_
  refine W.block ?_
  refine W.seq ?_
  refine W.seq ?_
  refine W.region ?_
  refine S.pure tOk zOk rfl rfl rfl ?_
  refine S.pure tOk zOk rfl rfl rfl ?_
  refine thenK_n ?_
  refine W.cond rfl (fun c2 => ?_) (fun c2 => ?_)
  ·skip
   refine W.skip ?_
   refine thenK_n ?_
   refine W.cond rfl (fun c3 => ?_) (fun c3 => ?_)
   ·skip
    refine W.region ?_
    refine S.pure tOk zOk rfl rfl rfl ?_
    refine S.pure tOk zOk rfl rfl rfl ?_
    refine S.pure tOk zOk rfl rfl rfl ?_
    refine S.pure tOk zOk rfl rfl rfl ?_
    refine S.pure tOk zOk rfl rfl rfl ?_
    refine S.store tOk rfl rfl rfl rfl rfl rfl rfl rfl ?_
    refine S.pure tOk zOk rfl rfl rfl ?_
    refine S.store tOk rfl rfl rfl rfl rfl rfl rfl rfl ?_
    refine blockK_n ?_
    refine thenK_n ?_
    refine W.seq ?_
    refine W.region ?_
    refine S.pure tOk zOk rfl rfl rfl ?_
    refine S.store tOk rfl rfl rfl rfl rfl rfl rfl rfl ?_
    refine S.pure tOk zOk rfl rfl rfl ?_
    refine thenK_n ?_
    refine W.ret ?_
    exact ⟨_, rfl, rfl, LeV.of_force rfl (by rw [inv_2 c1 (two_1 c2)]; rfl)⟩
   ·skip
    exact absurd (c2.symm.trans c3) (by decide)
  ·skip
   refine W.region ?_
   refine S.pure tOk zOk rfl rfl rfl ?_
   refine S.pure tOk zOk rfl rfl rfl ?_
   refine thenK_n ?_
   refine W.cond rfl (fun c4 => ?_) (fun c4 => ?_)
   ·skip
    refine W.region ?_
    refine S.pure tOk zOk rfl rfl rfl ?_
    refine S.pure tOk zOk rfl rfl rfl ?_
    refine S.pure tOk zOk rfl rfl rfl ?_
    refine S.pure tOk zOk rfl rfl rfl ?_
    refine S.pure tOk zOk rfl rfl rfl ?_
    refine S.store tOk rfl rfl rfl rfl rfl rfl rfl rfl ?_
    refine S.pure tOk zOk rfl rfl rfl ?_
    refine S.store tOk rfl rfl rfl rfl rfl rfl rfl rfl ?_
    refine blockK_n ?_
    refine thenK_n ?_
    refine W.seq ?_
    refine W.region ?_
    refine S.pure tOk zOk rfl rfl rfl ?_
    refine S.store tOk rfl rfl rfl rfl rfl rfl rfl rfl ?_
    refine S.pure tOk zOk rfl rfl rfl ?_
    refine thenK_n ?_
    refine W.ret ?_
    exact ⟨_, rfl, rfl, LeV.of_force rfl (by rw [inv_2 c1 (two_2 c4)]; rfl)⟩
   ·skip
    refine W.seq ?_
    refine W.region ?_
    refine S.pure tOk zOk rfl rfl rfl ?_
    refine S.pure tOk zOk rfl rfl rfl ?_
    refine thenK_n ?_
    refine W.cond rfl (fun c5 => ?_) (fun c5 => ?_)
    ·skip
     refine W.region ?_
     refine S.pure tOk zOk rfl rfl rfl ?_
     refine S.pure tOk zOk rfl rfl rfl ?_
     refine S.pure tOk zOk rfl rfl rfl ?_
     refine S.pure tOk zOk rfl rfl rfl ?_
     refine S.pure tOk zOk rfl rfl rfl ?_
     refine S.store tOk rfl rfl rfl rfl rfl rfl rfl rfl ?_
     refine S.pure tOk zOk rfl rfl rfl ?_
     refine S.store tOk rfl rfl rfl rfl rfl rfl rfl rfl ?_
     refine blockK_n ?_
     refine thenK_n ?_
     refine W.seq ?_
     refine W.region ?_
     refine S.pure tOk zOk rfl rfl rfl ?_
     refine S.store tOk rfl rfl rfl rfl rfl rfl rfl rfl ?_
     refine S.pure tOk zOk rfl rfl rfl ?_
     refine thenK_n ?_
     refine W.ret ?_
     exact ⟨_, rfl, rfl, LeV.of_force rfl (by rw [inv_7 c1 (two_or c2 c4) c5]; rfl)⟩
    ·skip
     refine W.seq ?_
     refine W.region ?_
     refine S.pure tOk zOk rfl rfl rfl ?_
     refine S.pure tOk zOk rfl rfl rfl ?_
     refine thenK_n ?_
     refine W.cond rfl (fun c6 => ?_) (fun c6 => ?_)
     ·skip
      refine W.skip ?_
      refine blockK_n ?_
      refine thenK_n ?_
      refine W.seq ?_
      refine W.region ?_
      refine S.pure tOk zOk rfl rfl rfl ?_
      refine S.store tOk rfl rfl rfl rfl rfl rfl rfl rfl ?_
      refine S.pure tOk zOk rfl rfl rfl ?_
      refine thenK_n ?_
      refine W.ret ?_
      exact ⟨_, rfl, rfl, LeV.of_force rfl (by rw [inv_8 c1 (two_or c2 c4) c5 c6]; rfl)⟩
     ·skip
      refine W.seq ?_
      refine W.region ?_
      refine S.pure tOk zOk rfl rfl rfl ?_
      refine S.store tOk rfl rfl rfl rfl rfl rfl rfl rfl ?_
      refine S.pure tOk zOk rfl rfl rfl ?_
      refine thenK_n ?_
      refine W.ret ?_
      refine blockK_r ?_
      refine thenK_r ?_
      exact ⟨_, rfl, rfl, LeV.of_force rfl (by rw [inv_0 c1 (two_or c2 c4) c5 c6]; rfl)⟩
theorem pc_InverseOf (r : Rul) (hr : RulB r) :
  PureCall Tryz.prog J 8 [.agg [.d (.int .i64 r.kd), .d (.str r.k), .d (.str r.tu), .d (.str r.old), .d (.str r.nu)]] (.tup [.agg [.d (.int .i64 (invR r).1.kd), .d (.str (invR r).1.k), .d (.str (invR r).1.tu), .d (.str (invR r).1.old), .d (.str (invR r).1.nu)], .one (.d (.int .i64 (invR r).2))]) := by
 refine PureCall.of_body tOk (fn := Tryz.f8) Tryz.func8 (by kernel_rfl) rfl (Nat.le_of_ble_eq_true rfl) (fun E => ?_)
 refine W.seq ?_
 refine W.region ?_
 refine S.box rfl rfl rfl rfl ?_
 refine S.alloc tOk rfl rfl rfl rfl ?_
 refine S.pure tOk zOk rfl rfl rfl ?_
 refine thenK_n ?_
 refine W.seq ?_
 refine W.seq ?_
 refine W.region ?_
 refine S.pure tOk zOk rfl rfl rfl ?_
 refine S.call rfl rfl rfl rfl rfl (pc_RuleError r hr) ?_
 refine S.pure tOk zOk rfl rfl rfl ?_
 refine thenK_n ?_
 refine W.seq ?_
 refine W.region ?_
 refine S.pure tOk zOk rfl rfl rfl ?_
 refine S.pure tOk zOk rfl rfl rfl ?_
 refine thenK_n ?_
 refine W.cond rfl (fun c1 => ?_) (fun c1 => ?_)
 ·skip
  refine W.seq ?_
  refine W.region ?_
  refine S.pure tOk zOk rfl rfl rfl ?_
  refine S.pure tOk zOk rfl rfl rfl ?_
  refine S.store tOk rfl rfl rfl rfl rfl rfl rfl rfl ?_
  refine S.pure tOk zOk rfl rfl rfl ?_
  refine thenK_n ?_
  refine W.ret ?_
  refine thenK_r ?_
  exact ⟨_, rfl, rfl, LeV.of_force rfl (by rw [inv_1 c1]; rfl)⟩
 ·skip
  refine W.skip ?_
  refine thenK_n ?_
  refine W.seq ?_
  refine W.seq ?_
  refine W.region ?_
  refine S.pure tOk zOk rfl rfl rfl ?_
  refine S.pure tOk zOk rfl rfl rfl ?_
  refine thenK_n ?_
  refine W.block ?_
  refine W.seq ?_
  refine W.seq ?_
  refine W.region ?_
  refine S.pure tOk zOk rfl rfl rfl ?_
  refine S.pure tOk zOk rfl rfl rfl ?_
  refine thenK_n ?_
  refine W.cond rfl (fun c2 => ?_) (fun c2 => ?_)
  ·skip
   refine W.skip ?_
   refine thenK_n ?_
   refine W.cond rfl (fun c3 => ?_) (fun c3 => ?_)
   ·skip
    refine W.seq ?_
    refine W.region ?_
    refine S.pure tOk zOk rfl rfl rfl ?_
    refine S.pure tOk zOk rfl rfl rfl ?_
    refine S.pure tOk zOk rfl rfl rfl ?_
    refine S.pure tOk zOk rfl rfl rfl ?_
    refine S.pure tOk zOk rfl rfl rfl ?_
    refine S.pure tOk zOk rfl rfl rfl ?_
    refine S.pure tOk zOk rfl rfl rfl ?_
    refine S.store tOk rfl rfl rfl rfl rfl rfl rfl rfl ?_
    refine S.pure tOk zOk rfl rfl rfl ?_
    refine thenK_n ?_
    refine W.ret ?_
    refine blockK_r ?_
    refine thenK_r ?_
    exact ⟨_, rfl, rfl, LeV.of_force rfl (by rw [inv_12 c1 (two_1 c2)]; rfl)⟩
   ·skip
    exact absurd (c2.symm.trans c3) (by decide)
  ·skip
   refine W.region ?_
   refine S.pure tOk zOk rfl rfl rfl ?_
   refine S.pure tOk zOk rfl rfl rfl ?_
   refine thenK_n ?_
   refine W.cond rfl (fun c4 => ?_) (fun c4 => ?_)
   ·skip
    refine W.seq ?_
    refine W.region ?_
    refine S.pure tOk zOk rfl rfl rfl ?_
    refine S.pure tOk zOk rfl rfl rfl ?_
    refine S.pure tOk zOk rfl rfl rfl ?_
    refine S.pure tOk zOk rfl rfl rfl ?_
    refine S.pure tOk zOk rfl rfl rfl ?_
    refine S.pure tOk zOk rfl rfl rfl ?_
    refine S.pure tOk zOk rfl rfl rfl ?_
    refine S.store tOk rfl rfl rfl rfl rfl rfl rfl rfl ?_
    refine S.pure tOk zOk rfl rfl rfl ?_
    refine thenK_n ?_
    refine W.ret ?_
    refine blockK_r ?_
    refine thenK_r ?_
    exact ⟨_, rfl, rfl, LeV.of_force rfl (by rw [inv_12 c1 (two_2 c4)]; rfl)⟩
   ·skip
    refine W.seq ?_
    refine W.region ?_
    refine S.pure tOk zOk rfl rfl rfl ?_
    refine S.pure tOk zOk rfl rfl rfl ?_
    refine thenK_n ?_
    refine W.cond rfl (fun c5 => ?_) (fun c5 => ?_)
    ·skip
     refine W.seq ?_
     refine W.region ?_
     refine S.pure tOk zOk rfl rfl rfl ?_
     refine S.pure tOk zOk rfl rfl rfl ?_
     refine S.pure tOk zOk rfl rfl rfl ?_
     refine S.pure tOk zOk rfl rfl rfl ?_
     refine S.pure tOk zOk rfl rfl rfl ?_
     refine S.pure tOk zOk rfl rfl rfl ?_
     refine S.pure tOk zOk rfl rfl rfl ?_
     refine S.pure tOk zOk rfl rfl rfl ?_
     refine S.pure tOk zOk rfl rfl rfl ?_
     refine S.store tOk rfl rfl rfl rfl rfl rfl rfl rfl ?_
     refine S.pure tOk zOk rfl rfl rfl ?_
     refine thenK_n ?_
     refine W.ret ?_
     refine blockK_r ?_
     refine thenK_r ?_
     exact ⟨_, rfl, rfl, LeV.of_force rfl (by rw [inv_70 c1 (two_or c2 c4) c5]; rfl)⟩
    ·skip
     refine W.seq ?_
     refine W.region ?_
     refine S.pure tOk zOk rfl rfl rfl ?_
     refine S.pure tOk zOk rfl rfl rfl ?_
     refine thenK_n ?_
     refine W.cond rfl (fun c6 => ?_) (fun c6 => ?_)
     ·skip
      refine W.seq ?_
      refine W.region ?_
      refine S.pure tOk zOk rfl rfl rfl ?_
      refine S.store tOk rfl rfl rfl rfl rfl rfl rfl rfl ?_
      refine S.pure tOk zOk rfl rfl rfl ?_
      refine thenK_n ?_
      refine W.ret ?_
      refine blockK_r ?_
      refine thenK_r ?_
      exact ⟨_, rfl, rfl, LeV.of_force rfl (by rw [inv_8 c1 (two_or c2 c4) c5 c6]; rfl)⟩
     ·skip
      refine W.skip ?_
      refine blockK_n ?_
      refine thenK_n ?_
      refine W.seq ?_
      refine W.region ?_
      refine S.pure tOk zOk rfl rfl rfl ?_
      refine S.store tOk rfl rfl rfl rfl rfl rfl rfl rfl ?_
      refine S.pure tOk zOk rfl rfl rfl ?_
      refine thenK_n ?_
      refine W.ret ?_
      exact ⟨_, rfl, rfl, LeV.of_force rfl (by rw [inv_0 c1 (two_or c2 c4) c5 c6]; rfl)⟩
end Go.Proofs.YtgknfikdajoiaaaGreatDoor
namespace Go.Proofs.YtgknfikdajoiaaaGreatDoor
open Go
theorem qAt_nil : qT (qAt [] 0) = [] ∧ qE (qAt [] 0) = 0 ∧ (qAt [] 0).isSome = false := by
  have : qAt [] 0 = none := by unfold qAt quoteL; rfl
  rw [this]; exact ⟨rfl, rfl, rfl⟩
def takeP (isu right last : Bool) (cur rest : L8) : L8 × L8 × Bool :=
  if !isu || !right then (cur, rest, right)
  else if (!Lib.hasPrefix rest [34] || !(qAt rest 0).isSome) || (!last && !Lib.hasPrefix (rest.drop (qE (qAt rest 0))) [32]) then (cur, rest, false)
  else (qT (qAt rest 0), if last then rest.drop (qE (qAt rest 0)) else (rest.drop (qE (qAt rest 0))).drop 1, right)
theorem tk_a {isu right last : Bool} {cur rest : L8} (h : (!isu || !right) = true) : takeP isu right last cur rest = (cur, rest, right) := if_pos h
theorem tk_b {isu right last : Bool} {cur rest : L8} (h : (!isu || !right) = false) (c : ((!Lib.hasPrefix rest [34] || !(qAt rest 0).isSome) || (!last && !Lib.hasPrefix (rest.drop (qE (qAt rest 0))) [32])) = true) : takeP isu right last cur rest = (cur, rest, false) := by
  unfold takeP; rw [if_neg (Bool.eq_false_iff.1 h), if_pos c]
theorem tk_c {isu right last : Bool} {cur rest : L8} (h : (!isu || !right) = false) (c : ((!Lib.hasPrefix rest [34] || !(qAt rest 0).isSome) || (!last && !Lib.hasPrefix (rest.drop (qE (qAt rest 0))) [32])) = false) :
    takeP isu right last cur rest = (qT (qAt rest 0), if last then rest.drop (qE (qAt rest 0)) else (rest.drop (qE (qAt rest 0))).drop 1, right) := by
  unfold takeP; rw [if_neg (Bool.eq_false_iff.1 h), if_neg (Bool.eq_false_iff.1 c)]
theorem qE_le (s : L8) : qE (qAt s 0) ≤ s.length ∧ (qT (qAt s 0)).length ≤ s.length := by
  cases h : (qAt s 0).isSome with
  | false =>
    have : qAt s 0 = none := by simpa using h
    rw [this]; exact ⟨Nat.zero_le _, Nat.zero_le _⟩
  | true =>
    cases s with
    | nil => rw [qAt_nil.2.2] at h; cases h
    | cons c s => have := qAt_le (s := c :: s) (f := 0) (by simp) h; exact this.2
theorem tk_le (isu right last : Bool) (cur rest : L8) : (takeP isu right last cur rest).1.length ≤ max cur.length rest.length ∧ (takeP isu right last cur rest).2.1.length ≤ rest.length := by
  have := qE_le rest
  unfold takeP
  split
  · exact ⟨Nat.le_max_left .., Nat.le_refl _⟩
  · split
    · exact ⟨Nat.le_max_left .., Nat.le_refl _⟩
    · refine ⟨Nat.le_trans this.2 (Nat.le_max_right ..), ?_⟩
      show (if last then _ else _ : L8).length ≤ _
      split <;> simp <;> omega
theorem pre_1 {a : Bool} {s : L8} (h : (a || (!false && !Lib.hasPrefix s [32])) = false) : 1 ≤ s.length := by
  rw [Bool.or_eq_false_iff] at h
  have h2 : Lib.hasPrefix s [32] = true := by simpa using h.2
  obtain ⟨z, rfl⟩ := hasPrefix_iff.1 h2
  simp
end Go.Proofs.YtgknfikdajoiaaaGreatDoor
namespace Go.Proofs.YtgknfikdajoiaaaGreatDoor
open Go
open Go.RowKit
attribute [local irreducible] pathB valueB ruleC invR escB quoB parR ruleW ruleT Lib.hasPrefix qAt qT qE quoteL takeP
theorem pc_quotedAt_nil  :
  PureCall Tryz.prog J 45 [.one (.d (.str [])), .one (.d (.int .i64 0))] (.tup [.one (.d (.str [])), .one (.d (.int .i64 0)), .one (.d (.bool false))]) := by
 refine PureCall.of_body tOk (fn := Tryz.f45) Tryz.func45 (by kernel_rfl) rfl (Nat.le_of_ble_eq_true rfl) (fun E => ?_)
 refine W.seq ?_
 refine W.region ?_
 refine S.pure tOk zOk rfl rfl rfl ?_
 refine S.pure tOk zOk rfl rfl rfl ?_
 refine S.pure tOk zOk rfl rfl rfl ?_
 refine thenK_n ?_
 refine W.seq ?_
 refine W.region ?_
 refine S.pure tOk zOk rfl rfl rfl ?_
 refine thenK_n ?_
 refine W.seq ?_
 refine W.seq ?_
 refine W.region ?_
 refine S.pure tOk zOk rfl rfl rfl ?_
 refine S.pure tOk zOk rfl rfl rfl ?_
 refine S.pure tOk zOk rfl rfl rfl ?_
 refine thenK_n ?_
 refine W.block ?_
 refine W.rounds 1 ?_
 refine WR.succ ?_
 refine W.seq ?_
 refine W.seq ?_
 refine W.region ?_
 refine S.pure tOk zOk rfl rfl rfl ?_
 refine S.pure tOk zOk rfl rfl rfl ?_
 refine S.pure tOk zOk rfl rfl rfl ?_
 refine S.pure tOk zOk rfl rfl rfl ?_
 refine thenK_n ?_
 refine W.condF rfl rfl ?_
 refine W.exit ?_
 refine thenK_e ?_
 refine thenK_e ?_
 refine blockK_x ?_
 refine thenK_n ?_
 refine W.seq ?_
 refine W.region ?_
 refine S.pure tOk zOk rfl rfl rfl ?_
 refine S.pure tOk zOk rfl rfl rfl ?_
 refine S.pure tOk zOk rfl rfl rfl ?_
 refine thenK_n ?_
 refine W.ret ?_
 exact ⟨_, rfl, rfl, LeV.refl _⟩
theorem pc_quotedA (s : List UInt8) (hs : s.length ≤ 4000) : PureCall Tryz.prog J 45 [.one (.d (.str s)), .one (.d (.int .i64 0))] (.tup [.one (.d (.str (qT (qAt s 0)))), .one (.d (.int .i64 (qE (qAt s 0) : Int))), .one (.d (.bool (qAt s 0).isSome))]) := by
  cases s with
  | nil =>
    obtain ⟨h1, h2, h3⟩ := qAt_nil
    rw [h1, h2, h3]
    exact pc_quotedAt_nil
  | cons c s => exact pc_outref2_quotedAt (c :: s) 0 hs (by simp)
theorem tk1 {kd : Int} {k tu nu old rest a b : L8} {isu right c : Bool} (h : takeP isu right false old rest = (a, b, c)) : ([[.d (.int .i64 kd), .d (.str k), .d (.str tu), .d (.str a), .d (.str nu)], [.d (.str b)], [.d (.bool c)]] : List (List C)) =
    [[.d (.int .i64 kd), .d (.str k), .d (.str tu), .d (.str (takeP isu right false old rest).1), .d (.str nu)], [.d (.str (takeP isu right false old rest).2.1)], [.d (.bool (takeP isu right false old rest).2.2)]] := by rw [h]
theorem tk2 {kd : Int} {k tu nu old rest a b : L8} {isu right c : Bool} (h : takeP isu right true nu rest = (a, b, c)) : ([[.d (.int .i64 kd), .d (.str k), .d (.str tu), .d (.str old), .d (.str a)], [.d (.str b)], [.d (.bool c)]] : List (List C)) =
    [[.d (.int .i64 kd), .d (.str k), .d (.str tu), .d (.str old), .d (.str (takeP isu right true nu rest).1)], [.d (.str (takeP isu right true nu rest).2.1)], [.d (.bool (takeP isu right true nu rest).2.2)]] := by rw [h]
theorem sl_qE (s : L8) : V.one (.d (.str ((s.take ((s.length : Int)).toNat).drop ((qE (qAt s 0) : Int)).toNat))) = V.one (.d (.str (s.drop (qE (qAt s 0))))) := by
  rw [Int.toNat_natCast, Int.toNat_natCast, List.take_length]
theorem pc_take1 (kd : Int) (k tu old nu rest : List UInt8) (isu right : Bool) (hs : rest.length ≤ 4000) :
  HCall Tryz.prog J 44 ([.one (.d (.bool isu)), .one (.ptr 0 3), .one (.d (.bool false)), .one (.ptr 2 0), .one (.ptr 1 0)]) ([[.d (.int .i64 kd), .d (.str k), .d (.str tu), .d (.str old), .d (.str nu)], [.d (.str rest)], [.d (.bool right)]]) ([]) ([]) (isH (.tup []) ([[.d (.int .i64 kd), .d (.str k), .d (.str tu), .d (.str (takeP isu right false old rest).1), .d (.str nu)], [.d (.str (takeP isu right false old rest).2.1)], [.d (.bool (takeP isu right false old rest).2.2)]]) ([]) ([])) := by
 refine HCall.ofD tOk ⟨3, 0, 0⟩ (fn := Tryz.f44) Tryz.func44 (by kernel_rfl) rfl (Nat.le_of_ble_eq_true rfl) (fun E => ?_)
 refine W.seq ?_
 refine W.seq ?_
 refine W.region ?_
 refine S.pure tOk zOk rfl rfl rfl ?_
 refine S.pure tOk zOk rfl rfl rfl ?_
 refine S.pure tOk zOk rfl rfl rfl ?_
 refine S.pureG tOk zOk rfl rfl tg (fun _ => rfl) rfl ?_
 refine S.pureG tOk zOk rfl rfl tg (fun _ => rfl) rfl ?_
 refine S.pickOr tOk zOk rfl rfl tg ?_
 refine thenK_n ?_
 refine W.cond rfl (fun c1 => ?_) (fun c1 => ?_)
 ·skip
  refine W.ret ?_
  refine thenK_r ?_
  exact ⟨_, rfl, rfl, LeG.refl _, (tk1 (tk_a c1)), rfl, rfl⟩
 ·skip
  refine W.skip ?_
  refine thenK_n ?_
  refine W.seq ?_
  refine W.region ?_
  refine S.pure tOk zOk rfl rfl rfl ?_
  refine S.call rfl rfl rfl rfl rfl (pc_quotedA rest hs) ?_
  refine S.pure tOk zOk rfl rfl rfl ?_
  refine S.pure tOk zOk rfl rfl rfl ?_
  refine S.pure tOk zOk rfl rfl rfl ?_
  refine S.pure tOk zOk rfl rfl rfl ?_
  refine S.pure tOk zOk rfl rfl rfl ?_
  refine S.pure tOk zOk rfl rfl rfl ?_
  refine S.pure tOk zOk rfl rfl rfl ?_
  refine thenK_n ?_
  refine W.seq ?_
  refine W.seq ?_
  refine W.region ?_
  refine S.pure tOk zOk rfl rfl rfl ?_
  refine S.call rfl rfl rfl rfl rfl (pc_HasPrefix rest [34]) ?_
  refine S.pure tOk zOk rfl rfl rfl ?_
  refine S.pure tOk zOk rfl rfl rfl ?_
  refine S.pureG tOk zOk rfl rfl tg (fun _ => rfl) rfl ?_
  refine S.pureG tOk zOk rfl rfl tg (fun _ => rfl) rfl ?_
  refine S.pickOr tOk zOk rfl rfl tg ?_
  refine S.pure tOk zOk rfl rfl rfl ?_
  refine S.pureG tOk zOk rfl rfl tg (fun _ => rfl) rfl ?_
  refine S.pureG tOk zOk rfl rfl tg (fun _ => rfl) rfl ?_
  refine S.pureG tOk zOk rfl rfl tg (fun _ => rfl) rfl ?_
  refine S.pureG tOk zOk rfl rfl tg (fun _ => rfl) rfl ?_
  refine S.pureG tOk zOk rfl rfl tg (fun _ => rfl) rfl ?_
  refine S.pureEG tOk zOk rfl rfl tg (fun _ => sl_ok (Int.natCast_nonneg _) (by have := (qE_le rest).1; omega) (Int.le_refl _)) (sl_qE rest) rfl ?_
  refine S.callG rfl rfl rfl rfl tg rfl rfl (fun _ => pc_HasPrefix _ [32]) ?_
  refine S.pureG tOk zOk rfl rfl tg (fun _ => rfl) rfl ?_
  refine S.pickAndG tOk zOk rfl rfl rfl tg tg ?_
  refine S.pickOr tOk zOk rfl rfl tg ?_
  refine thenK_n ?_
  refine W.cond rfl (fun c2 => ?_) (fun c2 => ?_)
  ·skip
   refine W.seq ?_
   refine W.region ?_
   refine S.store tOk rfl rfl rfl rfl rfl rfl rfl rfl ?_
   refine thenK_n ?_
   refine W.ret ?_
   refine thenK_r ?_
   exact ⟨_, rfl, rfl, LeG.refl _, (tk1 (tk_b c1 c2)), rfl, rfl⟩
  ·skip
   refine W.skip ?_
   refine thenK_n ?_
   refine W.seq ?_
   refine W.regionS 8 mixed rfl (by kernel_rfl) ?_
   refine AnyZ.eager 0 rfl (by kernel_rfl) (Eag.pure tOk zOk rfl (fun _ _ _ => rfl) rfl rfl) ?_
   refine AnyZ.eager 1 rfl (by kernel_rfl) (Eag.pure tOk zOk rfl (fun _ _ _ => rfl) rfl rfl) ?_
   refine AnyZ.eager 3 rfl (by kernel_rfl) (Eag.pure tOk zOk rfl (fun _ _ _ => rfl) rfl rfl) ?_
   refine AnyZ.eager 5 rfl (by kernel_rfl) (Eag.pure tOk zOk rfl (fun _ _ _ => rfl) rfl rfl) ?_
   refine AnyZ.two 2 6 (by kernel_rfl) rfl rfl ?_ ?_
   ·skip
    refine OpZ.d ?_
    refine D.pure tOk zOk rfl rfl rfl rfl ?_
    refine WD.nil ?_
    refine AnyZ.two 4 6 (by kernel_rfl) rfl rfl ?_ ?_
    ·skip
     refine OpZ.d ?_
     refine D.pureE tOk zOk rfl rfl (sl_ok (Int.natCast_nonneg _) (by have := (qE_le rest).1; omega) (Int.le_refl _)) (sl_qE rest) rfl ?_
     refine WD.nil ?_
     refine AnyZ.one 6 (by kernel_rfl) rfl ?_
     refine OpZ.d ?_
     refine D.store tOk rfl rfl rfl rfl rfl rfl rfl rfl ?_
     refine WD.nil ?_
     refine AnyZ.one 7 (by kernel_rfl) rfl ?_
     refine OpZ.d ?_
     refine D.store tOk rfl rfl rfl rfl rfl rfl rfl rfl ?_
     refine WD.nil ?_
     refine AnyZ.nil (by kernel_rfl) ?_
     refine thenK_n ?_
     refine W.seq ?_
     refine W.region ?_
     refine S.pure tOk zOk rfl rfl rfl ?_
     refine S.pure tOk zOk rfl rfl rfl ?_
     refine thenK_n ?_
     refine W.cond rfl (fun c3 => ?_) (fun c3 => ?_)
     ·skip
      refine W.region ?_
      refine S.pure tOk zOk rfl rfl rfl ?_
      refine S.pureE tOk zOk rfl (sl_ok (l := 1) (by decide) (by have := pre_1 c2; omega) (Int.le_refl _)) (sl_drop1 _) rfl ?_
      refine S.store tOk rfl rfl rfl rfl rfl rfl rfl rfl ?_
      exact ⟨_, rfl, rfl, LeG.refl _, (tk1 (tk_c c1 c2)), rfl, rfl⟩
     ·skip
      exact absurd (show (!false) = false by assumption) (by decide)
    ·skip
     refine OpZ.d ?_
     refine D.store tOk rfl rfl rfl rfl rfl rfl rfl rfl ?_
     refine WD.nil ?_
     refine AnyZ.one 4 (by kernel_rfl) rfl ?_
     refine OpZ.d ?_
     refine D.pureE tOk zOk rfl rfl (sl_ok (Int.natCast_nonneg _) (by have := (qE_le rest).1; omega) (Int.le_refl _)) (sl_qE rest) rfl ?_
     refine WD.nil ?_
     refine AnyZ.one 7 (by kernel_rfl) rfl ?_
     refine OpZ.d ?_
     refine D.store tOk rfl rfl rfl rfl rfl rfl rfl rfl ?_
     refine WD.nil ?_
     refine AnyZ.nil (by kernel_rfl) ?_
     refine thenK_n ?_
     refine W.seq ?_
     refine W.region ?_
     refine S.pure tOk zOk rfl rfl rfl ?_
     refine S.pure tOk zOk rfl rfl rfl ?_
     refine thenK_n ?_
     refine W.cond rfl (fun c4 => ?_) (fun c4 => ?_)
     ·skip
      refine W.region ?_
      refine S.pure tOk zOk rfl rfl rfl ?_
      refine S.pureE tOk zOk rfl (sl_ok (l := 1) (by decide) (by have := pre_1 c2; omega) (Int.le_refl _)) (sl_drop1 _) rfl ?_
      refine S.store tOk rfl rfl rfl rfl rfl rfl rfl rfl ?_
      exact ⟨_, rfl, rfl, LeG.refl _, (tk1 (tk_c c1 c2)), rfl, rfl⟩
     ·skip
      exact absurd (show (!false) = false by assumption) (by decide)
   ·skip
    refine OpZ.d ?_
    refine D.store tOk rfl rfl rfl rfl rfl rfl rfl rfl ?_
    refine WD.nil ?_
    refine AnyZ.one 2 (by kernel_rfl) rfl ?_
    refine OpZ.d ?_
    refine D.pure tOk zOk rfl rfl rfl rfl ?_
    refine WD.nil ?_
    refine AnyZ.one 4 (by kernel_rfl) rfl ?_
    refine OpZ.d ?_
    refine D.pureE tOk zOk rfl rfl (sl_ok (Int.natCast_nonneg _) (by have := (qE_le rest).1; omega) (Int.le_refl _)) (sl_qE rest) rfl ?_
    refine WD.nil ?_
    refine AnyZ.one 7 (by kernel_rfl) rfl ?_
    refine OpZ.d ?_
    refine D.store tOk rfl rfl rfl rfl rfl rfl rfl rfl ?_
    refine WD.nil ?_
    refine AnyZ.nil (by kernel_rfl) ?_
    refine thenK_n ?_
    refine W.seq ?_
    refine W.region ?_
    refine S.pure tOk zOk rfl rfl rfl ?_
    refine S.pure tOk zOk rfl rfl rfl ?_
    refine thenK_n ?_
    refine W.cond rfl (fun c5 => ?_) (fun c5 => ?_)
    ·skip
     refine W.region ?_
     refine S.pure tOk zOk rfl rfl rfl ?_
     refine S.pureE tOk zOk rfl (sl_ok (l := 1) (by decide) (by have := pre_1 c2; omega) (Int.le_refl _)) (sl_drop1 _) rfl ?_
     refine S.store tOk rfl rfl rfl rfl rfl rfl rfl rfl ?_
     exact ⟨_, rfl, rfl, LeG.refl _, (tk1 (tk_c c1 c2)), rfl, rfl⟩
    ·skip
     exact absurd (show (!false) = false by assumption) (by decide)
theorem pc_take2 (kd : Int) (k tu old nu rest : List UInt8) (isu right : Bool) (hs : rest.length ≤ 4000) :
  HCall Tryz.prog J 44 ([.one (.d (.bool isu)), .one (.ptr 0 4), .one (.d (.bool true)), .one (.ptr 2 0), .one (.ptr 1 0)]) ([[.d (.int .i64 kd), .d (.str k), .d (.str tu), .d (.str old), .d (.str nu)], [.d (.str rest)], [.d (.bool right)]]) ([]) ([]) (isH (.tup []) ([[.d (.int .i64 kd), .d (.str k), .d (.str tu), .d (.str old), .d (.str (takeP isu right true nu rest).1)], [.d (.str (takeP isu right true nu rest).2.1)], [.d (.bool (takeP isu right true nu rest).2.2)]]) ([]) ([])) := by
 refine HCall.ofD tOk ⟨3, 0, 0⟩ (fn := Tryz.f44) Tryz.func44 (by kernel_rfl) rfl (Nat.le_of_ble_eq_true rfl) (fun E => ?_)
 refine W.seq ?_
 refine W.seq ?_
 refine W.region ?_
 refine S.pure tOk zOk rfl rfl rfl ?_
 refine S.pure tOk zOk rfl rfl rfl ?_
 refine S.pure tOk zOk rfl rfl rfl ?_
 refine S.pureG tOk zOk rfl rfl tg (fun _ => rfl) rfl ?_
 refine S.pureG tOk zOk rfl rfl tg (fun _ => rfl) rfl ?_
 refine S.pickOr tOk zOk rfl rfl tg ?_
 refine thenK_n ?_
 refine W.cond rfl (fun c1 => ?_) (fun c1 => ?_)
 ·skip
  refine W.ret ?_
  refine thenK_r ?_
  exact ⟨_, rfl, rfl, LeG.refl _, (tk2 (tk_a c1)), rfl, rfl⟩
 ·skip
  refine W.skip ?_
  refine thenK_n ?_
  refine W.seq ?_
  refine W.region ?_
  refine S.pure tOk zOk rfl rfl rfl ?_
  refine S.call rfl rfl rfl rfl rfl (pc_quotedA rest hs) ?_
  refine S.pure tOk zOk rfl rfl rfl ?_
  refine S.pure tOk zOk rfl rfl rfl ?_
  refine S.pure tOk zOk rfl rfl rfl ?_
  refine S.pure tOk zOk rfl rfl rfl ?_
  refine S.pure tOk zOk rfl rfl rfl ?_
  refine S.pure tOk zOk rfl rfl rfl ?_
  refine S.pure tOk zOk rfl rfl rfl ?_
  refine thenK_n ?_
  refine W.seq ?_
  refine W.seq ?_
  refine W.region ?_
  refine S.pure tOk zOk rfl rfl rfl ?_
  refine S.call rfl rfl rfl rfl rfl (pc_HasPrefix rest [34]) ?_
  refine S.pure tOk zOk rfl rfl rfl ?_
  refine S.pure tOk zOk rfl rfl rfl ?_
  refine S.pureG tOk zOk rfl rfl tg (fun _ => rfl) rfl ?_
  refine S.pureG tOk zOk rfl rfl tg (fun _ => rfl) rfl ?_
  refine S.pickOr tOk zOk rfl rfl tg ?_
  refine S.pure tOk zOk rfl rfl rfl ?_
  refine S.pureG tOk zOk rfl rfl tg (fun _ => rfl) rfl ?_
  refine S.pureG tOk zOk rfl rfl tg (fun _ => rfl) rfl ?_
  refine S.pureG tOk zOk rfl rfl tg (fun _ => rfl) rfl ?_
  refine S.pureG tOk zOk rfl rfl tg (fun _ => rfl) rfl ?_
  refine S.pureG tOk zOk rfl rfl tg (fun _ => rfl) rfl ?_
  refine S.pureEG tOk zOk rfl rfl tg (fun _ => sl_ok (Int.natCast_nonneg _) (by have := (qE_le rest).1; omega) (Int.le_refl _)) (sl_qE rest) rfl ?_
  refine S.callG rfl rfl rfl rfl tg rfl rfl (fun _ => pc_HasPrefix _ [32]) ?_
  refine S.pureG tOk zOk rfl rfl tg (fun _ => rfl) rfl ?_
  refine S.pickAndG tOk zOk rfl rfl rfl tg tg ?_
  refine S.pickOr tOk zOk rfl rfl tg ?_
  refine thenK_n ?_
  refine W.cond rfl (fun c2 => ?_) (fun c2 => ?_)
  ·skip
   refine W.seq ?_
   refine W.region ?_
   refine S.store tOk rfl rfl rfl rfl rfl rfl rfl rfl ?_
   refine thenK_n ?_
   refine W.ret ?_
   refine thenK_r ?_
   exact ⟨_, rfl, rfl, LeG.refl _, (tk2 (tk_b c1 c2)), rfl, rfl⟩
  ·skip
   refine W.skip ?_
   refine thenK_n ?_
   refine W.seq ?_
   refine W.regionS 8 mixed rfl (by kernel_rfl) ?_
   refine AnyZ.eager 0 rfl (by kernel_rfl) (Eag.pure tOk zOk rfl (fun _ _ _ => rfl) rfl rfl) ?_
   refine AnyZ.eager 1 rfl (by kernel_rfl) (Eag.pure tOk zOk rfl (fun _ _ _ => rfl) rfl rfl) ?_
   refine AnyZ.eager 3 rfl (by kernel_rfl) (Eag.pure tOk zOk rfl (fun _ _ _ => rfl) rfl rfl) ?_
   refine AnyZ.eager 5 rfl (by kernel_rfl) (Eag.pure tOk zOk rfl (fun _ _ _ => rfl) rfl rfl) ?_
   refine AnyZ.two 2 6 (by kernel_rfl) rfl rfl ?_ ?_
   ·skip
    refine OpZ.d ?_
    refine D.pure tOk zOk rfl rfl rfl rfl ?_
    refine WD.nil ?_
    refine AnyZ.two 4 6 (by kernel_rfl) rfl rfl ?_ ?_
    ·skip
     refine OpZ.d ?_
     refine D.pureE tOk zOk rfl rfl (sl_ok (Int.natCast_nonneg _) (by have := (qE_le rest).1; omega) (Int.le_refl _)) (sl_qE rest) rfl ?_
     refine WD.nil ?_
     refine AnyZ.one 6 (by kernel_rfl) rfl ?_
     refine OpZ.d ?_
     refine D.store tOk rfl rfl rfl rfl rfl rfl rfl rfl ?_
     refine WD.nil ?_
     refine AnyZ.one 7 (by kernel_rfl) rfl ?_
     refine OpZ.d ?_
     refine D.store tOk rfl rfl rfl rfl rfl rfl rfl rfl ?_
     refine WD.nil ?_
     refine AnyZ.nil (by kernel_rfl) ?_
     refine thenK_n ?_
     refine W.seq ?_
     refine W.region ?_
     refine S.pure tOk zOk rfl rfl rfl ?_
     refine S.pure tOk zOk rfl rfl rfl ?_
     refine thenK_n ?_
     refine W.cond rfl (fun c3 => ?_) (fun c3 => ?_)
     ·skip
      exact absurd (show (!true) = true by assumption) (by decide)
     ·skip
      refine W.skip ?_
      exact ⟨_, rfl, rfl, LeG.refl _, (tk2 (tk_c c1 c2)), rfl, rfl⟩
    ·skip
     refine OpZ.d ?_
     refine D.store tOk rfl rfl rfl rfl rfl rfl rfl rfl ?_
     refine WD.nil ?_
     refine AnyZ.one 4 (by kernel_rfl) rfl ?_
     refine OpZ.d ?_
     refine D.pureE tOk zOk rfl rfl (sl_ok (Int.natCast_nonneg _) (by have := (qE_le rest).1; omega) (Int.le_refl _)) (sl_qE rest) rfl ?_
     refine WD.nil ?_
     refine AnyZ.one 7 (by kernel_rfl) rfl ?_
     refine OpZ.d ?_
     refine D.store tOk rfl rfl rfl rfl rfl rfl rfl rfl ?_
     refine WD.nil ?_
     refine AnyZ.nil (by kernel_rfl) ?_
     refine thenK_n ?_
     refine W.seq ?_
     refine W.region ?_
     refine S.pure tOk zOk rfl rfl rfl ?_
     refine S.pure tOk zOk rfl rfl rfl ?_
     refine thenK_n ?_
     refine W.cond rfl (fun c4 => ?_) (fun c4 => ?_)
     ·skip
      exact absurd (show (!true) = true by assumption) (by decide)
     ·skip
      refine W.skip ?_
      exact ⟨_, rfl, rfl, LeG.refl _, (tk2 (tk_c c1 c2)), rfl, rfl⟩
   ·skip
    refine OpZ.d ?_
    refine D.store tOk rfl rfl rfl rfl rfl rfl rfl rfl ?_
    refine WD.nil ?_
    refine AnyZ.one 2 (by kernel_rfl) rfl ?_
    refine OpZ.d ?_
    refine D.pure tOk zOk rfl rfl rfl rfl ?_
    refine WD.nil ?_
    refine AnyZ.one 4 (by kernel_rfl) rfl ?_
    refine OpZ.d ?_
    refine D.pureE tOk zOk rfl rfl (sl_ok (Int.natCast_nonneg _) (by have := (qE_le rest).1; omega) (Int.le_refl _)) (sl_qE rest) rfl ?_
    refine WD.nil ?_
    refine AnyZ.one 7 (by kernel_rfl) rfl ?_
    refine OpZ.d ?_
    refine D.store tOk rfl rfl rfl rfl rfl rfl rfl rfl ?_
    refine WD.nil ?_
    refine AnyZ.nil (by kernel_rfl) ?_
    refine thenK_n ?_
    refine W.seq ?_
    refine W.region ?_
    refine S.pure tOk zOk rfl rfl rfl ?_
    refine S.pure tOk zOk rfl rfl rfl ?_
    refine thenK_n ?_
    refine W.cond rfl (fun c5 => ?_) (fun c5 => ?_)
    ·skip
     exact absurd (show (!true) = true by assumption) (by decide)
    ·skip
     refine W.skip ?_
     exact ⟨_, rfl, rfl, LeG.refl _, (tk2 (tk_c c1 c2)), rfl, rfl⟩
end Go.Proofs.YtgknfikdajoiaaaGreatDoor
namespace Go.Proofs.YtgknfikdajoiaaaGreatDoor
open Go
open Go.RowKit
attribute [local irreducible] pathB valueB ruleC invR escB quoB parR ruleW ruleT Lib.hasPrefix Lib.cut qAt qT qE quoteL takeP usTu usOld usNew
def rdE (kd : Int) (k tu rest s : L8) : Rul × Int :=
  if ((((!(takeP (usNew kd) (takeP (usOld kd) true false [] rest).2.2 true [] (takeP (usOld kd) true false [] rest).2.1).2.2 || !((takeP (usNew kd) (takeP (usOld kd) true false [] rest).2.2 true [] (takeP (usOld kd) true false [] rest).2.1).2.1 == [])) || k == []) || (usTu kd && tu == [])) ||
      !(ruleT ⟨kd, k, tu, (takeP (usOld kd) true false [] rest).1, (takeP (usNew kd) (takeP (usOld kd) true false [] rest).2.2 true [] (takeP (usOld kd) true false [] rest).2.1).1⟩ == s)) then (Rul.z, 8)
  else if ruleC ⟨kd, k, tu, (takeP (usOld kd) true false [] rest).1, (takeP (usNew kd) (takeP (usOld kd) true false [] rest).2.2 true [] (takeP (usOld kd) true false [] rest).2.1).1⟩ != 0 then (Rul.z, ruleC ⟨kd, k, tu, (takeP (usOld kd) true false [] rest).1, (takeP (usNew kd) (takeP (usOld kd) true false [] rest).2.2 true [] (takeP (usOld kd) true false [] rest).2.1).1⟩)
  else (⟨kd, k, tu, (takeP (usOld kd) true false [] rest).1, (takeP (usNew kd) (takeP (usOld kd) true false [] rest).2.2 true [] (takeP (usOld kd) true false [] rest).2.1).1⟩, 0)
def rdK (kd : Int) (rest s : L8) : Rul × Int :=
  if usTu kd then rdE kd (Lib.cut rest [32]).1 (Lib.cut (Lib.cut rest [32]).2.1 [32]).1 (Lib.cut (Lib.cut rest [32]).2.1 [32]).2.1 s else rdE kd (Lib.cut rest [32]).1 [] (Lib.cut rest [32]).2.1 s
def rdR (s : L8) : Rul × Int :=
  if decide ((s.length : Int) > 4000) then (Rul.z, 4)
  else if decide (idxOf (fun y => (Lib.cut s [32]).1 == y) ruleWs < 1) then (Rul.z, 8)
  else rdK (idxOf (fun y => (Lib.cut s [32]).1 == y) ruleWs) (Lib.cut s [32]).2.1 s
theorem rd_1 {s : L8} (h : decide ((s.length : Int) > 4000) = true) : rdR s = (Rul.z, 4) := if_pos h
theorem ix_word {w : L8} {i : Nat} (h1 : 1 ≤ i) (h2 : i ≤ 8) (h : ruleW (i : Int) = w) : idxOf (fun y => w == y) ruleWs = (i : Int) := by
  subst h
  have : i = 1 ∨ i = 2 ∨ i = 3 ∨ i = 4 ∨ i = 5 ∨ i = 6 ∨ i = 7 ∨ i = 8 := by omega
  unfold ruleW
  rcases this with h | h | h | h | h | h | h | h <;> subst h <;> rfl
theorem ix_none {w : L8} (h : ∀ j : Nat, 1 ≤ j → j < 9 → ruleW (j : Int) ≠ w) : idxOf (fun y => w == y) ruleWs < 1 := by
  have e : ∀ (j : Nat), 1 ≤ j → j < 9 → ∀ x : L8, x = ruleW (j : Int) → (w == x) = false := fun j h1 h2 x hx => by
    have := h j h1 h2
    rw [← hx] at this
    simpa using fun e => this e.symm
  have e1 := e 1 (by decide) (by decide) [114, 101, 110, 97, 109, 101] (by unfold ruleW; rfl)
  have e2 := e 2 (by decide) (by decide) [112, 114, 101, 102, 105, 120] (by unfold ruleW; rfl)
  have e3 := e 3 (by decide) (by decide) [99, 111, 112, 121] (by unfold ruleW; rfl)
  have e4 := e 4 (by decide) (by decide) [115, 101, 116] (by unfold ruleW; rfl)
  have e5 := e 5 (by decide) (by decide) [100, 101, 102, 97, 117, 108, 116] (by unfold ruleW; rfl)
  have e6 := e 6 (by decide) (by decide) [100, 114, 111, 112] (by unfold ruleW; rfl)
  have e7 := e 7 (by decide) (by decide) [109, 97, 112] (by unfold ruleW; rfl)
  have e8 := e 8 (by decide) (by decide) [115, 119, 97, 112] (by unfold ruleW; rfl)
  have hn : idxOf (fun y => w == y) [[114, 101, 110, 97, 109, 101], [112, 114, 101, 102, 105, 120], [99, 111, 112, 121], [115, 101, 116], [100, 101, 102, 97, 117, 108, 116], [100, 114, 111, 112], [109, 97, 112], [115, 119, 97, 112]] = -1 :=
    idxOf_none (by simp only [List.any_cons, List.any_nil, e1, e2, e3, e4, e5, e6, e7, e8, Bool.or_false])
  show (if (w == []) then (0 : Int) else if idxOf (fun y => w == y) _ == -1 then -1 else _) < 1
  rw [hn]
  split <;> decide
theorem rd_hit {s : L8} (h : decide ((s.length : Int) > 4000) = false) {i : Nat} (h1 : 1 ≤ i) (h2 : i ≤ 8) (hw : (!(ruleW (i : Int) == (Lib.cut s [32]).1)) = false) : rdR s = rdK (i : Int) (Lib.cut s [32]).2.1 s := by
  have hw : ruleW (i : Int) = (Lib.cut s [32]).1 := by simpa using hw
  have e := ix_word h1 h2 hw
  unfold rdR
  rw [if_neg (Bool.eq_false_iff.1 h), e, if_neg (by simp; omega)]
theorem rd_none {s : L8} (h : decide ((s.length : Int) > 4000) = false) (hw : ∀ j : Nat, 1 ≤ j → j < 9 → ruleW (j : Int) ≠ (Lib.cut s [32]).1) : rdR s = (Rul.z, 8) := by
  unfold rdR
  rw [if_neg (Bool.eq_false_iff.1 h), if_pos (by simpa using ix_none hw)]
theorem no_more {w : L8} {i : Nat} (h : ∀ j : Nat, 1 ≤ j → j < i → ruleW (j : Int) ≠ w) (c : (!(ruleW (i : Int) == w)) = true) : ∀ j : Nat, 1 ≤ j → j < i + 1 → ruleW (j : Int) ≠ w := fun j h1 h2 => by
  by_cases hj : j < i
  · exact h j h1 hj
  · obtain rfl : j = i := by omega
    simpa using c
theorem pc_ReadRule (s : List UInt8) (hs : s.length ≤ 4000000) :
  PureCall Tryz.prog J 13 [.one (.d (.str s))] (.tup [.agg [.d (.int .i64 (rdR s).1.kd), .d (.str (rdR s).1.k), .d (.str (rdR s).1.tu), .d (.str (rdR s).1.old), .d (.str (rdR s).1.nu)], .one (.d (.int .i64 (rdR s).2))]) := by
 have hq1 := cut_le s [32]
 have hq2 := cut_le (Lib.cut s [32]).2.1 [32]
 have hq3 := cut_le (Lib.cut (Lib.cut s [32]).2.1 [32]).2.1 [32]
 refine PureCall.of_body tOk (fn := Tryz.f13) Tryz.func13 (by kernel_rfl) rfl (Nat.le_of_ble_eq_true rfl) (fun E => ?_)
 refine W.seq ?_
 refine W.region ?_
 refine S.alloc tOk rfl rfl rfl rfl ?_
 refine S.pure tOk zOk rfl rfl rfl ?_
 refine thenK_n ?_
 refine W.seq ?_
 refine W.seq ?_
 refine W.region ?_
 refine S.pure tOk zOk rfl rfl rfl ?_
 refine S.pure tOk zOk rfl rfl rfl ?_
 refine S.pure tOk zOk rfl rfl rfl ?_
 refine thenK_n ?_
 refine W.cond rfl (fun c1 => ?_) (fun c1 => ?_)
 ·skip
  refine W.seq ?_
  refine W.region ?_
  refine S.pure tOk zOk rfl rfl rfl ?_
  refine S.store tOk rfl rfl rfl rfl rfl rfl rfl rfl ?_
  refine S.pure tOk zOk rfl rfl rfl ?_
  refine thenK_n ?_
  refine W.ret ?_
  refine thenK_r ?_
  exact ⟨_, rfl, rfl, LeV.of_force rfl (by rw [rd_1 c1]; rfl)⟩
 ·skip
  have hs4 : s.length ≤ 4000 := by simp at c1; omega
  refine W.skip ?_
  refine thenK_n ?_
  refine W.seq ?_
  refine W.region ?_
  refine S.pure tOk zOk rfl rfl rfl ?_
  refine S.call rfl rfl rfl rfl rfl (pc_Cut s [32] (by omega)) ?_
  refine S.pure tOk zOk rfl rfl rfl ?_
  refine S.pure tOk zOk rfl rfl rfl ?_
  refine S.pure tOk zOk rfl rfl rfl ?_
  refine S.pure tOk zOk rfl rfl rfl ?_
  refine S.alloc tOk rfl rfl rfl rfl ?_
  refine S.pure tOk zOk rfl rfl rfl ?_
  refine S.store tOk rfl rfl rfl rfl rfl rfl rfl rfl ?_
  refine S.pure tOk zOk rfl rfl rfl ?_
  refine thenK_n ?_
  refine W.seq ?_
  refine W.seq ?_
  refine W.region ?_
  refine S.pure tOk zOk rfl rfl rfl ?_
  refine thenK_n ?_
  refine W.block ?_
  refine W.loop (fun k st => ∃ i : Nat, 1 ≤ i ∧ i ≤ 9 ∧ (∀ j : Nat, 1 ≤ j → j < i → ruleW (j : Int) ≠ (Lib.cut s [32]).1) ∧ k = 9 - i ∧ ∃ t b2 r2 m2, st = ⟨t, [[.d (.int .i64 0), .d (.str []), .d (.str []), .d (.str []), .d (.str [])], [.d (.str (Lib.cut s [32]).2.1)]] ++ b2, [] ++ r2, [] ++ m2⟩ ∧ holdsL t [(0, .one (.d (.str s))), (2, .one (.ptr 0 0)), (4, .one (.d (.str (Lib.cut s [32]).1))), (5, .one (.ptr 1 0)), (7, .one (.d (.int .i64 (i : Int))))]) (8) ⟨1, Nat.le_refl _, (by decide), (fun j h1 h2 => absurd h1 (by omega)), rfl, _, _, _, _, rfl, rfl, rfl, rfl, rfl, rfl, trivial⟩ ?_
  rintro k0 _ ⟨i, f0_0, f0_1, f0_2, rfl, t0, bb0, rr0, mm0, rfl, hh0⟩
  refine W.keepR _ _ _ _ _ _ _ hh0 rfl ?_
  refine W.seq ?_
  refine W.seq ?_
  refine W.region ?_
  refine S.pure tOk zOk rfl rfl rfl ?_
  refine S.pure tOk zOk rfl rfl rfl ?_
  refine thenK_n ?_
  refine W.cond rfl (fun c2 => ?_) (fun c2 => ?_)
  ·skip
   have hi : i ≤ 8 := by simp at c2; omega
   refine W.skip ?_
   refine thenK_n ?_
   refine W.seq ?_
   refine W.block ?_
   refine W.seq ?_
   refine W.region ?_
   refine S.pure tOk zOk rfl rfl rfl ?_
   refine S.call rfl rfl rfl rfl rfl (pc_ruleWord (i : Int)) ?_
   refine S.pure tOk zOk rfl rfl rfl ?_
   refine S.pure tOk zOk rfl rfl rfl ?_
   refine S.pure tOk zOk rfl rfl rfl ?_
   refine S.pure tOk zOk rfl rfl rfl ?_
   refine S.pure tOk zOk rfl rfl rfl ?_
   refine S.pure tOk zOk rfl rfl rfl ?_
   refine S.pure tOk zOk rfl rfl rfl ?_
   refine S.pure tOk zOk rfl rfl rfl ?_
   refine S.pure tOk zOk rfl rfl rfl ?_
   refine thenK_n ?_
   refine W.seq ?_
   refine W.seq ?_
   refine W.region ?_
   refine S.pure tOk zOk rfl rfl rfl ?_
   refine S.pure tOk zOk rfl rfl rfl ?_
   refine S.pure tOk zOk rfl rfl rfl ?_
   refine thenK_n ?_
   refine W.cond rfl (fun c3 => ?_) (fun c3 => ?_)
   ·skip
    refine W.exit ?_
    refine thenK_e ?_
    refine blockK_x ?_
    refine thenK_n ?_
    refine W.region ?_
    refine S.pure tOk zOk rfl rfl rfl ?_
    refine S.pure tOk zOk rfl rfl rfl ?_
    refine S.pure tOk zOk rfl rfl rfl ?_
    refine loop_n (9 - (i + 1)) (by omega) ⟨i + 1, (by omega), (by omega), no_more f0_2 c3, rfl, _, _, _, _, rfl, rfl, rfl, rfl, rfl, inc_i64 (by omega), trivial⟩
   ·skip
    have hm := rd_hit c1 f0_0 hi c3
    refine W.skip ?_
    refine thenK_n ?_
    refine W.seq ?_
    refine W.region ?_
    refine S.pure tOk zOk rfl rfl rfl ?_
    refine S.pure tOk zOk rfl rfl rfl ?_
    refine S.alloc tOk rfl rfl rfl rfl ?_
    refine S.store tOk rfl rfl rfl rfl rfl rfl rfl rfl ?_
    refine thenK_n ?_
    refine W.seq ?_
    refine W.region ?_
    refine S.alloc tOk rfl rfl rfl rfl ?_
    refine S.store tOk rfl rfl rfl rfl rfl rfl rfl rfl ?_
    refine thenK_n ?_
    refine W.seq ?_
    refine W.region ?_
    refine S.pure tOk zOk rfl rfl rfl ?_
    refine S.call rfl rfl rfl rfl rfl (pc_Cut (Lib.cut s [32]).2.1 [32] (by omega)) ?_
    refine S.pure tOk zOk rfl rfl rfl ?_
    refine S.pure tOk zOk rfl rfl rfl ?_
    refine S.pure tOk zOk rfl rfl rfl ?_
    refine S.pure tOk zOk rfl rfl rfl ?_
    refine S.pure tOk zOk rfl rfl rfl ?_
    refine S.store tOk rfl rfl rfl rfl rfl rfl rfl rfl ?_
    refine S.store tOk rfl rfl rfl rfl rfl rfl rfl rfl ?_
    refine thenK_n ?_
    refine W.seq ?_
    refine W.seq ?_
    refine W.region ?_
    refine S.pure tOk zOk rfl rfl rfl ?_
    refine thenK_n ?_
    refine W.cond rfl (fun c4 => ?_) (fun c4 => ?_)
    ·skip
     have hta := tk_le (usOld (i : Int)) true false [] (Lib.cut (Lib.cut (Lib.cut s [32]).2.1 [32]).2.1 [32]).2.1
     have htb := tk_le (usNew (i : Int)) (takeP (usOld (i : Int)) true false [] (Lib.cut (Lib.cut (Lib.cut s [32]).2.1 [32]).2.1 [32]).2.1).2.2 true [] (takeP (usOld (i : Int)) true false [] (Lib.cut (Lib.cut (Lib.cut s [32]).2.1 [32]).2.1 [32]).2.1).2.1
     simp only [List.length_nil, Nat.zero_max] at hta htb
     refine W.region ?_
     refine S.pure tOk zOk rfl rfl rfl ?_
     refine S.call rfl rfl rfl rfl rfl (pc_Cut (Lib.cut (Lib.cut s [32]).2.1 [32]).2.1 [32] (by omega)) ?_
     refine S.pure tOk zOk rfl rfl rfl ?_
     refine S.pure tOk zOk rfl rfl rfl ?_
     refine S.pure tOk zOk rfl rfl rfl ?_
     refine S.pure tOk zOk rfl rfl rfl ?_
     refine S.pure tOk zOk rfl rfl rfl ?_
     refine S.store tOk rfl rfl rfl rfl rfl rfl rfl rfl ?_
     refine S.store tOk rfl rfl rfl rfl rfl rfl rfl rfl ?_
     refine thenK_n ?_
     refine W.seq ?_
     refine W.region ?_
     refine S.makeFunc rfl rfl rfl ?_
     refine S.pure tOk zOk rfl rfl rfl ?_
     refine thenK_n ?_
     refine W.seq ?_
     refine W.region ?_
     refine S.pure tOk zOk rfl rfl rfl ?_
     refine S.pure tOk zOk rfl rfl rfl ?_
     refine S.pure tOk zOk rfl rfl rfl ?_
     refine S.hcallD rfl rfl rfl rfl ((pc_take1 (i : Int) (Lib.cut (Lib.cut s [32]).2.1 [32]).1 (Lib.cut (Lib.cut (Lib.cut s [32]).2.1 [32]).2.1 [32]).1 [] [] (Lib.cut (Lib.cut (Lib.cut s [32]).2.1 [32]).2.1 [32]).2.1 (usOld (i : Int)) true (by omega)).frameD [2, 1, 3] [] [] rfl rfl rfl rfl rfl rfl rfl rfl rfl) ?_
     refine thenK_n ?_
     refine W.seq ?_
     refine W.region ?_
     refine S.pure tOk zOk rfl rfl rfl ?_
     refine S.pure tOk zOk rfl rfl rfl ?_
     refine S.pure tOk zOk rfl rfl rfl ?_
     refine S.hcallD rfl rfl rfl rfl ((pc_take2 (i : Int) (Lib.cut (Lib.cut s [32]).2.1 [32]).1 (Lib.cut (Lib.cut (Lib.cut s [32]).2.1 [32]).2.1 [32]).1 (takeP (usOld (i : Int)) true false [] (Lib.cut (Lib.cut (Lib.cut s [32]).2.1 [32]).2.1 [32]).2.1).1 [] (takeP (usOld (i : Int)) true false [] (Lib.cut (Lib.cut (Lib.cut s [32]).2.1 [32]).2.1 [32]).2.1).2.1 (usNew (i : Int)) (takeP (usOld (i : Int)) true false [] (Lib.cut (Lib.cut (Lib.cut s [32]).2.1 [32]).2.1 [32]).2.1).2.2 (by omega)).frameD [2, 1, 3] [] [] rfl rfl rfl rfl rfl rfl rfl rfl rfl) ?_
     refine thenK_n ?_
     refine W.seq ?_
     refine W.seq ?_
     refine W.region ?_
     refine S.pure tOk zOk rfl rfl rfl ?_
     refine S.pure tOk zOk rfl rfl rfl ?_
     refine S.pure tOk zOk rfl rfl rfl ?_
     refine S.pureG tOk zOk rfl rfl tg (fun _ => rfl) rfl ?_
     refine S.pureG tOk zOk rfl rfl tg (fun _ => rfl) rfl ?_
     refine S.pickOr tOk zOk rfl rfl tg ?_
     refine S.pure tOk zOk rfl rfl rfl ?_
     refine S.pureG tOk zOk rfl rfl tg (fun _ => rfl) rfl ?_
     refine S.pureG tOk zOk rfl rfl tg (fun _ => rfl) rfl ?_
     refine S.pureG tOk zOk rfl rfl tg (fun _ => rfl) rfl ?_
     refine S.pickOr tOk zOk rfl rfl tg ?_
     refine S.pure tOk zOk rfl rfl rfl ?_
     refine S.pureG tOk zOk rfl rfl tg (fun _ => rfl) rfl ?_
     refine S.pureG tOk zOk rfl rfl tg (fun _ => rfl) rfl ?_
     refine S.pureG tOk zOk rfl rfl tg (fun _ => rfl) rfl ?_
     refine S.pureG tOk zOk rfl rfl tg (fun _ => rfl) rfl ?_
     refine S.pureG tOk zOk rfl rfl tg (fun _ => rfl) rfl ?_
     refine S.pickAndG tOk zOk rfl rfl rfl tg tg ?_
     refine S.pickOr tOk zOk rfl rfl tg ?_
     refine S.pure tOk zOk rfl rfl rfl ?_
     refine S.pureG tOk zOk rfl rfl tg (fun _ => rfl) rfl ?_
     refine S.callG rfl rfl rfl rfl tg rfl rfl (fun _ => pc_RuleText ⟨(i : Int), (Lib.cut (Lib.cut s [32]).2.1 [32]).1, (Lib.cut (Lib.cut (Lib.cut s [32]).2.1 [32]).2.1 [32]).1, (takeP (usOld (i : Int)) true false [] (Lib.cut (Lib.cut (Lib.cut s [32]).2.1 [32]).2.1 [32]).2.1).1, (takeP (usNew (i : Int)) (takeP (usOld (i : Int)) true false [] (Lib.cut (Lib.cut (Lib.cut s [32]).2.1 [32]).2.1 [32]).2.1).2.2 true [] (takeP (usOld (i : Int)) true false [] (Lib.cut (Lib.cut (Lib.cut s [32]).2.1 [32]).2.1 [32]).2.1).2.1).1⟩ ⟨by show (Lib.cut (Lib.cut s [32]).2.1 [32]).1.length ≤ _; omega, by show ((Lib.cut (Lib.cut (Lib.cut s [32]).2.1 [32]).2.1 [32]).1 : L8).length ≤ _; omega, by show (takeP (usOld (i : Int)) true false [] (Lib.cut (Lib.cut (Lib.cut s [32]).2.1 [32]).2.1 [32]).2.1).1.length ≤ _; omega, by show (takeP (usNew (i : Int)) (takeP (usOld (i : Int)) true false [] (Lib.cut (Lib.cut (Lib.cut s [32]).2.1 [32]).2.1 [32]).2.1).2.2 true [] (takeP (usOld (i : Int)) true false [] (Lib.cut (Lib.cut (Lib.cut s [32]).2.1 [32]).2.1 [32]).2.1).2.1).1.length ≤ _; omega⟩) ?_
     refine S.pureG tOk zOk rfl rfl tg (fun _ => rfl) rfl ?_
     refine S.pureG tOk zOk rfl rfl tg (fun _ => rfl) rfl ?_
     refine S.pickOr tOk zOk rfl rfl tg ?_
     refine thenK_n ?_
     refine W.cond rfl (fun c5 => ?_) (fun c5 => ?_)
     ·skip
      refine W.seq ?_
      refine W.region ?_
      refine S.pure tOk zOk rfl rfl rfl ?_
      refine S.store tOk rfl rfl rfl rfl rfl rfl rfl rfl ?_
      refine S.pure tOk zOk rfl rfl rfl ?_
      refine thenK_n ?_
      refine W.ret ?_
      refine thenK_r ?_
      refine blockK_r ?_
      refine thenK_r ?_
      refine thenK_r ?_
      refine blockK_r ?_
      refine thenK_r ?_
      exact ⟨_, rfl, rfl, LeV.of_force rfl (congrArg (fun x : Rul × Int => V.tup [V.agg [.d (.int .i64 x.1.kd), .d (.str x.1.k), .d (.str x.1.tu), .d (.str x.1.old), .d (.str x.1.nu)], V.one (C.d (D.int .i64 x.2))]) (hm.trans ((if_pos c4).trans (if_pos c5)))).symm⟩
     ·skip
      refine W.skip ?_
      refine thenK_n ?_
      refine W.seq ?_
      refine W.seq ?_
      refine W.region ?_
      refine S.pure tOk zOk rfl rfl rfl ?_
      refine S.call rfl rfl rfl rfl rfl (pc_RuleError ⟨(i : Int), (Lib.cut (Lib.cut s [32]).2.1 [32]).1, (Lib.cut (Lib.cut (Lib.cut s [32]).2.1 [32]).2.1 [32]).1, (takeP (usOld (i : Int)) true false [] (Lib.cut (Lib.cut (Lib.cut s [32]).2.1 [32]).2.1 [32]).2.1).1, (takeP (usNew (i : Int)) (takeP (usOld (i : Int)) true false [] (Lib.cut (Lib.cut (Lib.cut s [32]).2.1 [32]).2.1 [32]).2.1).2.2 true [] (takeP (usOld (i : Int)) true false [] (Lib.cut (Lib.cut (Lib.cut s [32]).2.1 [32]).2.1 [32]).2.1).2.1).1⟩ ⟨by show (Lib.cut (Lib.cut s [32]).2.1 [32]).1.length ≤ _; omega, by show ((Lib.cut (Lib.cut (Lib.cut s [32]).2.1 [32]).2.1 [32]).1 : L8).length ≤ _; omega, by show (takeP (usOld (i : Int)) true false [] (Lib.cut (Lib.cut (Lib.cut s [32]).2.1 [32]).2.1 [32]).2.1).1.length ≤ _; omega, by show (takeP (usNew (i : Int)) (takeP (usOld (i : Int)) true false [] (Lib.cut (Lib.cut (Lib.cut s [32]).2.1 [32]).2.1 [32]).2.1).2.2 true [] (takeP (usOld (i : Int)) true false [] (Lib.cut (Lib.cut (Lib.cut s [32]).2.1 [32]).2.1 [32]).2.1).2.1).1.length ≤ _; omega⟩) ?_
      refine S.pure tOk zOk rfl rfl rfl ?_
      refine thenK_n ?_
      refine W.seq ?_
      refine W.region ?_
      refine S.pure tOk zOk rfl rfl rfl ?_
      refine S.pure tOk zOk rfl rfl rfl ?_
      refine thenK_n ?_
      refine W.cond rfl (fun c6 => ?_) (fun c6 => ?_)
      ·skip
       refine W.seq ?_
       refine W.region ?_
       refine S.pure tOk zOk rfl rfl rfl ?_
       refine S.pure tOk zOk rfl rfl rfl ?_
       refine S.store tOk rfl rfl rfl rfl rfl rfl rfl rfl ?_
       refine S.pure tOk zOk rfl rfl rfl ?_
       refine thenK_n ?_
       refine W.ret ?_
       refine thenK_r ?_
       refine blockK_r ?_
       refine thenK_r ?_
       refine thenK_r ?_
       refine blockK_r ?_
       refine thenK_r ?_
       exact ⟨_, rfl, rfl, LeV.of_force rfl (congrArg (fun x : Rul × Int => V.tup [V.agg [.d (.int .i64 x.1.kd), .d (.str x.1.k), .d (.str x.1.tu), .d (.str x.1.old), .d (.str x.1.nu)], V.one (C.d (D.int .i64 x.2))]) (hm.trans ((if_pos c4).trans ((if_neg (Bool.eq_false_iff.1 c5)).trans (if_pos c6))))).symm⟩
      ·skip
       refine W.skip ?_
       refine thenK_n ?_
       refine W.seq ?_
       refine W.region ?_
       refine S.pure tOk zOk rfl rfl rfl ?_
       refine S.store tOk rfl rfl rfl rfl rfl rfl rfl rfl ?_
       refine S.pure tOk zOk rfl rfl rfl ?_
       refine thenK_n ?_
       refine W.ret ?_
       refine blockK_r ?_
       refine thenK_r ?_
       refine thenK_r ?_
       refine blockK_r ?_
       refine thenK_r ?_
       exact ⟨_, rfl, rfl, LeV.of_force rfl (congrArg (fun x : Rul × Int => V.tup [V.agg [.d (.int .i64 x.1.kd), .d (.str x.1.k), .d (.str x.1.tu), .d (.str x.1.old), .d (.str x.1.nu)], V.one (C.d (D.int .i64 x.2))]) (hm.trans ((if_pos c4).trans ((if_neg (Bool.eq_false_iff.1 c5)).trans (if_neg (Bool.eq_false_iff.1 c6)))))).symm⟩
    ·skip
     have hta := tk_le (usOld (i : Int)) true false [] (Lib.cut (Lib.cut s [32]).2.1 [32]).2.1
     have htb := tk_le (usNew (i : Int)) (takeP (usOld (i : Int)) true false [] (Lib.cut (Lib.cut s [32]).2.1 [32]).2.1).2.2 true [] (takeP (usOld (i : Int)) true false [] (Lib.cut (Lib.cut s [32]).2.1 [32]).2.1).2.1
     simp only [List.length_nil, Nat.zero_max] at hta htb
     refine W.skip ?_
     refine thenK_n ?_
     refine W.seq ?_
     refine W.region ?_
     refine S.makeFunc rfl rfl rfl ?_
     refine S.pure tOk zOk rfl rfl rfl ?_
     refine thenK_n ?_
     refine W.seq ?_
     refine W.region ?_
     refine S.pure tOk zOk rfl rfl rfl ?_
     refine S.pure tOk zOk rfl rfl rfl ?_
     refine S.pure tOk zOk rfl rfl rfl ?_
     refine S.hcallD rfl rfl rfl rfl ((pc_take1 (i : Int) (Lib.cut (Lib.cut s [32]).2.1 [32]).1 [] [] [] (Lib.cut (Lib.cut s [32]).2.1 [32]).2.1 (usOld (i : Int)) true (by omega)).frameD [2, 1, 3] [] [] rfl rfl rfl rfl rfl rfl rfl rfl rfl) ?_
     refine thenK_n ?_
     refine W.seq ?_
     refine W.region ?_
     refine S.pure tOk zOk rfl rfl rfl ?_
     refine S.pure tOk zOk rfl rfl rfl ?_
     refine S.pure tOk zOk rfl rfl rfl ?_
     refine S.hcallD rfl rfl rfl rfl ((pc_take2 (i : Int) (Lib.cut (Lib.cut s [32]).2.1 [32]).1 [] (takeP (usOld (i : Int)) true false [] (Lib.cut (Lib.cut s [32]).2.1 [32]).2.1).1 [] (takeP (usOld (i : Int)) true false [] (Lib.cut (Lib.cut s [32]).2.1 [32]).2.1).2.1 (usNew (i : Int)) (takeP (usOld (i : Int)) true false [] (Lib.cut (Lib.cut s [32]).2.1 [32]).2.1).2.2 (by omega)).frameD [2, 1, 3] [] [] rfl rfl rfl rfl rfl rfl rfl rfl rfl) ?_
     refine thenK_n ?_
     refine W.seq ?_
     refine W.seq ?_
     refine W.region ?_
     refine S.pure tOk zOk rfl rfl rfl ?_
     refine S.pure tOk zOk rfl rfl rfl ?_
     refine S.pure tOk zOk rfl rfl rfl ?_
     refine S.pureG tOk zOk rfl rfl tg (fun _ => rfl) rfl ?_
     refine S.pureG tOk zOk rfl rfl tg (fun _ => rfl) rfl ?_
     refine S.pickOr tOk zOk rfl rfl tg ?_
     refine S.pure tOk zOk rfl rfl rfl ?_
     refine S.pureG tOk zOk rfl rfl tg (fun _ => rfl) rfl ?_
     refine S.pureG tOk zOk rfl rfl tg (fun _ => rfl) rfl ?_
     refine S.pureG tOk zOk rfl rfl tg (fun _ => rfl) rfl ?_
     refine S.pickOr tOk zOk rfl rfl tg ?_
     refine S.pure tOk zOk rfl rfl rfl ?_
     refine S.pureG tOk zOk rfl rfl tg (fun _ => rfl) rfl ?_
     refine S.pureG tOk zOk rfl rfl tg (fun _ => rfl) rfl ?_
     refine S.pureG tOk zOk rfl rfl tg (fun _ => rfl) rfl ?_
     refine S.pureG tOk zOk rfl rfl tg (fun _ => rfl) rfl ?_
     refine S.pureG tOk zOk rfl rfl tg (fun _ => rfl) rfl ?_
     refine S.pickAndG tOk zOk rfl rfl rfl tg tg ?_
     refine S.pickOr tOk zOk rfl rfl tg ?_
     refine S.pure tOk zOk rfl rfl rfl ?_
     refine S.pureG tOk zOk rfl rfl tg (fun _ => rfl) rfl ?_
     refine S.callG rfl rfl rfl rfl tg rfl rfl (fun _ => pc_RuleText ⟨(i : Int), (Lib.cut (Lib.cut s [32]).2.1 [32]).1, [], (takeP (usOld (i : Int)) true false [] (Lib.cut (Lib.cut s [32]).2.1 [32]).2.1).1, (takeP (usNew (i : Int)) (takeP (usOld (i : Int)) true false [] (Lib.cut (Lib.cut s [32]).2.1 [32]).2.1).2.2 true [] (takeP (usOld (i : Int)) true false [] (Lib.cut (Lib.cut s [32]).2.1 [32]).2.1).2.1).1⟩ ⟨by show (Lib.cut (Lib.cut s [32]).2.1 [32]).1.length ≤ _; omega, by show ([] : L8).length ≤ _; exact Nat.zero_le _, by show (takeP (usOld (i : Int)) true false [] (Lib.cut (Lib.cut s [32]).2.1 [32]).2.1).1.length ≤ _; omega, by show (takeP (usNew (i : Int)) (takeP (usOld (i : Int)) true false [] (Lib.cut (Lib.cut s [32]).2.1 [32]).2.1).2.2 true [] (takeP (usOld (i : Int)) true false [] (Lib.cut (Lib.cut s [32]).2.1 [32]).2.1).2.1).1.length ≤ _; omega⟩) ?_
     refine S.pureG tOk zOk rfl rfl tg (fun _ => rfl) rfl ?_
     refine S.pureG tOk zOk rfl rfl tg (fun _ => rfl) rfl ?_
     refine S.pickOr tOk zOk rfl rfl tg ?_
     refine thenK_n ?_
     refine W.cond rfl (fun c7 => ?_) (fun c7 => ?_)
     ·skip
      refine W.seq ?_
      refine W.region ?_
      refine S.pure tOk zOk rfl rfl rfl ?_
      refine S.store tOk rfl rfl rfl rfl rfl rfl rfl rfl ?_
      refine S.pure tOk zOk rfl rfl rfl ?_
      refine thenK_n ?_
      refine W.ret ?_
      refine thenK_r ?_
      refine blockK_r ?_
      refine thenK_r ?_
      refine thenK_r ?_
      refine blockK_r ?_
      refine thenK_r ?_
      exact ⟨_, rfl, rfl, LeV.of_force rfl (congrArg (fun x : Rul × Int => V.tup [V.agg [.d (.int .i64 x.1.kd), .d (.str x.1.k), .d (.str x.1.tu), .d (.str x.1.old), .d (.str x.1.nu)], V.one (C.d (D.int .i64 x.2))]) (hm.trans ((if_neg (Bool.eq_false_iff.1 c4)).trans (if_pos c7)))).symm⟩
     ·skip
      refine W.skip ?_
      refine thenK_n ?_
      refine W.seq ?_
      refine W.seq ?_
      refine W.region ?_
      refine S.pure tOk zOk rfl rfl rfl ?_
      refine S.call rfl rfl rfl rfl rfl (pc_RuleError ⟨(i : Int), (Lib.cut (Lib.cut s [32]).2.1 [32]).1, [], (takeP (usOld (i : Int)) true false [] (Lib.cut (Lib.cut s [32]).2.1 [32]).2.1).1, (takeP (usNew (i : Int)) (takeP (usOld (i : Int)) true false [] (Lib.cut (Lib.cut s [32]).2.1 [32]).2.1).2.2 true [] (takeP (usOld (i : Int)) true false [] (Lib.cut (Lib.cut s [32]).2.1 [32]).2.1).2.1).1⟩ ⟨by show (Lib.cut (Lib.cut s [32]).2.1 [32]).1.length ≤ _; omega, by show ([] : L8).length ≤ _; exact Nat.zero_le _, by show (takeP (usOld (i : Int)) true false [] (Lib.cut (Lib.cut s [32]).2.1 [32]).2.1).1.length ≤ _; omega, by show (takeP (usNew (i : Int)) (takeP (usOld (i : Int)) true false [] (Lib.cut (Lib.cut s [32]).2.1 [32]).2.1).2.2 true [] (takeP (usOld (i : Int)) true false [] (Lib.cut (Lib.cut s [32]).2.1 [32]).2.1).2.1).1.length ≤ _; omega⟩) ?_
      refine S.pure tOk zOk rfl rfl rfl ?_
      refine thenK_n ?_
      refine W.seq ?_
      refine W.region ?_
      refine S.pure tOk zOk rfl rfl rfl ?_
      refine S.pure tOk zOk rfl rfl rfl ?_
      refine thenK_n ?_
      refine W.cond rfl (fun c8 => ?_) (fun c8 => ?_)
      ·skip
       refine W.seq ?_
       refine W.region ?_
       refine S.pure tOk zOk rfl rfl rfl ?_
       refine S.pure tOk zOk rfl rfl rfl ?_
       refine S.store tOk rfl rfl rfl rfl rfl rfl rfl rfl ?_
       refine S.pure tOk zOk rfl rfl rfl ?_
       refine thenK_n ?_
       refine W.ret ?_
       refine thenK_r ?_
       refine blockK_r ?_
       refine thenK_r ?_
       refine thenK_r ?_
       refine blockK_r ?_
       refine thenK_r ?_
       exact ⟨_, rfl, rfl, LeV.of_force rfl (congrArg (fun x : Rul × Int => V.tup [V.agg [.d (.int .i64 x.1.kd), .d (.str x.1.k), .d (.str x.1.tu), .d (.str x.1.old), .d (.str x.1.nu)], V.one (C.d (D.int .i64 x.2))]) (hm.trans ((if_neg (Bool.eq_false_iff.1 c4)).trans ((if_neg (Bool.eq_false_iff.1 c7)).trans (if_pos c8))))).symm⟩
      ·skip
       refine W.skip ?_
       refine thenK_n ?_
       refine W.seq ?_
       refine W.region ?_
       refine S.pure tOk zOk rfl rfl rfl ?_
       refine S.store tOk rfl rfl rfl rfl rfl rfl rfl rfl ?_
       refine S.pure tOk zOk rfl rfl rfl ?_
       refine thenK_n ?_
       refine W.ret ?_
       refine blockK_r ?_
       refine thenK_r ?_
       refine thenK_r ?_
       refine blockK_r ?_
       refine thenK_r ?_
       exact ⟨_, rfl, rfl, LeV.of_force rfl (congrArg (fun x : Rul × Int => V.tup [V.agg [.d (.int .i64 x.1.kd), .d (.str x.1.k), .d (.str x.1.tu), .d (.str x.1.old), .d (.str x.1.nu)], V.one (C.d (D.int .i64 x.2))]) (hm.trans ((if_neg (Bool.eq_false_iff.1 c4)).trans ((if_neg (Bool.eq_false_iff.1 c7)).trans (if_neg (Bool.eq_false_iff.1 c8)))))).symm⟩
  ·skip
   have hi : 9 ≤ i := by simp at c2; omega
   obtain rfl : i = 9 := by omega
   refine W.exit ?_
   refine thenK_e ?_
   refine thenK_e ?_
   refine blockK_x ?_
   refine thenK_n ?_
   refine W.seq ?_
   refine W.region ?_
   refine S.pure tOk zOk rfl rfl rfl ?_
   refine S.store tOk rfl rfl rfl rfl rfl rfl rfl rfl ?_
   refine S.pure tOk zOk rfl rfl rfl ?_
   refine thenK_n ?_
   refine W.ret ?_
   exact ⟨_, rfl, rfl, LeV.of_force rfl (by rw [rd_none c1 f0_2]; rfl)⟩
end Go.Proofs.YtgknfikdajoiaaaGreatDoor
namespace Go.Proofs.YtgknfikdajoiaaaGreatDoor
open Go
structure ShOk (r : Rul) : Prop where
  lo : 1 ≤ r.kd
  hi : r.kd ≤ 8
  k0 : r.k ≠ []
  k : (32 : UInt8) ∉ r.k
  tu : usTu r.kd = true → r.tu ≠ [] ∧ (32 : UInt8) ∉ r.tu
  tu0 : usTu r.kd = false → r.tu = []
  old0 : usOld r.kd = false → r.old = []
  nu0 : usNew r.kd = false → r.nu = []
def chk (r : Rul) : Rul × Int := if ruleC r != 0 then (Rul.z, ruleC r) else (r, 0)
theorem idxA {w t : L8} (h : (32 : UInt8) ∉ w) : Lib.index (w ++ 32 :: t) [32] = (w.length : Int) := by
  induction w with
  | nil =>
    show (if ([32] : L8).isPrefixOf (32 :: t) then (0 : Int) else _) = _
    simp [List.isPrefixOf]
  | cons c w ih =>
    have hc : c ≠ 32 := fun e => h (by rw [e]; simp)
    have ih := ih (fun hm => h (List.mem_cons_of_mem _ hm))
    have hp : ([32] : L8).isPrefixOf (c :: (w ++ 32 :: t)) = false := by
      simp only [List.isPrefixOf, Bool.and_true]
      simpa using fun e => hc e.symm
    show (if ([32] : L8).isPrefixOf (c :: (w ++ 32 :: t)) then (0 : Int) else if Lib.index (w ++ 32 :: t) [32] == -1 then -1 else Lib.index (w ++ 32 :: t) [32] + 1) = _
    rw [hp, ih]
    simp
theorem idxN {w : L8} (h : (32 : UInt8) ∉ w) : Lib.index w [32] = -1 := by
  induction w with
  | nil => rfl
  | cons c w ih =>
    have hc : c ≠ 32 := fun e => h (by rw [e]; simp)
    have ih := ih (fun hm => h (List.mem_cons_of_mem _ hm))
    have hp : ([32] : L8).isPrefixOf (c :: w) = false := by
      simp only [List.isPrefixOf, Bool.and_true]
      simpa using fun e => hc e.symm
    show (if ([32] : L8).isPrefixOf (c :: w) then (0 : Int) else if Lib.index w [32] == -1 then -1 else Lib.index w [32] + 1) = _
    rw [hp, ih]; rfl
theorem cutA {w t : L8} (h : (32 : UInt8) ∉ w) : Lib.cut (w ++ 32 :: t) [32] = (w, t, true) := by
  unfold Lib.cut
  rw [idxA h, if_pos (by omega), Int.toNat_natCast]
  simp
theorem cutN {w : L8} (h : (32 : UInt8) ∉ w) : Lib.cut w [32] = (w, [], false) := by
  unfold Lib.cut
  rw [idxN h, if_neg (by decide)]
theorem cutC (s : L8) : ((32 : UInt8) ∉ s ∧ Lib.cut s [32] = (s, [], false)) ∨ ∃ w t, (32 : UInt8) ∉ w ∧ s = w ++ 32 :: t ∧ Lib.cut s [32] = (w, t, true) := by
  induction s with
  | nil => exact .inl ⟨by simp, cutN (by simp)⟩
  | cons c s ih =>
    by_cases hc : c = 32
    · subst hc
      exact .inr ⟨[], s, by simp, rfl, cutA (w := []) (by simp)⟩
    · rcases ih with ⟨h1, _⟩ | ⟨w, t, h1, h2, _⟩
      · have : (32 : UInt8) ∉ c :: s := by simp [h1]; exact fun e => hc e.symm
        exact .inl ⟨this, cutN this⟩
      · have : (32 : UInt8) ∉ c :: w := by simp [h1]; exact fun e => hc e.symm
        exact .inr ⟨c :: w, t, this, by rw [h2]; rfl, by rw [h2]; exact cutA this⟩
theorem cutOne (s : L8) : (32 : UInt8) ∉ (Lib.cut s [32]).1 := by
  rcases cutC s with ⟨h1, h2⟩ | ⟨w, t, h1, _, h2⟩ <;> rw [h2] <;> exact h1
theorem us_cases {x : Int} (h1 : 1 ≤ x) (h2 : x ≤ 8) : (usTu x = true ∧ usOld x = false ∧ usNew x = false) ∨ (usTu x = false ∧ usOld x = false ∧ usNew x = true) ∨ (usTu x = false ∧ usOld x = false ∧ usNew x = false) ∨ (usTu x = false ∧ usOld x = true ∧ usNew x = true) := by
  have : x = 1 ∨ x = 2 ∨ x = 3 ∨ x = 4 ∨ x = 5 ∨ x = 6 ∨ x = 7 ∨ x = 8 := by omega
  rcases this with h | h | h | h | h | h | h | h <;> subst h <;> decide
theorem word_ok {x : Int} (h1 : 1 ≤ x) (h2 : x ≤ 8) : (32 : UInt8) ∉ ruleW x ∧ idxOf (fun y => ruleW x == y) ruleWs = x := by
  have : x = 1 ∨ x = 2 ∨ x = 3 ∨ x = 4 ∨ x = 5 ∨ x = 6 ∨ x = 7 ∨ x = 8 := by omega
  rcases this with h | h | h | h | h | h | h | h <;> subst h <;> exact ⟨by decide, by decide⟩
theorem quo_q (s rest : L8) : quoP (quoB s ++ rest) = (s, rest, true) := by
  have := quoP_quo s rest
  rwa [show quoB s = 34 :: (escB s ++ [34]) by simp [quoB]]
theorem quo_0 (s : L8) : quoP (quoB s) = (s, [], true) := by have := quo_q s []; rwa [List.append_nil] at this
def tailT (r : Rul) : L8 := (if usTu r.kd then 32 :: r.tu else []) ++ ((if usOld r.kd then 32 :: quoB r.old else []) ++ (if usNew r.kd then 32 :: quoB r.nu else []))
theorem ruleT_eq (r : Rul) : ruleT r = ruleW r.kd ++ 32 :: (r.k ++ tailT r) := by
  unfold ruleT rt2 rt1 tailT
  cases usTu r.kd <;> cases usOld r.kd <;> cases usNew r.kd <;> simp
theorem par_word {r : Rul} (h : ShOk r) (hl : (ruleT r).length ≤ 4000) : parR (ruleT r) = parK r.kd (r.k ++ tailT r) ∧ rdR (ruleT r) = rdK r.kd (r.k ++ tailT r) (ruleT r) := by
  obtain ⟨hw, hi⟩ := word_ok h.lo h.hi
  have hlo := h.lo
  have hc : Lib.cut (ruleT r) [32] = (ruleW r.kd, r.k ++ tailT r, true) := by rw [ruleT_eq]; exact cutA hw
  constructor
  · unfold parR
    rw [if_neg (by simp; omega), hc]
    show (if (!true || decide (idxOf (fun y => ruleW r.kd == y) ruleWs < 1)) then _ else parK (idxOf (fun y => ruleW r.kd == y) ruleWs) (r.k ++ tailT r)) = _
    rw [hi, if_neg (by simp; omega)]
  · unfold rdR
    rw [if_neg (by simp; omega), hc]
    show (if decide (idxOf (fun y => ruleW r.kd == y) ruleWs < 1) then _ else rdK (idxOf (fun y => ruleW r.kd == y) ruleWs) (r.k ++ tailT r) (ruleT r)) = _
    rw [hi, if_neg (by simp; omega)]
theorem prEnd_nil (r : Rul) : prEnd r [] = chk r := by unfold prEnd chk; rfl
theorem contains_no {s : L8} (h : (32 : UInt8) ∉ s) : Lib.contains s [32] = false := by
  unfold Lib.contains
  rw [idxN h]; rfl
theorem k_beq {k : L8} (h : k ≠ []) : (k == []) = false := by simpa using h
theorem par_print {r : Rul} (h : ShOk r) (hl : (ruleT r).length ≤ 4000) : parR (ruleT r) = chk r := by
  rw [(par_word h hl).1]
  obtain ⟨kd, k, tu, old, nu⟩ := r
  have hk0 := k_beq h.k0
  have hk := h.k
  unfold parK tailT
  rcases us_cases h.lo h.hi with ⟨a, b, c⟩ | ⟨a, b, c⟩ | ⟨a, b, c⟩ | ⟨a, b, c⟩
  · obtain ⟨t1, t2⟩ := h.tu a
    have o0 := h.old0 b
    have n0 := h.nu0 c
    simp only at a b c t1 t2 o0 n0 hk hk0
    subst o0; subst n0
    simp only [a, b, c, if_true, Bool.false_eq_true, if_false, List.append_nil]
    rw [cutA hk]
    simp only [hk0, Bool.or_false, Bool.false_or, bne_self_eq_false, Bool.false_eq_true, if_false]
    unfold prTo
    simp only [a, if_true]
    rw [if_neg (by rw [k_beq t1, contains_no t2]; simp)]
    unfold prOld
    simp only [b, Bool.false_eq_true, if_false]
    unfold prNew
    simp only [c, Bool.false_eq_true, if_false]
    exact prEnd_nil _
  · have t0 := h.tu0 a
    have o0 := h.old0 b
    simp only at a b c t0 o0 hk hk0
    subst o0; subst t0
    simp only [a, b, c, if_true, Bool.false_eq_true, if_false, List.nil_append]
    rw [cutA hk]
    simp only [hk0, Bool.or_true, Bool.false_or, bne_self_eq_false, Bool.false_eq_true, if_false]
    unfold prTo
    simp only [a, Bool.false_eq_true, if_false]
    unfold prOld
    simp only [b, Bool.false_eq_true, if_false]
    unfold prNew
    simp only [c, if_true, quo_0, Bool.not_true, Bool.false_eq_true, if_false]
    exact prEnd_nil _
  · have t0 := h.tu0 a
    have o0 := h.old0 b
    have n0 := h.nu0 c
    simp only at a b c t0 o0 n0 hk hk0
    subst o0; subst t0; subst n0
    simp only [a, b, c, Bool.false_eq_true, if_false, List.append_nil]
    rw [cutN hk]
    simp only [hk0, Bool.or_false, Bool.false_or, bne_self_eq_false, Bool.false_eq_true, if_false]
    unfold prTo
    simp only [a, Bool.false_eq_true, if_false]
    unfold prOld
    simp only [b, Bool.false_eq_true, if_false]
    unfold prNew
    simp only [c, Bool.false_eq_true, if_false]
    exact prEnd_nil _
  · have t0 := h.tu0 a
    simp only at a b c t0 hk hk0
    subst t0
    simp only [a, b, c, if_true, Bool.false_eq_true, if_false, List.nil_append, List.cons_append]
    rw [cutA hk]
    simp only [hk0, Bool.or_true, Bool.false_or, bne_self_eq_false, Bool.false_eq_true, if_false]
    unfold prTo
    simp only [a, Bool.false_eq_true, if_false]
    unfold prOld
    have hp : Lib.hasPrefix (32 :: quoB nu) [32] = true := hasPrefix_iff.2 ⟨quoB nu, rfl⟩
    simp only [b, if_true, quo_q, hp, Bool.not_true, Bool.or_false, Bool.false_eq_true, if_false, List.drop_succ_cons, List.drop_zero]
    unfold prNew
    simp only [c, if_true, quo_0, Bool.not_true, Bool.false_eq_true, if_false]
    exact prEnd_nil _
theorem qAt_q (s rest : L8) : qAt (quoB s ++ rest) 0 = some (s, (quoB s).length) := by
  have := qAt_quo s rest
  have e : quoB s = 34 :: (escB s ++ [34]) := by simp [quoB]
  rw [e, this]; simp
theorem take_f (right last : Bool) (rest : L8) : takeP false right last [] rest = ([], rest, right) := tk_a rfl
theorem take_q (s : L8) : takeP true true true [] (quoB s) = (s, [], true) := by
  have hq := qAt_q s []
  rw [List.append_nil] at hq
  have hp : Lib.hasPrefix (quoB s) [34] = true := hasPrefix_iff.2 ⟨escB s ++ [34], by simp [quoB]⟩
  rw [tk_c rfl (by rw [hq, hp]; rfl), hq]
  show (s, (quoB s).drop (quoB s).length, true) = _
  rw [List.drop_length]
theorem take_q2 (s t : L8) : takeP true true false [] (quoB s ++ 32 :: t) = (s, t, true) := by
  have hq := qAt_q s (32 :: t)
  have hp : Lib.hasPrefix (quoB s ++ 32 :: t) [34] = true := hasPrefix_iff.2 ⟨escB s ++ [34] ++ 32 :: t, by simp [quoB]⟩
  have hd : (quoB s ++ 32 :: t).drop (quoB s).length = 32 :: t := by simp
  have hp2 : Lib.hasPrefix (32 :: t) [32] = true := hasPrefix_iff.2 ⟨t, rfl⟩
  rw [tk_c rfl (by rw [hq, hp]; show (_ || (!false && !Lib.hasPrefix ((quoB s ++ 32 :: t).drop (quoB s).length) [32])) = false; rw [hd, hp2]; rfl), hq]
  show (s, ((quoB s ++ 32 :: t).drop (quoB s).length).drop 1, true) = _
  rw [hd]; rfl
theorem rdE_ok {kd : Int} {k tu rest s old nu : L8} (ha : takeP (usOld kd) true false [] rest = (old, (takeP (usOld kd) true false [] rest).2.1, true)) (hb : takeP (usNew kd) true true [] (takeP (usOld kd) true false [] rest).2.1 = (nu, [], true)) (hk : k ≠ []) (ht : usTu kd = true → tu ≠ []) (hs : s = ruleT ⟨kd, k, tu, old, nu⟩) : rdE kd k tu rest s = chk ⟨kd, k, tu, old, nu⟩ := by
  have e1 : (takeP (usOld kd) true false [] rest).1 = old := by rw [ha]
  have e2 : (takeP (usOld kd) true false [] rest).2.2 = true := by rw [ha]
  unfold rdE chk
  rw [e1, e2, hb]
  have ht' : (usTu kd && tu == []) = false := by
    cases hu : usTu kd with
    | false => rfl
    | true => rw [k_beq (ht hu)]; rfl
  rw [k_beq hk, ht', ← hs]
  simp
theorem rd_print {r : Rul} (h : ShOk r) (hl : (ruleT r).length ≤ 4000) : rdR (ruleT r) = chk r := by
  rw [(par_word h hl).2]
  obtain ⟨kd, k, tu, old, nu⟩ := r
  have hk := h.k
  unfold rdK tailT
  rcases us_cases h.lo h.hi with ⟨a, b, c⟩ | ⟨a, b, c⟩ | ⟨a, b, c⟩ | ⟨a, b, c⟩
  · obtain ⟨t1, t2⟩ := h.tu a
    have o0 := h.old0 b
    have n0 := h.nu0 c
    simp only at a b c t1 t2 o0 n0 hk
    subst o0; subst n0
    simp only [a, b, c, if_true, Bool.false_eq_true, if_false, List.append_nil]
    rw [cutA hk]
    show rdE kd k (Lib.cut tu [32]).1 (Lib.cut tu [32]).2.1 _ = _
    rw [cutN t2]
    exact rdE_ok (by rw [b, take_f]) (by rw [b, c, take_f, take_f]) h.k0 (fun _ => t1) rfl
  · have t0 := h.tu0 a
    have o0 := h.old0 b
    simp only at a b c t0 o0 hk
    subst o0; subst t0
    simp only [a, b, c, if_true, Bool.false_eq_true, if_false, List.nil_append]
    rw [cutA hk]
    exact rdE_ok (by rw [b, take_f]) (by rw [b, c, take_f, take_q]) h.k0 (fun hu => by rw [a] at hu; cases hu) rfl
  · have t0 := h.tu0 a
    have o0 := h.old0 b
    have n0 := h.nu0 c
    simp only at a b c t0 o0 n0 hk
    subst o0; subst t0; subst n0
    simp only [a, b, c, Bool.false_eq_true, if_false, List.append_nil]
    rw [cutN hk]
    exact rdE_ok (by rw [b, take_f]) (by rw [b, c, take_f, take_f]) h.k0 (fun hu => by rw [a] at hu; cases hu) rfl
  · have t0 := h.tu0 a
    simp only at a b c t0 hk
    subst t0
    simp only [a, b, c, if_true, Bool.false_eq_true, if_false, List.nil_append, List.cons_append]
    rw [cutA hk]
    exact rdE_ok (by rw [b, take_q2]) (by rw [b, c, take_q2, take_q]) h.k0 (fun hu => by rw [a] at hu; cases hu) rfl
end Go.Proofs.YtgknfikdajoiaaaGreatDoor
namespace Go.Proofs.YtgknfikdajoiaaaGreatDoor
open Go
theorem ixLt {α : Type} (φ : α → Bool) : ∀ l : List α, idxOf φ l < (l.length : Int) ∧ (0 ≤ idxOf φ l → ∃ i x, idxOf φ l = ((i : Nat) : Int) ∧ l[i]? = some x ∧ φ x = true)
  | [] => ⟨by show (-1 : Int) < _; simp, fun h => by have : (0 : Int) ≤ -1 := h; omega⟩
  | x :: l => by
    obtain ⟨h1, h2⟩ := ixLt φ l
    have hge : idxOf φ (x :: l) = if φ x then 0 else if idxOf φ l == -1 then -1 else idxOf φ l + 1 := rfl
    cases hx : φ x with
    | true => rw [hge, hx, if_pos rfl]; exact ⟨by rw [List.length_cons]; omega, fun _ => ⟨0, x, rfl, rfl, hx⟩⟩
    | false =>
      rw [hge, hx, if_neg (by simp)]
      cases hm : (idxOf φ l == -1) with
      | true => rw [if_pos rfl]; exact ⟨by simp; omega, fun h => absurd h (by decide)⟩
      | false =>
        rw [if_neg (by simp)]
        refine ⟨by simp; omega, fun h => ?_⟩
        have hne : idxOf φ l ≠ -1 := by simpa using hm
        obtain ⟨i, y, e1, e2, e3⟩ := h2 (by omega)
        exact ⟨i + 1, y, by rw [e1]; rfl, by simpa using e2, e3⟩
theorem ix_kind {w : L8} (h : ¬ idxOf (fun y => w == y) ruleWs < 1) : 1 ≤ idxOf (fun y => w == y) ruleWs ∧ idxOf (fun y => w == y) ruleWs ≤ 8 ∧ w = ruleW (idxOf (fun y => w == y) ruleWs) := by
  obtain ⟨h1, h2⟩ := ixLt (fun y => w == y) ruleWs
  have h9 : (ruleWs.length : Int) = 9 := rfl
  obtain ⟨i, x, e1, e2, e3⟩ := h2 (by omega)
  have hi : i = 1 ∨ i = 2 ∨ i = 3 ∨ i = 4 ∨ i = 5 ∨ i = 6 ∨ i = 7 ∨ i = 8 := by omega
  have hw : w = x := by simpa using e3
  refine ⟨by omega, by omega, ?_⟩
  rw [e1, hw]
  rcases hi with h | h | h | h | h | h | h | h <;> subst h <;> (have e2 : some _ = some x := e2) <;> (obtain rfl := Option.some.inj e2) <;> decide
theorem or5 {a b c d e : Bool} (h : ((((a || b) || c) || d) || e) = false) : a = false ∧ b = false ∧ c = false ∧ d = false ∧ e = false := by
  cases a <;> cases b <;> cases c <;> cases d <;> cases e <;> simp_all
theorem take_cur {right last : Bool} {rest : L8} : (takeP false right last [] rest).1 = [] := by rw [take_f]
theorem rdE_sound {kd : Int} {k tu rest s : L8} (h1 : 1 ≤ kd) (h2 : kd ≤ 8) (hk : (32 : UInt8) ∉ k) (ht : usTu kd = true → (32 : UInt8) ∉ tu) (ht0 : usTu kd = false → tu = []) : rdE kd k tu rest s = (Rul.z, 8) ∨ ∃ r, ShOk r ∧ s = ruleT r := by
  unfold rdE
  split
  · exact .inl rfl
  · rename_i c
    obtain ⟨_, _, c3, c4, c5⟩ := or5 (Bool.eq_false_iff.2 c)
    refine .inr ⟨_, ⟨h1, h2, ?_, hk, fun hu => ⟨?_, ht hu⟩, ht0, fun ho => ?_, fun hn => ?_⟩, (by simpa using c5 : ruleT _ = s).symm⟩
    · show k ≠ []
      simpa using c3
    · have hu : usTu kd = true := hu
      rw [hu] at c4
      simpa using c4
    · have ho : usOld kd = false := ho
      show (takeP (usOld kd) true false [] rest).1 = []
      rw [ho]; exact take_cur
    · have hn : usNew kd = false := hn
      show (takeP (usNew kd) _ true [] _).1 = []
      rw [hn]; exact take_cur
theorem rd_sound {s : L8} (hl : decide ((s.length : Int) > 4000) = false) : rdR s = (Rul.z, 8) ∨ ∃ r, ShOk r ∧ s = ruleT r := by
  unfold rdR
  rw [if_neg (by rw [hl]; simp)]
  split
  · exact .inl rfl
  · rename_i c
    obtain ⟨h1, h2, _⟩ := ix_kind (by simpa using c)
    unfold rdK
    split
    · rename_i hu
      exact rdE_sound h1 h2 (cutOne _) (fun _ => cutOne _) (fun h => by rw [hu] at h; cases h)
    · rename_i hu
      exact rdE_sound h1 h2 (cutOne _) (fun h => absurd h hu) (fun _ => rfl)
theorem contains_of {s : L8} (h : Lib.contains s [32] = false) : (32 : UInt8) ∉ s := by
  rcases cutC s with ⟨h1, _⟩ | ⟨w, t, h1, h2, _⟩
  · exact h1
  · exfalso
    unfold Lib.contains at h
    rw [h2, idxA h1] at h
    simp at h
theorem quoP_sound {u : L8} (h : (quoP u).2.2 = true) : u = quoB (quoP u).1 ++ (quoP u).2.1 := by
  by_cases c : (u == [] || (bI (u.getD 0 0) != 34)) = true
  · rw [quo_1 c] at h; cases h
  · have c := Bool.eq_false_iff.2 c
    cases hq : qAt u 0 with
    | none => rw [quo_3 c hq] at h; cases h
    | some q =>
      obtain ⟨x, e⟩ := q
      rw [quo_2 c hq]
      rw [Bool.or_eq_false_iff] at c
      have h0 : u.getD 0 0 = 34 := by
        have h3 : (bI (u.getD 0 0) != 34) = false := c.2
        have h4 : bI (u.getD 0 0) = 34 := by simpa using h3
        unfold bI at h4
        exact UInt8.toNat_inj.1 (by show (u.getD 0 0).toNat = 34; omega)
      have h1 : u ≠ [] := by simpa using c.1
      have := (qAt_sound h0 h1 hq).1
      have e0 : quoB x = 34 :: (escB x ++ [34]) := by simp [quoB]
      rw [e0]; exact this
theorem prNew_sound {r : Rul} {u : L8} (hn : usNew r.kd = true) : prNew r u = (Rul.z, 8) ∨ ∃ nu, u = quoB nu := by
  unfold prNew
  rw [if_pos hn]
  split
  · exact .inl rfl
  · rename_i c
    have hq := quoP_sound (by simpa using c)
    unfold prEnd
    split
    · exact .inl rfl
    · rename_i c2
      have : (quoP u).2.1 = [] := by simpa using c2
      rw [this, List.append_nil] at hq
      exact .inr ⟨_, hq⟩
theorem parK_sound {kd : Int} {t : L8} (h1 : 1 ≤ kd) (h2 : kd ≤ 8) : parK kd t = (Rul.z, 8) ∨ ∃ r, ShOk r ∧ r.kd = kd ∧ t = r.k ++ tailT r := by
  unfold parK
  split
  · exact .inl rfl
  · rename_i c
    have c := Bool.eq_false_iff.2 c
    rw [Bool.or_eq_false_iff] at c
    obtain ⟨c1, c2⟩ := c
    have hk0 : (Lib.cut t [32]).1 ≠ [] := by simpa using c1
    rcases us_cases h1 h2 with ⟨a, b, d⟩ | ⟨a, b, d⟩ | ⟨a, b, d⟩ | ⟨a, b, d⟩
    · rcases cutC t with ⟨g1, g2⟩ | ⟨k, u, g1, g2, g3⟩
      · rw [g2, a] at c2; cases c2
      · rw [g3] at hk0 ⊢
        unfold prTo
        simp only [a, if_true]
        split
        · exact .inl rfl
        · rename_i e
          have e := Bool.eq_false_iff.2 e
          rw [Bool.or_eq_false_iff] at e
          exact .inr ⟨⟨kd, k, u, [], []⟩, ⟨h1, h2, hk0, g1, fun _ => ⟨by simpa using e.1, contains_of e.2⟩, fun h => (by rw [a] at h; cases h), fun _ => rfl, fun _ => rfl⟩, rfl, by rw [g2]; simp [tailT, a, b, d]⟩
    · rcases cutC t with ⟨g1, g2⟩ | ⟨k, u, g1, g2, g3⟩
      · rw [g2, a, b, d] at c2; cases c2
      · rw [g3] at hk0 ⊢
        unfold prTo
        simp only [a, Bool.false_eq_true, if_false]
        unfold prOld
        simp only [b, Bool.false_eq_true, if_false]
        rcases prNew_sound (r := ⟨kd, k, [], [], []⟩) (u := u) d with e | ⟨nu, e⟩
        · exact .inl e
        · exact .inr ⟨⟨kd, k, [], [], nu⟩, ⟨h1, h2, hk0, g1, fun h => (by rw [a] at h; cases h), fun _ => rfl, fun _ => rfl, fun h => (by rw [d] at h; cases h)⟩, rfl, by rw [g2, e]; simp [tailT, a, b, d]⟩
    · rcases cutC t with ⟨g1, g2⟩ | ⟨k, u, g1, g2, g3⟩
      · rw [g2] at hk0
        exact .inr ⟨⟨kd, t, [], [], []⟩, ⟨h1, h2, hk0, g1, fun h => (by rw [a] at h; cases h), fun _ => rfl, fun _ => rfl, fun _ => rfl⟩, rfl, by simp [tailT, a, b, d]⟩
      · rw [g3, a, b, d] at c2; cases c2
    · rcases cutC t with ⟨g1, g2⟩ | ⟨k, u, g1, g2, g3⟩
      · rw [g2, a, b, d] at c2; cases c2
      · rw [g3] at hk0 ⊢
        unfold prTo
        simp only [a, Bool.false_eq_true, if_false]
        unfold prOld
        simp only [b, if_true]
        split
        · exact .inl rfl
        · rename_i e
          have e := Bool.eq_false_iff.2 e
          rw [Bool.or_eq_false_iff] at e
          have hq := quoP_sound (show (quoP u).2.2 = true by simpa using e.1)
          obtain ⟨v, hv⟩ := hasPrefix_iff.1 (show Lib.hasPrefix (quoP u).2.1 [32] = true by simpa using e.2)
          rw [hv]
          rcases prNew_sound (r := ⟨kd, k, [], (quoP u).1, []⟩) (u := v) d with e2 | ⟨nu, e2⟩
          · exact .inl e2
          · refine .inr ⟨⟨kd, k, [], (quoP u).1, nu⟩, ⟨h1, h2, hk0, g1, fun h => (by rw [a] at h; cases h), fun _ => rfl, fun h => (by rw [b] at h; cases h), fun h => (by rw [d] at h; cases h)⟩, rfl, ?_⟩
            rw [hv, e2] at hq
            rw [g2]
            show k ++ 32 :: u = k ++ tailT _
            rw [show tailT ⟨kd, k, [], (quoP u).1, nu⟩ = 32 :: (quoB (quoP u).1 ++ 32 :: quoB nu) from by simp [tailT, a, b, d]]
            exact congrArg (fun z => k ++ 32 :: z) hq
theorem par_sound {s : L8} (hl : decide ((s.length : Int) > 4000) = false) : parR s = (Rul.z, 8) ∨ ∃ r, ShOk r ∧ s = ruleT r := by
  unfold parR
  rw [if_neg (by rw [hl]; simp)]
  split
  · exact .inl rfl
  · rename_i c
    have c := Bool.eq_false_iff.2 c
    rw [Bool.or_eq_false_iff] at c
    rcases cutC s with ⟨g1, g2⟩ | ⟨w, t, g1, g2, g3⟩
    · rw [g2] at c; cases c.1
    · rw [g3] at c ⊢
      obtain ⟨h1, h2, hw⟩ := ix_kind (w := w) (by simpa using c.2)
      rcases parK_sound (t := t) h1 h2 with e | ⟨r, hr, e1, e2⟩
      · exact .inl e
      · refine .inr ⟨r, hr, ?_⟩
        rw [ruleT_eq, e1, ← hw, g2, e2]
theorem readers (s : L8) : rdR s = parR s := by
  cases hl : decide ((s.length : Int) > 4000) with
  | true => rw [rd_1 hl]; unfold parR; rw [if_pos hl]
  | false =>
    have hle : s.length ≤ 4000 := by simp at hl; omega
    have key : ∀ r, ShOk r → s = ruleT r → rdR s = parR s := fun r hr e => by
      subst e
      rw [rd_print hr hle, par_print hr hle]
    rcases rd_sound hl with h1 | ⟨r, hr, e⟩
    · rcases par_sound hl with h2 | ⟨r, hr, e⟩
      · rw [h1, h2]
      · exact key r hr e
    · exact key r hr e
theorem path_no32 {s : L8} (h : pathB s = true) : (32 : UInt8) ∉ s := fun hm => by
  unfold pathB at h
  rw [Bool.and_eq_true, List.all_eq_true] at h
  rcases split_bytes (c := 47) s.length s (Nat.le_refl _) 32 hm with e | ⟨w, hw, ha⟩
  · exact absurd e (by decide)
  · have hp := h.1 w hw
    unfold partB at hp
    rw [Bool.and_eq_true, Bool.and_eq_true] at hp
    have he := hp.1.1
    unfold eachB at he
    simp only [Bool.and_eq_true, List.all_eq_true] at he
    exact absurd (he.1 32 ha) (by decide)
theorem sh_ok {r : Rul} (h : RulOk r) : ShOk r := by
  have nosp : ∀ s : L8, pathB s = true → s ≠ [] ∧ (32 : UInt8) ∉ s := fun s hs => ⟨fun e => (by rw [e, path_nil] at hs; cases hs), path_no32 hs⟩
  exact ⟨h.lo, h.hi, (nosp _ h.k).1, (nosp _ h.k).2, fun hu => nosp _ (h.tu hu), h.tu0, h.old0, h.nu0⟩
theorem par_ok {r : Rul} (h : ruleC r = 0) (hl : (ruleT r).length ≤ 4000) : parR (ruleT r) = (r, 0) := by
  rw [par_print (sh_ok (rul_ok h)) hl]
  unfold chk
  rw [h]; rfl
theorem printT_len {r : Rul} (h : ruleC r = 0) : (printT r).1.length ≤ 4000000 := by
  have ho := rul_ok h
  obtain ⟨h1, h2⟩ := ho.len
  have h3 := quoB_le (value_len ho.vo)
  have h4 := quoB_le (value_len ho.vn)
  have h5 := ruleW_le r.kd
  rw [print_2 (by rw [h]; rfl), ruleT_eq]
  unfold tailT
  cases usTu r.kd <;> cases usOld r.kd <;> cases usNew r.kd <;> simp <;> omega
theorem print_2nd (r : Rul) : (printT r).2 = ruleC r := by
  cases c : (ruleC r != 0) with
  | true => rw [print_1 c]
  | false => rw [print_2 c]; exact (show ruleC r = 0 by simpa using c).symm
theorem print_1st (r : Rul) : (ruleC r != 0 && !((printT r).1 == [])) = false := by
  cases c : (ruleC r != 0) with
  | true => rw [print_1 c]; rfl
  | false => rfl
end Go.Proofs.YtgknfikdajoiaaaGreatDoor
namespace Go.Proofs.YtgknfikdajoiaaaGreatDoor
open Go
open Go.RowKit
attribute [local irreducible] pathB valueB ruleC invR escB quoB parR rdR ruleW ruleT printT
theorem pc_outlaw2_RulesMatch (r : Rul) (hr : RulB r) (s : List UInt8) (hs : s.length ≤ 4000000) :
  PureCall Tryz.prog J 3 [.agg [.d (.int .i64 r.kd), .d (.str r.k), .d (.str r.tu), .d (.str r.old), .d (.str r.nu)], .one (.d (.str s))] (.one (.d (.bool true))) := by
 have hp2 := print_2nd r
 have hp1 := print_1st r
 refine PureCall.of_body tOk (fn := Tryz.f3) Tryz.func3 (by kernel_rfl) rfl (Nat.le_of_ble_eq_true rfl) (fun E => ?_)
 refine W.seq ?_
 refine W.region ?_
 refine S.box rfl rfl rfl rfl ?_
 refine S.pure tOk zOk rfl rfl rfl ?_
 refine thenK_n ?_
 refine W.seq ?_
 refine W.region ?_
 refine S.pure tOk zOk rfl rfl rfl ?_
 refine S.call rfl rfl rfl rfl rfl (pc_RuleError r hr) ?_
 refine S.pure tOk zOk rfl rfl rfl ?_
 refine thenK_n ?_
 refine W.seq ?_
 refine W.region ?_
 refine S.pure tOk zOk rfl rfl rfl ?_
 refine S.call rfl rfl rfl rfl rfl (pc_PrintRule r hr) ?_
 refine S.pure tOk zOk rfl rfl rfl ?_
 refine S.pure tOk zOk rfl rfl rfl ?_
 refine S.pure tOk zOk rfl rfl rfl ?_
 refine S.pure tOk zOk rfl rfl rfl ?_
 refine S.pure tOk zOk rfl rfl rfl ?_
 refine thenK_n ?_
 refine W.seq ?_
 refine W.region ?_
 refine S.pure tOk zOk rfl rfl rfl ?_
 refine S.call rfl rfl rfl rfl rfl (pc_Inverse r hr) ?_
 refine S.pure tOk zOk rfl rfl rfl ?_
 refine S.pure tOk zOk rfl rfl rfl ?_
 refine S.pure tOk zOk rfl rfl rfl ?_
 refine S.alloc tOk rfl rfl rfl rfl ?_
 refine S.store tOk rfl rfl rfl rfl rfl rfl rfl rfl ?_
 refine S.pure tOk zOk rfl rfl rfl ?_
 refine thenK_n ?_
 refine W.seq ?_
 refine W.region ?_
 refine S.pure tOk zOk rfl rfl rfl ?_
 refine S.call rfl rfl rfl rfl rfl (pc_InverseOf r hr) ?_
 refine S.pure tOk zOk rfl rfl rfl ?_
 refine S.pure tOk zOk rfl rfl rfl ?_
 refine S.pure tOk zOk rfl rfl rfl ?_
 refine S.alloc tOk rfl rfl rfl rfl ?_
 refine S.store tOk rfl rfl rfl rfl rfl rfl rfl rfl ?_
 refine S.pure tOk zOk rfl rfl rfl ?_
 refine thenK_n ?_
 refine W.seq ?_
 refine W.seq ?_
 refine W.region ?_
 refine S.call rfl rfl rfl rfl rfl (pc_outlaw2_migrates) ?_
 refine S.pure tOk zOk rfl rfl rfl ?_
 refine S.pure tOk zOk rfl rfl rfl ?_
 refine S.pureG tOk zOk rfl rfl tg (fun _ => rfl) rfl ?_
 refine S.callG rfl rfl rfl rfl tg rfl rfl (fun _ => pc_CheckRule r hr) ?_
 refine S.pureG tOk zOk rfl rfl tg (fun _ => rfl) rfl ?_
 refine S.pureG tOk zOk rfl rfl tg (fun _ => rfl) rfl ?_
 refine S.pickOr tOk zOk rfl rfl tg ?_
 refine S.pure tOk zOk rfl rfl rfl ?_
 refine S.pureG tOk zOk rfl rfl tg (fun _ => rfl) rfl ?_
 refine S.pureG tOk zOk rfl rfl tg (fun _ => rfl) rfl ?_
 refine S.pureG tOk zOk rfl rfl tg (fun _ => rfl) rfl ?_
 refine S.pickOr tOk zOk rfl rfl tg ?_
 refine S.pure tOk zOk rfl rfl rfl ?_
 refine S.pureG tOk zOk rfl rfl tg (fun _ => rfl) rfl ?_
 refine S.pureG tOk zOk rfl rfl tg (fun _ => rfl) rfl ?_
 refine S.pureG tOk zOk rfl rfl tg (fun _ => rfl) rfl ?_
 refine S.pickOr tOk zOk rfl rfl tg ?_
 refine S.pure tOk zOk rfl rfl rfl ?_
 refine S.pureG tOk zOk rfl rfl tg (fun _ => rfl) rfl ?_
 refine S.pureG tOk zOk rfl rfl tg (fun _ => rfl) rfl ?_
 refine S.pureG tOk zOk rfl rfl tg (fun _ => rfl) rfl ?_
 refine S.pickOr tOk zOk rfl rfl tg ?_
 refine S.pure tOk zOk rfl rfl rfl ?_
 refine S.pureG tOk zOk rfl rfl tg (fun _ => rfl) rfl ?_
 refine S.pureG tOk zOk rfl rfl tg (fun _ => rfl) rfl ?_
 refine S.pureG tOk zOk rfl rfl tg (fun _ => rfl) rfl ?_
 refine S.pureG tOk zOk rfl rfl tg (fun _ => rfl) rfl ?_
 refine S.pureG tOk zOk rfl rfl tg (fun _ => rfl) rfl ?_
 refine S.pickAndG tOk zOk rfl rfl rfl tg tg ?_
 refine S.pickOr tOk zOk rfl rfl tg ?_
 refine thenK_n ?_
 refine W.cond rfl (fun c1 => ?_) (fun c1 => ?_)
 ·skip
  exact absurd c1 (by rw [hp2, hp1]; simp)
 ·skip
  refine W.skip ?_
  refine thenK_n ?_
  refine W.seq ?_
  refine W.seq ?_
  refine W.region ?_
  refine S.pure tOk zOk rfl rfl rfl ?_
  refine S.pure tOk zOk rfl rfl rfl ?_
  refine thenK_n ?_
  refine W.cond rfl (fun c2 => ?_) (fun c2 => ?_)
  ·skip
   have hz : ruleC r = 0 := by simpa using c2
   have hpt : printT r = (ruleT r, 0) := print_2 (by rw [hz]; rfl)
   refine W.seq ?_
   refine W.region ?_
   refine S.pure tOk zOk rfl rfl rfl ?_
   refine S.call rfl rfl rfl rfl rfl (pc_ParseRule (printT r).1 (printT_len hz)) ?_
   refine S.pure tOk zOk rfl rfl rfl ?_
   refine S.pure tOk zOk rfl rfl rfl ?_
   refine S.pure tOk zOk rfl rfl rfl ?_
   refine S.alloc tOk rfl rfl rfl rfl ?_
   refine S.store tOk rfl rfl rfl rfl rfl rfl rfl rfl ?_
   refine S.pure tOk zOk rfl rfl rfl ?_
   refine thenK_n ?_
   refine W.seq ?_
   refine W.region ?_
   refine S.pure tOk zOk rfl rfl rfl ?_
   refine S.pure tOk zOk rfl rfl rfl ?_
   refine S.call rfl rfl rfl rfl rfl (pc_RuleText r hr) ?_
   refine S.pure tOk zOk rfl rfl rfl ?_
   refine S.pure tOk zOk rfl rfl rfl ?_
   refine S.pureG tOk zOk rfl rfl tg (fun _ => rfl) rfl ?_
   refine S.pureG tOk zOk rfl rfl tg (fun _ => rfl) rfl ?_
   refine S.pureG tOk zOk rfl rfl tg (fun _ => rfl) rfl ?_
   refine S.pureG tOk zOk rfl rfl tg (fun _ => rfl) rfl ?_
   refine S.pureG tOk zOk rfl rfl tg (fun _ => rfl) rfl ?_
   refine S.pureG tOk zOk rfl rfl tg (fun _ => rfl) rfl ?_
   refine S.pureG tOk zOk rfl rfl tg (fun _ => rfl) rfl ?_
   refine S.pureG tOk zOk rfl rfl tg (fun _ => rfl) rfl ?_
   refine S.pureG tOk zOk rfl rfl tg (fun _ => rfl) rfl ?_
   refine S.pureG tOk zOk rfl rfl tg (fun _ => rfl) rfl ?_
   refine S.pickOrG tOk zOk rfl rfl rfl tg tg ?_
   refine S.pickAndG tOk zOk rfl rfl rfl tg tg ?_
   refine S.pickOr tOk zOk rfl rfl tg ?_
   refine thenK_n ?_
   refine W.cond rfl (fun c3 => ?_) (fun c3 => ?_)
   ·skip
    exact absurd c3 (by rw [hpt]; rcases Nat.lt_or_ge 4000 (ruleT r).length with hl | hl <;> first | (rw [par_ok hz hl]; simp; done) | (simp; omega))
   ·skip
    refine W.skip ?_
    refine thenK_n ?_
    refine W.seq ?_
    refine W.region ?_
    refine S.pure tOk zOk rfl rfl rfl ?_
    refine S.call rfl rfl rfl rfl rfl (pc_ParseRule s hs) ?_
    refine S.pure tOk zOk rfl rfl rfl ?_
    refine S.pure tOk zOk rfl rfl rfl ?_
    refine S.pure tOk zOk rfl rfl rfl ?_
    refine S.alloc tOk rfl rfl rfl rfl ?_
    refine S.store tOk rfl rfl rfl rfl rfl rfl rfl rfl ?_
    refine S.pure tOk zOk rfl rfl rfl ?_
    refine thenK_n ?_
    refine W.seq ?_
    refine W.region ?_
    refine S.pure tOk zOk rfl rfl rfl ?_
    refine S.call rfl rfl rfl rfl rfl (pc_ReadRule s hs) ?_
    refine S.pure tOk zOk rfl rfl rfl ?_
    refine S.pure tOk zOk rfl rfl rfl ?_
    refine S.pure tOk zOk rfl rfl rfl ?_
    refine S.alloc tOk rfl rfl rfl rfl ?_
    refine S.store tOk rfl rfl rfl rfl rfl rfl rfl rfl ?_
    refine S.pure tOk zOk rfl rfl rfl ?_
    refine thenK_n ?_
    refine W.seq ?_
    refine W.region ?_
    refine S.pure tOk zOk rfl rfl rfl ?_
    refine S.pure tOk zOk rfl rfl rfl ?_
    refine S.pure tOk zOk rfl rfl rfl ?_
    refine S.pure tOk zOk rfl rfl rfl ?_
    refine S.pureG tOk zOk rfl rfl tg (fun _ => rfl) rfl ?_
    refine S.pureG tOk zOk rfl rfl tg (fun _ => rfl) rfl ?_
    refine S.pureG tOk zOk rfl rfl tg (fun _ => rfl) rfl ?_
    refine S.pickAnd tOk zOk rfl rfl tg ?_
    refine S.pure tOk zOk rfl rfl rfl ?_
    refine thenK_n ?_
    refine W.ret ?_
    exact ⟨_, rfl, rfl, LeV.of_force rfl (by rw [readers]; simp)⟩
  ·skip
   refine W.skip ?_
   refine thenK_n ?_
   refine W.seq ?_
   refine W.region ?_
   refine S.pure tOk zOk rfl rfl rfl ?_
   refine S.call rfl rfl rfl rfl rfl (pc_ParseRule s hs) ?_
   refine S.pure tOk zOk rfl rfl rfl ?_
   refine S.pure tOk zOk rfl rfl rfl ?_
   refine S.pure tOk zOk rfl rfl rfl ?_
   refine S.alloc tOk rfl rfl rfl rfl ?_
   refine S.store tOk rfl rfl rfl rfl rfl rfl rfl rfl ?_
   refine S.pure tOk zOk rfl rfl rfl ?_
   refine thenK_n ?_
   refine W.seq ?_
   refine W.region ?_
   refine S.pure tOk zOk rfl rfl rfl ?_
   refine S.call rfl rfl rfl rfl rfl (pc_ReadRule s hs) ?_
   refine S.pure tOk zOk rfl rfl rfl ?_
   refine S.pure tOk zOk rfl rfl rfl ?_
   refine S.pure tOk zOk rfl rfl rfl ?_
   refine S.alloc tOk rfl rfl rfl rfl ?_
   refine S.store tOk rfl rfl rfl rfl rfl rfl rfl rfl ?_
   refine S.pure tOk zOk rfl rfl rfl ?_
   refine thenK_n ?_
   refine W.seq ?_
   refine W.region ?_
   refine S.pure tOk zOk rfl rfl rfl ?_
   refine S.pure tOk zOk rfl rfl rfl ?_
   refine S.pure tOk zOk rfl rfl rfl ?_
   refine S.pure tOk zOk rfl rfl rfl ?_
   refine S.pureG tOk zOk rfl rfl tg (fun _ => rfl) rfl ?_
   refine S.pureG tOk zOk rfl rfl tg (fun _ => rfl) rfl ?_
   refine S.pureG tOk zOk rfl rfl tg (fun _ => rfl) rfl ?_
   refine S.pickAnd tOk zOk rfl rfl tg ?_
   refine S.pure tOk zOk rfl rfl rfl ?_
   refine thenK_n ?_
   refine W.ret ?_
   exact ⟨_, rfl, rfl, LeV.of_force rfl (by rw [readers]; simp)⟩
end Go.Proofs.YtgknfikdajoiaaaGreatDoor
