/- RunsMatch: where what it reads is of bulk at most 1048576, it returns true, and what it was given reads as it did. -/
import Derived.Sort.Walk0
import Derived.Test.YtcchfmilleffjaaGreatDoorRows
import Derived.Lib.LaidTab
import Derived.Carry
import Derived.ChangeSame
import Derived.OpenVars
import Derived.OpenShut
import Derived.WalkKit
import Derived.ProofKit
import Derived.Deep.DeepHandedRow
import Derived.Test.YtcchfmilleffjaaGreatDoorCards
import Derived.Test.YtcchfmilleffjaaGreatDoorTie
import Derived.Lib.LaidU8
import Derived.Shelf.Vars
import Derived.Deep.DeepLaidRun
import Derived.Test.YtcchfmilleffjaaGreatDoorMCRunsMatch3
set_option linter.unusedVariables false
set_option linter.unusedSimpArgs false
set_option maxRecDepth 100000
set_option maxHeartbeats 4000000
namespace Go.Proofs.YtcchfmilleffjaaGreatDoor
open Go
open Go.RowKit
attribute [local irreducible] rangeB nameB valueB visit visits checkP listE firstNe
def ruleWs : List (List UInt8) := [[], [114, 101, 110, 97, 109, 101], [112, 114, 101, 102, 105, 120], [99, 111, 112, 121], [115, 101, 116], [100, 101, 102, 97, 117, 108, 116], [100, 114, 111, 112], [109, 97, 112], [115, 119, 97, 112]]
theorem le_chgNil {n : Int} {x : List Chg × Int} (h : x = ([], n)) : LeV (.tup [.one (.d .nilsl), .one (.d (.int .i64 n))]) (.tup [.one (.d (.vec 10 (x.1.map chgD))), .one (.d (.int .i64 x.2))]) := by
  subst h; exact LeV.tup2 (LeV.nil 10) (LeV.refl _)
theorem chg_row {l : List Chg} {x : Chg} : l.map chgD ++ [chgD x] = (l ++ [x]).map chgD := by simp
theorem unset_row {t : Tab} {l : List Stg} {i : Nat} (hi : i < l.length) (h : goneB t (l.getD i Stg.z) = true) : (unsetTo t l i).map chgD ++ [chgD ⟨4, (l.getD i Stg.z).k, []⟩] = (unsetTo t l (i + 1)).map chgD := by rw [chg_row, unset_t hi h]
def chgTo (ys zs : List Stg) (i : Nat) : List Chg := unsetTo (tabOf zs) ys ys.length ++ setTo (tabOf ys) zs i
theorem chgTo_0 (ys zs : List Stg) : unsetTo (tabOf zs) ys ys.length = chgTo ys zs 0 := (List.append_nil _).symm
theorem set_row {ys zs : List Stg} {i : Nat} (hi : i < zs.length) (h : newB (tabOf ys) (zs.getD i Stg.z) = true) : (chgTo ys zs i).map chgD ++ [chgD ⟨3, (zs.getD i Stg.z).k, (zs.getD i Stg.z).v⟩] = (chgTo ys zs (i + 1)).map chgD := by
  rw [chg_row]; unfold chgTo; rw [List.append_assoc, set_t hi h]
theorem set_skip {ys zs : List Stg} {i : Nat} (hi : i < zs.length) (h : newB (tabOf ys) (zs.getD i Stg.z) = false) : chgTo ys zs i = chgTo ys zs (i + 1) := by
  unfold chgTo; rw [set_f hi h]
theorem chgTo_le (ys zs : List Stg) (i : Nat) : (chgTo ys zs i).length ≤ ys.length + zs.length := by
  unfold chgTo
  have h1 := unset_le (tabOf zs) ys ys.length
  have h2 := set_le (tabOf ys) zs i
  simp; omega
def changesP (ys zs : List Stg) : List Chg × Int := if listE pathB ys != 0 then ([], listE pathB ys) else if listE pathB zs != 0 then ([], listE pathB zs) else (changesL ys zs, 0)
theorem changes_end (ys zs : List Stg) : chgTo ys zs zs.length = changesL ys zs := rfl
theorem cp_1 {ys zs : List Stg} (h : (listE pathB ys != 0) = true) : changesP ys zs = ([], listE pathB ys) := if_pos h
theorem cp_2 {ys zs : List Stg} (h : (listE pathB ys != 0) = false) (h2 : (listE pathB zs != 0) = true) : changesP ys zs = ([], listE pathB zs) := by unfold changesP; rw [if_neg (by rw [h]; simp), if_pos h2]
theorem cp_3 {ys zs : List Stg} (h : (listE pathB ys != 0) = false) (h2 : (listE pathB zs != 0) = false) : changesP ys zs = (changesL ys zs, 0) := by unfold changesP; rw [if_neg (by rw [h]; simp), if_neg (by rw [h2]; simp)]
theorem pc_pathAB : PureCall Tryz.prog J 45 [.one (.d (.str [97, 47, 98]))] (.one (.d (.bool true))) := by
  have h := pc_ver_IsPath [97, 47, 98] (by decide)
  rw [path_ab] at h; exact h
theorem pc_valE : PureCall Tryz.prog J 91 [.one (.d (.str []))] (.one (.d (.bool true))) := by
  have h := pc_ver_IsValue [] (by decide)
  rw [val_e] at h; exact h
theorem pc_migrate_settingsFault (l : List Stg) (hn : l.length ≤ 2000000) (hs : ∀ s ∈ l, s.k.length < 4294967000 ∧ s.v.length < 4294967000) :
  PureCall Tryz.prog J 81 [.one (.d (.vec 2 (l.map stgD)))] (.one (.d (.int .i64 (listE pathB l)))) := by
 refine PureCall.of_body tOk (fn := Tryz.f81) Tryz.func81 (by kernel_rfl) rfl (Nat.le_of_ble_eq_true rfl) (fun E => ?_)
 refine W.seq ?_
 refine W.region ?_
 refine S.pure tOk zOk rfl rfl rfl ?_
 refine thenK_n ?_
 refine W.seq ?_
 refine W.region ?_
 refine S.pure tOk zOk rfl rfl rfl ?_
 refine S.pure tOk zOk rfl rfl rfl ?_
 refine S.call rfl rfl rfl rfl rfl (pc_Holds0 l (by omega) hs) ?_
 refine S.pure tOk zOk rfl rfl rfl ?_
 refine S.pure tOk zOk rfl rfl rfl ?_
 refine S.pure tOk zOk rfl rfl rfl ?_
 refine S.pure tOk zOk rfl rfl rfl ?_
 refine S.pure tOk zOk rfl rfl rfl ?_
 refine thenK_n ?_
 refine W.seq ?_
 refine W.region ?_
 refine S.pure tOk zOk rfl rfl rfl ?_
 refine S.pure tOk zOk rfl rfl rfl ?_
 refine thenK_n ?_
 refine W.ret ?_
 exact ⟨_, rfl, rfl, LeV.refl _⟩
theorem pc_tableOf (l : List Stg) (hn : l.length ≤ 4294967000) :
  HCall Tryz.prog J 64 ([.one (.d (.vec 2 (l.map stgD)))]) ([]) ([]) ([]) (isH (.one (.map 0)) ([]) ([]) ([tabD (tabOf l)])) := by
 refine HCall.ofD tOk ⟨0, 0, 1⟩ (fn := Tryz.f64) Tryz.func64 (by kernel_rfl) rfl (Nat.le_of_ble_eq_true rfl) (fun E => ?_)
 refine W.seq ?_
 refine W.region ?_
 refine S.pure tOk zOk rfl rfl rfl ?_
 refine thenK_n ?_
 refine W.seq ?_
 refine W.region ?_
 refine S.makeMap rfl ?_
 refine S.pure tOk zOk rfl rfl rfl ?_
 refine thenK_n ?_
 refine W.seq ?_
 refine W.seq ?_
 refine W.region ?_
 refine S.pure tOk zOk rfl rfl rfl ?_
 refine S.pure tOk zOk rfl rfl rfl ?_
 refine S.pure tOk zOk rfl rfl rfl ?_
 refine thenK_n ?_
 refine W.block ?_
 refine W.loop (fun k st => ∃ i : Nat, i ≤ l.length ∧ k = l.length - i ∧ ∃ t b2 r2 m2, st = ⟨t, [] ++ b2, [] ++ r2, [tabD (tabTo l i)] ++ m2⟩ ∧ holdsL t [(3, .one (.map 0)), (7, .one (.d (.vec 2 (l.map stgD)))), (8, .one (.d (.int .i64 ((l.map stgD).length : Int)))), (9, .one (.d (.int .i64 (i : Int))))]) (l.length) ⟨0, Nat.zero_le _, rfl, _, _, _, _, rfl, rfl, rfl, rfl, rfl, trivial⟩ ?_
 rintro k0 _ ⟨i, f0_0, rfl, t0, bb0, rr0, mm0, rfl, hh0⟩
 refine W.keepR _ _ _ _ _ _ _ hh0 rfl ?_
 refine W.seq ?_
 refine W.region ?_
 refine S.pure tOk zOk rfl rfl rfl ?_
 refine thenK_n ?_
 refine W.seq ?_
 refine W.cond rfl (fun c1 => ?_) (fun c1 => ?_)
 ·skip
  have hi := row_lt c1
  refine W.skip ?_
  refine thenK_n ?_
  refine W.seq ?_
  refine W.block ?_
  refine W.seq ?_
  refine W.region ?_
  refine S.pureE tOk zOk rfl (row_ok hi) (row_at Stg.z hi) rfl ?_
  refine S.pure tOk zOk rfl rfl rfl ?_
  refine S.alloc tOk rfl rfl rfl rfl ?_
  refine S.store tOk rfl rfl rfl rfl rfl rfl rfl rfl ?_
  refine thenK_n ?_
  refine W.region ?_
  refine S.pure tOk zOk rfl rfl rfl ?_
  refine S.pure tOk zOk rfl rfl rfl ?_
  refine S.pure tOk zOk rfl rfl rfl ?_
  refine S.pure tOk zOk rfl rfl rfl ?_
  refine S.pure tOk zOk rfl rfl rfl ?_
  refine S.mapUpdate tOk keyS (fD := fun v : List UInt8 => DV.one (.str v)) (l.getD i Stg.z).v (tabTo l i) rfl rfl rfl rfl rfl rfl rfl rfl (show _ = [tabD (tabTo l (i + 1))] from rfl) ?_
  refine blockK_n ?_
  refine thenK_n ?_
  refine W.region ?_
  refine S.pure tOk zOk rfl rfl rfl ?_
  refine S.pure tOk zOk rfl rfl rfl ?_
  refine loop_n (l.length - (i + 1)) (by omega) ⟨i + 1, hi, rfl, _, _, _, _, rfl, rfl, rfl, rfl, inc_i64 (by omega), trivial⟩
 ·skip
  have hi := row_ge c1
  obtain rfl : i = l.length := by omega
  refine W.exit ?_
  refine thenK_e ?_
  refine thenK_e ?_
  refine blockK_x ?_
  refine thenK_n ?_
  refine W.seq ?_
  refine W.region ?_
  refine S.pure tOk zOk rfl rfl rfl ?_
  refine S.pure tOk zOk rfl rfl rfl ?_
  refine thenK_n ?_
  refine W.ret ?_
  exact ⟨_, rfl, rfl, LeG.refl _, rfl, rfl, rfl⟩
theorem pc_migrate_Changes (ys zs : List Stg) (hn : ys.length ≤ 2000000) (hs : ∀ s ∈ ys, s.k.length < 4294967000 ∧ s.v.length < 4294967000) (hm : zs.length ≤ 2000000) (ht : ∀ s ∈ zs, s.k.length < 4294967000 ∧ s.v.length < 4294967000) :
  PureCall Tryz.prog J 29 [.one (.d (.vec 2 (ys.map stgD))), .one (.d (.vec 2 (zs.map stgD)))] (.tup [.one (.d (.vec 10 ((changesP ys zs).1.map chgD))), .one (.d (.int .i64 (changesP ys zs).2))]) := by
 refine PureCall.of_body tOk (fn := Tryz.f29) Tryz.func29 (by kernel_rfl) rfl (Nat.le_of_ble_eq_true rfl) (fun E => ?_)
 refine W.seq ?_
 refine W.region ?_
 refine S.pure tOk zOk rfl rfl rfl ?_
 refine S.pure tOk zOk rfl rfl rfl ?_
 refine thenK_n ?_
 refine W.seq ?_
 refine W.seq ?_
 refine W.region ?_
 refine S.pure tOk zOk rfl rfl rfl ?_
 refine S.pure tOk zOk rfl rfl rfl ?_
 refine S.pure tOk zOk rfl rfl rfl ?_
 refine S.pure tOk zOk rfl rfl rfl ?_
 refine thenK_n ?_
 refine W.block ?_
 refine W.rounds 3 ?_
 refine WR.succ ?_
 refine W.seq ?_
 refine W.region ?_
 refine S.pure tOk zOk rfl rfl rfl ?_
 refine thenK_n ?_
 refine W.seq ?_
 refine W.condT rfl rfl ?_
 refine W.skip ?_
 refine thenK_n ?_
 refine W.seq ?_
 refine W.block ?_
 refine W.seq ?_
 refine W.region ?_
 refine S.pure tOk zOk rfl (by first | rfl | exact idx_ok (by omega) (by omega)) rfl ?_
 refine S.pure tOk zOk rfl rfl rfl ?_
 refine thenK_n ?_
 refine W.seq ?_
 refine W.region ?_
 refine S.pure tOk zOk rfl rfl rfl ?_
 refine S.call rfl rfl rfl rfl rfl (pc_migrate_settingsFault ys hn hs) ?_
 refine S.pure tOk zOk rfl rfl rfl ?_
 refine thenK_n ?_
 refine W.seq ?_
 refine W.region ?_
 refine S.pure tOk zOk rfl rfl rfl ?_
 refine S.pure tOk zOk rfl rfl rfl ?_
 refine thenK_n ?_
 refine W.cond rfl (fun c2 => ?_) (fun c2 => ?_)
 ·skip
  refine W.seq ?_
  refine W.region ?_
  refine S.pure tOk zOk rfl rfl rfl ?_
  refine S.pure tOk zOk rfl rfl rfl ?_
  refine S.pure tOk zOk rfl rfl rfl ?_
  refine thenK_n ?_
  refine W.ret ?_
  refine blockK_r ?_
  refine thenK_r ?_
  refine thenK_r ?_
  refine blockK_r ?_
  refine thenK_r ?_
  exact ⟨_, rfl, rfl, le_chgNil (cp_1 c2)⟩
 ·skip
  refine W.skip ?_
  refine blockK_n ?_
  refine thenK_n ?_
  refine W.region ?_
  refine S.pure tOk zOk rfl rfl rfl ?_
  refine S.pure tOk zOk rfl rfl rfl ?_
  refine thenK_n ?_
  refine WR.succ ?_
  refine W.seq ?_
  refine W.region ?_
  refine S.pure tOk zOk rfl rfl rfl ?_
  refine thenK_n ?_
  refine W.seq ?_
  refine W.condT rfl rfl ?_
  refine W.skip ?_
  refine thenK_n ?_
  refine W.seq ?_
  refine W.block ?_
  refine W.seq ?_
  refine W.region ?_
  refine S.pure tOk zOk rfl (by first | rfl | exact idx_ok (by omega) (by omega)) rfl ?_
  refine S.pure tOk zOk rfl rfl rfl ?_
  refine thenK_n ?_
  refine W.seq ?_
  refine W.region ?_
  refine S.pure tOk zOk rfl rfl rfl ?_
  refine S.call rfl rfl rfl rfl rfl (pc_migrate_settingsFault zs hm ht) ?_
  refine S.pure tOk zOk rfl rfl rfl ?_
  refine thenK_n ?_
  refine W.seq ?_
  refine W.region ?_
  refine S.pure tOk zOk rfl rfl rfl ?_
  refine S.pure tOk zOk rfl rfl rfl ?_
  refine thenK_n ?_
  refine W.cond rfl (fun c4 => ?_) (fun c4 => ?_)
  ·skip
   refine W.seq ?_
   refine W.region ?_
   refine S.pure tOk zOk rfl rfl rfl ?_
   refine S.pure tOk zOk rfl rfl rfl ?_
   refine S.pure tOk zOk rfl rfl rfl ?_
   refine thenK_n ?_
   refine W.ret ?_
   refine blockK_r ?_
   refine thenK_r ?_
   refine thenK_r ?_
   refine blockK_r ?_
   refine thenK_r ?_
   exact ⟨_, rfl, rfl, le_chgNil (cp_2 c2 c4)⟩
  ·skip
   refine W.skip ?_
   refine blockK_n ?_
   refine thenK_n ?_
   refine W.region ?_
   refine S.pure tOk zOk rfl rfl rfl ?_
   refine S.pure tOk zOk rfl rfl rfl ?_
   refine thenK_n ?_
   refine WR.succ ?_
   refine W.seq ?_
   refine W.region ?_
   refine S.pure tOk zOk rfl rfl rfl ?_
   refine thenK_n ?_
   refine W.seq ?_
   refine W.condF rfl rfl ?_
   refine W.exit ?_
   refine thenK_e ?_
   refine thenK_e ?_
   refine blockK_x ?_
   refine thenK_n ?_
   refine W.seq ?_
   refine W.region ?_
   refine S.pure tOk zOk rfl rfl rfl ?_
   refine S.hcallD rfl rfl rfl rfl ((pc_tableOf ys (by omega)).frameD [] [] [] rfl rfl rfl rfl rfl rfl rfl rfl rfl) ?_
   refine S.pure tOk zOk rfl rfl rfl ?_
   refine S.hcallD rfl rfl rfl rfl ((pc_tableOf zs (by omega)).frameD [] [] [] rfl rfl rfl rfl rfl rfl rfl rfl rfl) ?_
   refine S.pure tOk zOk rfl rfl rfl ?_
   refine S.pure tOk zOk rfl rfl rfl ?_
   refine thenK_n ?_
   refine W.seq ?_
   refine W.region ?_
   refine S.pure tOk zOk rfl rfl rfl ?_
   refine thenK_n ?_
   refine W.seq ?_
   refine W.seq ?_
   refine W.region ?_
   refine S.pure tOk zOk rfl rfl rfl ?_
   refine S.pure tOk zOk rfl rfl rfl ?_
   refine S.pure tOk zOk rfl rfl rfl ?_
   refine thenK_n ?_
   refine W.newRow 11 10 44 rfl ?_
   refine W.block ?_
   refine W.loop (fun k st => ∃ i : Nat, ∃ v : Nat, ∃ al : Bool, i ≤ ys.length ∧ k = ys.length - i ∧ ∃ t b2 r2 m2, st = ⟨t, [] ++ b2, [some ⟨al, v, 10, 44, ((unsetTo (tabOf zs) ys i).map chgD)⟩] ++ r2, [tabD (tabOf ys), tabD (tabOf zs)] ++ m2⟩ ∧ holdsL t [(1, .one (.d (.vec 2 (zs.map stgD)))), (9, .one (.map 0)), (10, .one (.map 1)), (11, .one (.row 0 v 0 ((unsetTo (tabOf zs) ys i).map chgD).length)), (36, .one (.d (.vec 2 (ys.map stgD)))), (37, .one (.d (.int .i64 ((ys.map stgD).length : Int)))), (38, .one (.d (.int .i64 (i : Int))))]) (ys.length) ⟨0, _, _, Nat.zero_le _, rfl, _, _, _, _, rfl, rfl, rfl, rfl, rfl, rfl, rfl, rfl, trivial⟩ ?_
   rintro k2 _ ⟨i, v, al, f2_0, rfl, t2, bb2, rr2, mm2, rfl, hh2⟩
   refine W.keepR _ _ _ _ _ _ _ hh2 rfl ?_
   refine W.seq ?_
   refine W.region ?_
   refine S.pure tOk zOk rfl rfl rfl ?_
   refine thenK_n ?_
   refine W.seq ?_
   refine W.cond rfl (fun c6 => ?_) (fun c6 => ?_)
   ·skip
    have hi := row_lt c6
    refine W.skip ?_
    refine thenK_n ?_
    refine W.seq ?_
    refine W.block ?_
    refine W.seq ?_
    refine W.region ?_
    refine S.pureE tOk zOk rfl (row_ok hi) (row_at Stg.z hi) rfl ?_
    refine S.pure tOk zOk rfl rfl rfl ?_
    refine S.alloc tOk rfl rfl rfl rfl ?_
    refine S.store tOk rfl rfl rfl rfl rfl rfl rfl rfl ?_
    refine thenK_n ?_
    refine W.seq ?_
    refine W.region ?_
    refine S.pure tOk zOk rfl rfl rfl ?_
    refine S.pure tOk zOk rfl rfl rfl ?_
    refine S.pure tOk zOk rfl rfl rfl ?_
    refine S.lookup tOk keyS (fD := fun v : List UInt8 => DV.one (.str v)) [] (tabOf zs) rfl rfl rfl rfl rfl rfl rfl rfl rfl rfl (show mapV true _ _ = V.tup [_, _] from rfl) ?_
    refine S.pure tOk zOk rfl rfl rfl ?_
    refine S.pure tOk zOk rfl rfl rfl ?_
    refine S.pure tOk zOk rfl rfl rfl ?_
    refine S.pure tOk zOk rfl rfl rfl ?_
    refine S.pure tOk zOk rfl rfl rfl ?_
    refine thenK_n ?_
    refine W.seq ?_
    refine W.region ?_
    refine S.pure tOk zOk rfl rfl rfl ?_
    refine S.pure tOk zOk rfl rfl rfl ?_
    refine thenK_n ?_
    refine W.cond rfl (fun c7 => ?_) (fun c7 => ?_)
    ·skip
     have hg : goneB (tabOf zs) (ys.getD i Stg.z) = true := c7
     refine W.region ?_
     refine S.pure tOk zOk rfl rfl rfl ?_
     refine S.pure tOk zOk rfl rfl rfl ?_
     refine S.pure tOk zOk rfl rfl rfl ?_
     refine S.pure tOk zOk rfl rfl rfl ?_
     refine S.pure tOk zOk rfl rfl rfl ?_
     refine S.slice tOk rfl rfl ?_
     refine S.append tOk rfl rfl rfl rfl rfl rfl rfl rfl rfl rfl rfl rfl (by have hq := unset_le (tabOf zs) ys i; show _ + 1 ≤ _; rw [List.length_map]; omega) rfl (unset_row hi hg) rfl ?_
     refine S.pure tOk zOk rfl rfl rfl ?_
     refine blockK_n ?_
     refine thenK_n ?_
     refine W.region ?_
     refine S.pure tOk zOk rfl rfl rfl ?_
     refine S.pure tOk zOk rfl rfl rfl ?_
     refine loop_n (ys.length - (i + 1)) (by omega) ⟨i + 1, _, _, hi, rfl, _, _, _, _, rfl, rfl, rfl, rfl, rfl, rfl, rfl, inc_i64 (by omega), trivial⟩
    ·skip
     have hg : goneB (tabOf zs) (ys.getD i Stg.z) = false := c7
     rw [unset_f hi hg]
     refine W.skip ?_
     refine blockK_n ?_
     refine thenK_n ?_
     refine W.region ?_
     refine S.pure tOk zOk rfl rfl rfl ?_
     refine S.pure tOk zOk rfl rfl rfl ?_
     refine loop_n (ys.length - (i + 1)) (by omega) ⟨i + 1, _, _, hi, rfl, _, _, _, _, rfl, rfl, rfl, rfl, rfl, rfl, rfl, inc_i64 (by omega), trivial⟩
   ·skip
    have hi := row_ge c6
    obtain rfl : i = ys.length := by omega
    refine W.exit ?_
    refine thenK_e ?_
    refine thenK_e ?_
    refine blockK_x ?_
    refine thenK_n ?_
    refine W.seq ?_
    refine W.seq ?_
    refine W.region ?_
    refine S.pure tOk zOk rfl rfl rfl ?_
    refine S.pure tOk zOk rfl rfl rfl ?_
    refine S.pure tOk zOk rfl rfl rfl ?_
    refine thenK_n ?_
    rw [chgTo_0]
    refine W.block ?_
    refine W.loop (fun k st => ∃ i : Nat, ∃ v : Nat, ∃ al : Bool, i ≤ zs.length ∧ k = zs.length - i ∧ ∃ t b2 r2 m2, st = ⟨t, [] ++ b2, [some ⟨al, v, 10, 44, ((chgTo ys zs i).map chgD)⟩] ++ r2, [tabD (tabOf ys), tabD (tabOf zs)] ++ m2⟩ ∧ holdsL t [(9, .one (.map 0)), (10, .one (.map 1)), (11, .one (.row 0 v 0 ((chgTo ys zs i).map chgD).length)), (59, .one (.d (.vec 2 (zs.map stgD)))), (60, .one (.d (.int .i64 ((zs.map stgD).length : Int)))), (61, .one (.d (.int .i64 (i : Int))))]) (zs.length) ⟨0, _, _, Nat.zero_le _, rfl, _, _, _, _, rfl, rfl, rfl, rfl, rfl, rfl, rfl, trivial⟩ ?_
    rintro k4 _ ⟨i, v, al, f4_0, rfl, t4, bb4, rr4, mm4, rfl, hh4⟩
    refine W.keepR _ _ _ _ _ _ _ hh4 rfl ?_
    refine W.seq ?_
    refine W.region ?_
    refine S.pure tOk zOk rfl rfl rfl ?_
    refine thenK_n ?_
    refine W.seq ?_
    refine W.cond rfl (fun c8 => ?_) (fun c8 => ?_)
    ·skip
     have hi := row_lt c8
     refine W.skip ?_
     refine thenK_n ?_
     refine W.seq ?_
     refine W.block ?_
     refine W.seq ?_
     refine W.region ?_
     refine S.pureE tOk zOk rfl (row_ok hi) (row_at Stg.z hi) rfl ?_
     refine S.pure tOk zOk rfl rfl rfl ?_
     refine S.alloc tOk rfl rfl rfl rfl ?_
     refine S.store tOk rfl rfl rfl rfl rfl rfl rfl rfl ?_
     refine thenK_n ?_
     refine W.seq ?_
     refine W.region ?_
     refine S.pure tOk zOk rfl rfl rfl ?_
     refine S.pure tOk zOk rfl rfl rfl ?_
     refine S.pure tOk zOk rfl rfl rfl ?_
     refine S.lookup tOk keyS (fD := fun v : List UInt8 => DV.one (.str v)) [] (tabOf ys) rfl rfl rfl rfl rfl rfl rfl rfl rfl rfl (show mapV true _ _ = V.tup [_, _] from rfl) ?_
     refine S.pure tOk zOk rfl rfl rfl ?_
     refine S.pure tOk zOk rfl rfl rfl ?_
     refine S.pure tOk zOk rfl rfl rfl ?_
     refine S.pure tOk zOk rfl rfl rfl ?_
     refine S.pure tOk zOk rfl rfl rfl ?_
     refine thenK_n ?_
     refine W.seq ?_
     refine W.region ?_
     refine S.pure tOk zOk rfl rfl rfl ?_
     refine S.pure tOk zOk rfl rfl rfl ?_
     refine S.pure tOk zOk rfl rfl rfl ?_
     refine S.pureG tOk zOk rfl rfl tg (fun _ => rfl) rfl ?_
     refine S.pureG tOk zOk rfl rfl tg (fun _ => rfl) rfl ?_
     refine S.pureG tOk zOk rfl rfl tg (fun _ => rfl) rfl ?_
     refine S.pureG tOk zOk rfl rfl tg (fun _ => rfl) rfl ?_
     refine S.pickOr tOk zOk rfl rfl tg ?_
     refine thenK_n ?_
     refine W.cond rfl (fun c9 => ?_) (fun c9 => ?_)
     ·skip
      have hg : newB (tabOf ys) (zs.getD i Stg.z) = true := c9
      refine W.region ?_
      refine S.pure tOk zOk rfl rfl rfl ?_
      refine S.pure tOk zOk rfl rfl rfl ?_
      refine S.pure tOk zOk rfl rfl rfl ?_
      refine S.slice tOk rfl rfl ?_
      refine S.append tOk rfl rfl rfl rfl rfl rfl rfl rfl rfl rfl rfl rfl (by have hq := chgTo_le ys zs i; show _ + 1 ≤ _; rw [List.length_map]; omega) rfl (set_row hi hg) rfl ?_
      refine S.pure tOk zOk rfl rfl rfl ?_
      refine blockK_n ?_
      refine thenK_n ?_
      refine W.region ?_
      refine S.pure tOk zOk rfl rfl rfl ?_
      refine S.pure tOk zOk rfl rfl rfl ?_
      refine loop_n (zs.length - (i + 1)) (by omega) ⟨i + 1, _, _, hi, rfl, _, _, _, _, rfl, rfl, rfl, rfl, rfl, rfl, inc_i64 (by omega), trivial⟩
     ·skip
      have hg : newB (tabOf ys) (zs.getD i Stg.z) = false := c9
      rw [set_skip hi hg]
      refine W.skip ?_
      refine blockK_n ?_
      refine thenK_n ?_
      refine W.region ?_
      refine S.pure tOk zOk rfl rfl rfl ?_
      refine S.pure tOk zOk rfl rfl rfl ?_
      refine loop_n (zs.length - (i + 1)) (by omega) ⟨i + 1, _, _, hi, rfl, _, _, _, _, rfl, rfl, rfl, rfl, rfl, rfl, inc_i64 (by omega), trivial⟩
    ·skip
     have hi := row_ge c8
     obtain rfl : i = zs.length := by omega
     refine W.exit ?_
     refine thenK_e ?_
     refine thenK_e ?_
     refine blockK_x ?_
     refine thenK_n ?_
     refine W.seq ?_
     refine W.freeze (ri := 0) (q := ⟨_, _, _, _, _⟩) [11] rfl (by intro k hk; simp at hk; subst hk; rfl) ?_
     refine W.region ?_
     refine S.pure tOk zOk rfl rfl rfl ?_
     refine S.pure tOk zOk rfl rfl rfl ?_
     refine S.pure tOk zOk rfl rfl rfl ?_
     refine thenK_n ?_
     refine W.ret ?_
     exact ⟨_, rfl, rfl, LeV.of_force rfl (by rw [cp_3 c2 c4]; rfl)⟩
theorem pc_outref2_ChangesOf (ys zs : List Stg) (hn : ys.length ≤ 2000000) (hs : ∀ s ∈ ys, s.k.length < 4294967000 ∧ s.v.length < 4294967000) (hm : zs.length ≤ 2000000) (ht : ∀ s ∈ zs, s.k.length < 4294967000 ∧ s.v.length < 4294967000) :
  PureCall Tryz.prog J 30 [.one (.d (.vec 2 (ys.map stgD))), .one (.d (.vec 2 (zs.map stgD)))] (.one (.d (.vec 10 ((changesL ys zs).map chgD)))) := by
 refine PureCall.of_body tOk (fn := Tryz.f30) Tryz.func30 (by kernel_rfl) rfl (Nat.le_of_ble_eq_true rfl) (fun E => ?_)
 refine W.seq ?_
 refine W.region ?_
 refine S.pure tOk zOk rfl rfl rfl ?_
 refine thenK_n ?_
 refine W.seq ?_
 refine W.region ?_
 refine S.pure tOk zOk rfl rfl rfl ?_
 refine S.hcallD rfl rfl rfl rfl ((pc_Facts ys (by omega)).frameD [] [] [] rfl rfl rfl rfl rfl rfl rfl rfl rfl) ?_
 refine S.pure tOk zOk rfl rfl rfl ?_
 refine S.hcallD rfl rfl rfl rfl ((pc_Facts zs (by omega)).frameD [] [] [] rfl rfl rfl rfl rfl rfl rfl rfl rfl) ?_
 refine S.pure tOk zOk rfl rfl rfl ?_
 refine S.pure tOk zOk rfl rfl rfl ?_
 refine thenK_n ?_
 refine W.seq ?_
 refine W.region ?_
 refine S.pure tOk zOk rfl rfl rfl ?_
 refine thenK_n ?_
 refine W.seq ?_
 refine W.seq ?_
 refine W.region ?_
 refine S.pure tOk zOk rfl rfl rfl ?_
 refine S.pure tOk zOk rfl rfl rfl ?_
 refine S.pure tOk zOk rfl rfl rfl ?_
 refine thenK_n ?_
 refine W.newRow 7 10 44 rfl ?_
 refine W.block ?_
 refine W.loop (fun k st => ∃ i : Nat, ∃ v : Nat, ∃ al : Bool, i ≤ ys.length ∧ k = ys.length - i ∧ ∃ t b2 r2 m2, st = ⟨t, [] ++ b2, [some ⟨al, v, 10, 44, ((unsetTo (tabOf zs) ys i).map chgD)⟩] ++ r2, [tabD (tabOf ys), tabD (tabOf zs)] ++ m2⟩ ∧ holdsL t [(1, .one (.d (.vec 2 (zs.map stgD)))), (5, .one (.map 0)), (6, .one (.map 1)), (7, .one (.row 0 v 0 ((unsetTo (tabOf zs) ys i).map chgD).length)), (20, .one (.d (.vec 2 (ys.map stgD)))), (21, .one (.d (.int .i64 ((ys.map stgD).length : Int)))), (22, .one (.d (.int .i64 (i : Int))))]) (ys.length) ⟨0, _, _, Nat.zero_le _, rfl, _, _, _, _, rfl, rfl, rfl, rfl, rfl, rfl, rfl, rfl, trivial⟩ ?_
 rintro k0 _ ⟨i, v, al, f0_0, rfl, t0, bb0, rr0, mm0, rfl, hh0⟩
 refine W.keepR _ _ _ _ _ _ _ hh0 rfl ?_
 refine W.seq ?_
 refine W.region ?_
 refine S.pure tOk zOk rfl rfl rfl ?_
 refine thenK_n ?_
 refine W.seq ?_
 refine W.cond rfl (fun c1 => ?_) (fun c1 => ?_)
 ·skip
  have hi := row_lt c1
  refine W.skip ?_
  refine thenK_n ?_
  refine W.seq ?_
  refine W.block ?_
  refine W.seq ?_
  refine W.region ?_
  refine S.pureE tOk zOk rfl (row_ok hi) (row_at Stg.z hi) rfl ?_
  refine S.pure tOk zOk rfl rfl rfl ?_
  refine S.alloc tOk rfl rfl rfl rfl ?_
  refine S.store tOk rfl rfl rfl rfl rfl rfl rfl rfl ?_
  refine thenK_n ?_
  refine W.seq ?_
  refine W.region ?_
  refine S.pure tOk zOk rfl rfl rfl ?_
  refine S.pure tOk zOk rfl rfl rfl ?_
  refine S.pure tOk zOk rfl rfl rfl ?_
  refine S.lookup tOk keyS (fD := fun v : List UInt8 => DV.one (.str v)) [] (tabOf zs) rfl rfl rfl rfl rfl rfl rfl rfl rfl rfl (show mapV true _ _ = V.tup [_, _] from rfl) ?_
  refine S.pure tOk zOk rfl rfl rfl ?_
  refine S.pure tOk zOk rfl rfl rfl ?_
  refine S.pure tOk zOk rfl rfl rfl ?_
  refine S.pure tOk zOk rfl rfl rfl ?_
  refine S.pure tOk zOk rfl rfl rfl ?_
  refine thenK_n ?_
  refine W.seq ?_
  refine W.region ?_
  refine S.pure tOk zOk rfl rfl rfl ?_
  refine S.pure tOk zOk rfl rfl rfl ?_
  refine thenK_n ?_
  refine W.cond rfl (fun c2 => ?_) (fun c2 => ?_)
  ·skip
   have hg : goneB (tabOf zs) (ys.getD i Stg.z) = true := c2
   refine W.region ?_
   refine S.pure tOk zOk rfl rfl rfl ?_
   refine S.pure tOk zOk rfl rfl rfl ?_
   refine S.pure tOk zOk rfl rfl rfl ?_
   refine S.pure tOk zOk rfl rfl rfl ?_
   refine S.pure tOk zOk rfl rfl rfl ?_
   refine S.slice tOk rfl rfl ?_
   refine S.append tOk rfl rfl rfl rfl rfl rfl rfl rfl rfl rfl rfl rfl (by have hq := unset_le (tabOf zs) ys i; show _ + 1 ≤ _; rw [List.length_map]; omega) rfl (unset_row hi hg) rfl ?_
   refine S.pure tOk zOk rfl rfl rfl ?_
   refine blockK_n ?_
   refine thenK_n ?_
   refine W.region ?_
   refine S.pure tOk zOk rfl rfl rfl ?_
   refine S.pure tOk zOk rfl rfl rfl ?_
   refine loop_n (ys.length - (i + 1)) (by omega) ⟨i + 1, _, _, hi, rfl, _, _, _, _, rfl, rfl, rfl, rfl, rfl, rfl, rfl, inc_i64 (by omega), trivial⟩
  ·skip
   have hg : goneB (tabOf zs) (ys.getD i Stg.z) = false := c2
   rw [unset_f hi hg]
   refine W.skip ?_
   refine blockK_n ?_
   refine thenK_n ?_
   refine W.region ?_
   refine S.pure tOk zOk rfl rfl rfl ?_
   refine S.pure tOk zOk rfl rfl rfl ?_
   refine loop_n (ys.length - (i + 1)) (by omega) ⟨i + 1, _, _, hi, rfl, _, _, _, _, rfl, rfl, rfl, rfl, rfl, rfl, rfl, inc_i64 (by omega), trivial⟩
 ·skip
  have hi := row_ge c1
  obtain rfl : i = ys.length := by omega
  refine W.exit ?_
  refine thenK_e ?_
  refine thenK_e ?_
  refine blockK_x ?_
  refine thenK_n ?_
  refine W.seq ?_
  refine W.seq ?_
  refine W.region ?_
  refine S.pure tOk zOk rfl rfl rfl ?_
  refine S.pure tOk zOk rfl rfl rfl ?_
  refine S.pure tOk zOk rfl rfl rfl ?_
  refine thenK_n ?_
  rw [chgTo_0]
  refine W.block ?_
  refine W.loop (fun k st => ∃ i : Nat, ∃ v : Nat, ∃ al : Bool, i ≤ zs.length ∧ k = zs.length - i ∧ ∃ t b2 r2 m2, st = ⟨t, [] ++ b2, [some ⟨al, v, 10, 44, ((chgTo ys zs i).map chgD)⟩] ++ r2, [tabD (tabOf ys), tabD (tabOf zs)] ++ m2⟩ ∧ holdsL t [(5, .one (.map 0)), (6, .one (.map 1)), (7, .one (.row 0 v 0 ((chgTo ys zs i).map chgD).length)), (43, .one (.d (.vec 2 (zs.map stgD)))), (44, .one (.d (.int .i64 ((zs.map stgD).length : Int)))), (45, .one (.d (.int .i64 (i : Int))))]) (zs.length) ⟨0, _, _, Nat.zero_le _, rfl, _, _, _, _, rfl, rfl, rfl, rfl, rfl, rfl, rfl, trivial⟩ ?_
  rintro k2 _ ⟨i, v, al, f2_0, rfl, t2, bb2, rr2, mm2, rfl, hh2⟩
  refine W.keepR _ _ _ _ _ _ _ hh2 rfl ?_
  refine W.seq ?_
  refine W.region ?_
  refine S.pure tOk zOk rfl rfl rfl ?_
  refine thenK_n ?_
  refine W.seq ?_
  refine W.cond rfl (fun c3 => ?_) (fun c3 => ?_)
  ·skip
   have hi := row_lt c3
   refine W.skip ?_
   refine thenK_n ?_
   refine W.seq ?_
   refine W.block ?_
   refine W.seq ?_
   refine W.region ?_
   refine S.pureE tOk zOk rfl (row_ok hi) (row_at Stg.z hi) rfl ?_
   refine S.pure tOk zOk rfl rfl rfl ?_
   refine S.alloc tOk rfl rfl rfl rfl ?_
   refine S.store tOk rfl rfl rfl rfl rfl rfl rfl rfl ?_
   refine thenK_n ?_
   refine W.seq ?_
   refine W.region ?_
   refine S.pure tOk zOk rfl rfl rfl ?_
   refine S.pure tOk zOk rfl rfl rfl ?_
   refine S.pure tOk zOk rfl rfl rfl ?_
   refine S.lookup tOk keyS (fD := fun v : List UInt8 => DV.one (.str v)) [] (tabOf ys) rfl rfl rfl rfl rfl rfl rfl rfl rfl rfl (show mapV true _ _ = V.tup [_, _] from rfl) ?_
   refine S.pure tOk zOk rfl rfl rfl ?_
   refine S.pure tOk zOk rfl rfl rfl ?_
   refine S.pure tOk zOk rfl rfl rfl ?_
   refine S.pure tOk zOk rfl rfl rfl ?_
   refine S.pure tOk zOk rfl rfl rfl ?_
   refine thenK_n ?_
   refine W.seq ?_
   refine W.region ?_
   refine S.pure tOk zOk rfl rfl rfl ?_
   refine S.pure tOk zOk rfl rfl rfl ?_
   refine S.pure tOk zOk rfl rfl rfl ?_
   refine S.pureG tOk zOk rfl rfl tg (fun _ => rfl) rfl ?_
   refine S.pureG tOk zOk rfl rfl tg (fun _ => rfl) rfl ?_
   refine S.pureG tOk zOk rfl rfl tg (fun _ => rfl) rfl ?_
   refine S.pureG tOk zOk rfl rfl tg (fun _ => rfl) rfl ?_
   refine S.pickOr tOk zOk rfl rfl tg ?_
   refine thenK_n ?_
   refine W.cond rfl (fun c4 => ?_) (fun c4 => ?_)
   ·skip
    have hg : newB (tabOf ys) (zs.getD i Stg.z) = true := c4
    refine W.region ?_
    refine S.pure tOk zOk rfl rfl rfl ?_
    refine S.pure tOk zOk rfl rfl rfl ?_
    refine S.pure tOk zOk rfl rfl rfl ?_
    refine S.slice tOk rfl rfl ?_
    refine S.append tOk rfl rfl rfl rfl rfl rfl rfl rfl rfl rfl rfl rfl (by have hq := chgTo_le ys zs i; show _ + 1 ≤ _; rw [List.length_map]; omega) rfl (set_row hi hg) rfl ?_
    refine S.pure tOk zOk rfl rfl rfl ?_
    refine blockK_n ?_
    refine thenK_n ?_
    refine W.region ?_
    refine S.pure tOk zOk rfl rfl rfl ?_
    refine S.pure tOk zOk rfl rfl rfl ?_
    refine loop_n (zs.length - (i + 1)) (by omega) ⟨i + 1, _, _, hi, rfl, _, _, _, _, rfl, rfl, rfl, rfl, rfl, rfl, inc_i64 (by omega), trivial⟩
   ·skip
    have hg : newB (tabOf ys) (zs.getD i Stg.z) = false := c4
    rw [set_skip hi hg]
    refine W.skip ?_
    refine blockK_n ?_
    refine thenK_n ?_
    refine W.region ?_
    refine S.pure tOk zOk rfl rfl rfl ?_
    refine S.pure tOk zOk rfl rfl rfl ?_
    refine loop_n (zs.length - (i + 1)) (by omega) ⟨i + 1, _, _, hi, rfl, _, _, _, _, rfl, rfl, rfl, rfl, rfl, rfl, inc_i64 (by omega), trivial⟩
  ·skip
   have hi := row_ge c3
   obtain rfl : i = zs.length := by omega
   refine W.exit ?_
   refine thenK_e ?_
   refine thenK_e ?_
   refine blockK_x ?_
   refine thenK_n ?_
   refine W.seq ?_
   refine W.freeze (ri := 0) (q := ⟨_, _, _, _, _⟩) [7] rfl (by intro k hk; simp at hk; subst hk; rfl) ?_
   refine W.region ?_
   refine S.pure tOk zOk rfl rfl rfl ?_
   refine S.pure tOk zOk rfl rfl rfl ?_
   refine thenK_n ?_
   refine W.ret ?_
   exact ⟨_, rfl, rfl, LeV.refl _⟩
theorem chg_at {l : List Chg} {i : Nat} (h : i < l.length) : V.one (.eptr ((l.map chgD).getD ((i : Int)).toNat [])) = V.one (.eptr (chgD (l.getD i ⟨0, [], []⟩))) := row_at (f := chgD) ⟨0, [], []⟩ h
theorem pc_EqualC (l : List Chg) (hl : l.length ≤ 1000000000) :
  PureCall Tryz.prog J 15 [.one (.d (.vec 10 (l.map chgD))), .one (.d (.vec 10 (l.map chgD)))] (.one (.d (.bool true))) := by
 refine PureCall.of_body tOk (fn := Tryz.f15) Tryz.func15 (by kernel_rfl) rfl (Nat.le_of_ble_eq_true rfl) (fun E => ?_)
 refine W.seq ?_
 refine W.region ?_
 refine S.pure tOk zOk rfl rfl rfl ?_
 refine thenK_n ?_
 refine W.seq ?_
 refine W.seq ?_
 refine W.region ?_
 refine S.pure tOk zOk rfl rfl rfl ?_
 refine S.pure tOk zOk rfl rfl rfl ?_
 refine S.pure tOk zOk rfl rfl rfl ?_
 refine S.pure tOk zOk rfl rfl rfl ?_
 refine S.pure tOk zOk rfl rfl rfl ?_
 refine thenK_n ?_
 refine W.cond rfl (fun c1 => ?_) (fun c1 => ?_)
 ·skip
  exact absurd c1 (by simp)
 ·skip
  refine W.skip ?_
  refine thenK_n ?_
  refine W.seq ?_
  refine W.seq ?_
  refine W.region ?_
  refine S.pure tOk zOk rfl rfl rfl ?_
  refine S.pure tOk zOk rfl rfl rfl ?_
  refine S.pure tOk zOk rfl rfl rfl ?_
  refine thenK_n ?_
  refine W.block ?_
  refine W.loop (fun k st => ∃ i : Nat, i ≤ l.length ∧ k = l.length - i ∧ ∃ t b2 r2 m2, st = ⟨t, [] ++ b2, [] ++ r2, [] ++ m2⟩ ∧ holdsL t [(0, .one (.d (.vec 10 (l.map chgD)))), (1, .one (.d (.vec 10 (l.map chgD)))), (12, .one (.d (.int .i64 ((l.map chgD).length : Int)))), (13, .one (.d (.int .i64 (i : Int))))]) (l.length) ⟨0, Nat.zero_le _, rfl, _, _, _, _, rfl, rfl, rfl, rfl, rfl, trivial⟩ ?_
  rintro k0 _ ⟨i, f0_0, rfl, t0, bb0, rr0, mm0, rfl, hh0⟩
  refine W.keepR _ _ _ _ _ _ _ hh0 rfl ?_
  refine W.seq ?_
  refine W.region ?_
  refine S.pure tOk zOk rfl rfl rfl ?_
  refine thenK_n ?_
  refine W.seq ?_
  refine W.cond rfl (fun c2 => ?_) (fun c2 => ?_)
  ·skip
   have hi := row_lt c2
   refine W.skip ?_
   refine thenK_n ?_
   refine W.seq ?_
   refine W.block ?_
   refine W.seq ?_
   refine W.region ?_
   refine S.pure tOk zOk rfl rfl rfl ?_
   refine S.pure tOk zOk rfl rfl rfl ?_
   refine thenK_n ?_
   refine W.seq ?_
   refine W.regionD mixed (by kernel_rfl) ?_
   refine D.pure tOk zOk rfl rfl rfl rfl ?_
   refine D.pure tOk zOk rfl rfl rfl rfl ?_
   refine D.pureE tOk zOk rfl rfl (row_ok hi) (chg_at hi) rfl ?_
   refine D.pure tOk zOk rfl rfl rfl rfl ?_
   refine D.pure tOk zOk rfl rfl rfl rfl ?_
   refine D.pure tOk zOk rfl rfl rfl rfl ?_
   refine D.pureE tOk zOk rfl rfl (row_ok hi) (chg_at hi) rfl ?_
   refine D.pure tOk zOk rfl rfl rfl rfl ?_
   refine D.pure tOk zOk rfl rfl rfl rfl ?_
   refine thenK_n ?_
   refine W.cond rfl (fun c3 => ?_) (fun c3 => ?_)
   ·skip
    exact absurd c3 (by simp)
   ·skip
    refine W.skip ?_
    refine blockK_n ?_
    refine thenK_n ?_
    refine W.region ?_
    refine S.pure tOk zOk rfl rfl rfl ?_
    refine S.pure tOk zOk rfl rfl rfl ?_
    refine loop_n (l.length - (i + 1)) (by omega) ⟨i + 1, hi, rfl, _, _, _, _, rfl, rfl, rfl, rfl, inc_i64 (by omega), trivial⟩
  ·skip
   refine W.exit ?_
   refine thenK_e ?_
   refine thenK_e ?_
   refine blockK_x ?_
   refine thenK_n ?_
   refine W.seq ?_
   refine W.region ?_
   refine S.pure tOk zOk rfl rfl rfl ?_
   refine thenK_n ?_
   refine W.ret ?_
   exact ⟨_, rfl, rfl, LeV.refl _⟩
theorem pc_migrate_ruleWords  :
  PureCall Tryz.prog J 99 [] (.one (.d (.vec 1 (ruleWs.map fun x => [.str x])))) := by
 refine PureCall.of_body tOk (fn := Tryz.f99) Tryz.func99 (by kernel_rfl) rfl (Nat.le_of_ble_eq_true rfl) (fun E => ?_)
 refine W.seq ?_
 refine W.region ?_
 refine S.pure tOk zOk rfl rfl rfl ?_
 refine thenK_n ?_
 refine W.seq ?_
 refine W.region ?_
 refine S.slice tOk rfl rfl ?_
 refine S.pure tOk zOk rfl rfl rfl ?_
 refine thenK_n ?_
 refine W.ret ?_
 exact ⟨_, rfl, rfl, LeV.refl _⟩
theorem pc_IndexS (l : List (List UInt8)) (x : List UInt8) (hl : l.length ≤ 1000000000) :
  PureCall Tryz.prog J 98 [.one (.d (.vec 1 (l.map fun x => [.str x]))), .one (.d (.str x))] (.one (.d (.int .i64 (idxOf (fun y => x == y) l)))) := by
 refine PureCall.of_body tOk (fn := Tryz.f98) Tryz.func98 (by kernel_rfl) rfl (Nat.le_of_ble_eq_true rfl) (fun E => ?_)
 refine W.seq ?_
 refine W.region ?_
 refine S.pure tOk zOk rfl rfl rfl ?_
 refine thenK_n ?_
 refine W.seq ?_
 refine W.seq ?_
 refine W.region ?_
 refine S.pure tOk zOk rfl rfl rfl ?_
 refine S.pure tOk zOk rfl rfl rfl ?_
 refine S.pure tOk zOk rfl rfl rfl ?_
 refine thenK_n ?_
 refine W.block ?_
 refine W.loop (fun k st => ∃ i : Nat, i ≤ l.length ∧ (l.take i).any (fun y => x == y) = false ∧ k = l.length - i ∧ ∃ t b2 r2 m2, st = ⟨t, [] ++ b2, [] ++ r2, [] ++ m2⟩ ∧ holdsL t [(0, .one (.d (.vec 1 (l.map fun x => [.str x])))), (1, .one (.d (.str x))), (7, .one (.d (.int .i64 ((l.map fun x => ([.str x] : List D)).length : Int)))), (8, .one (.d (.int .i64 (i : Int))))]) (l.length) ⟨0, Nat.zero_le _, by simp, rfl, _, _, _, _, rfl, rfl, rfl, rfl, rfl, trivial⟩ ?_
 rintro k0 _ ⟨i, f0_0, f0_1, rfl, t0, bb0, rr0, mm0, rfl, hh0⟩
 refine W.keepR _ _ _ _ _ _ _ hh0 rfl ?_
 refine W.seq ?_
 refine W.region ?_
 refine S.pure tOk zOk rfl rfl rfl ?_
 refine thenK_n ?_
 refine W.seq ?_
 refine W.cond rfl (fun c1 => ?_) (fun c1 => ?_)
 ·skip
  have hi := row_lt c1
  refine W.skip ?_
  refine thenK_n ?_
  refine W.seq ?_
  refine W.block ?_
  refine W.seq ?_
  refine W.region ?_
  refine S.pure tOk zOk rfl rfl rfl ?_
  refine S.pure tOk zOk rfl rfl rfl ?_
  refine thenK_n ?_
  refine W.seq ?_
  refine W.region ?_
  refine S.pure tOk zOk rfl rfl rfl ?_
  refine S.pure tOk zOk rfl rfl rfl ?_
  refine S.pure tOk zOk rfl rfl rfl ?_
  refine S.pureE tOk zOk rfl (row_ok hi) (row_at [] hi) rfl ?_
  refine S.pure tOk zOk rfl rfl rfl ?_
  refine S.pure tOk zOk rfl rfl rfl ?_
  refine thenK_n ?_
  refine W.cond rfl (fun c2 => ?_) (fun c2 => ?_)
  ·skip
   refine W.seq ?_
   refine W.region ?_
   refine S.pure tOk zOk rfl rfl rfl ?_
   refine S.pure tOk zOk rfl rfl rfl ?_
   refine thenK_n ?_
   refine W.ret ?_
   refine blockK_r ?_
   refine thenK_r ?_
   refine thenK_r ?_
   refine blockK_r ?_
   refine thenK_r ?_
   exact ⟨_, rfl, rfl, LeV.of_eq (congrArg (fun x => V.one (C.d (D.int .i64 x))) (idxOf_at (d := []) hi f0_1 c2).symm)⟩
  ·skip
   refine W.skip ?_
   refine blockK_n ?_
   refine thenK_n ?_
   refine W.region ?_
   refine S.pure tOk zOk rfl rfl rfl ?_
   refine S.pure tOk zOk rfl rfl rfl ?_
   refine loop_n (l.length - (i + 1)) (by omega) ⟨i + 1, hi, any_take (d := []) hi f0_1 c2, rfl, _, _, _, _, rfl, rfl, rfl, rfl, inc_i64 (by omega), trivial⟩
 ·skip
  have hi := row_ge c1
  refine W.exit ?_
  refine thenK_e ?_
  refine thenK_e ?_
  refine blockK_x ?_
  refine thenK_n ?_
  refine W.seq ?_
  refine W.region ?_
  refine S.pure tOk zOk rfl rfl rfl ?_
  refine thenK_n ?_
  refine W.ret ?_
  exact ⟨_, rfl, rfl, LeV.of_eq (congrArg (fun x => V.one (C.d (D.int .i64 x))) (idxOf_none (any_end hi f0_1)).symm)⟩
theorem pc_idx6 : PureCall Tryz.prog J 98 [.one (.d (.vec 1 (ruleWs.map fun x => [.str x]))), .one (.d (.str [100, 114, 111, 112]))] (.one (.d (.int .i64 6))) := by
  have h := pc_IndexS ruleWs [100, 114, 111, 112] (by decide)
  rw [show idxOf (fun y => [100, 114, 111, 112] == y) ruleWs = 6 from by decide] at h
  exact h
theorem pc_cutA : PureCall Tryz.prog J 54 [.one (.d (.str [100, 114, 111, 112, 32, 97, 47, 98])), .one (.d (.str [32]))] (.tup [.one (.d (.str [100, 114, 111, 112])), .one (.d (.str [97, 47, 98])), .one (.d (.bool true))]) := by
  have h := pc_Cut [100, 114, 111, 112, 32, 97, 47, 98] [32] (by decide)
  rw [show Lib.cut [100, 114, 111, 112, 32, 97, 47, 98] [32] = ([100, 114, 111, 112], [97, 47, 98], true) from by decide] at h
  exact h
theorem pc_cutB : PureCall Tryz.prog J 54 [.one (.d (.str [97, 47, 98])), .one (.d (.str [32]))] (.tup [.one (.d (.str [97, 47, 98])), .one (.d (.str [])), .one (.d (.bool false))]) := by
  have h := pc_Cut [97, 47, 98] [32] (by decide)
  rw [show Lib.cut [97, 47, 98] [32] = ([97, 47, 98], [], false) from by decide] at h
  exact h
theorem pc_uses6  :
  PureCall Tryz.prog J 100 [.one (.d (.int .i64 6))] (.tup [.one (.d (.bool false)), .one (.d (.bool false)), .one (.d (.bool false))]) := by
 refine PureCall.of_body tOk (fn := Tryz.f100) Tryz.func100 (by kernel_rfl) rfl (Nat.le_of_ble_eq_true rfl) (fun E => ?_)
 refine W.seq ?_
 refine W.region ?_
 refine S.pure tOk zOk rfl rfl rfl ?_
 refine S.pure tOk zOk rfl rfl rfl ?_
 refine S.pure tOk zOk rfl rfl rfl ?_
 refine thenK_n ?_
 refine W.seq ?_
 refine W.seq ?_
 refine W.region ?_
 refine S.pure tOk zOk rfl rfl rfl ?_
 refine thenK_n ?_
 refine W.block ?_
 refine W.seq ?_
 refine W.seq ?_
 refine W.region ?_
 refine S.pure tOk zOk rfl rfl rfl ?_
 refine S.pure tOk zOk rfl rfl rfl ?_
 refine thenK_n ?_
 refine W.condF rfl rfl ?_
 refine W.seq ?_
 refine W.region ?_
 refine S.pure tOk zOk rfl rfl rfl ?_
 refine S.pure tOk zOk rfl rfl rfl ?_
 refine thenK_n ?_
 refine W.condF rfl rfl ?_
 refine W.region ?_
 refine S.pure tOk zOk rfl rfl rfl ?_
 refine S.pure tOk zOk rfl rfl rfl ?_
 refine thenK_n ?_
 refine W.condF rfl rfl ?_
 refine W.seq ?_
 refine W.seq ?_
 refine W.region ?_
 refine S.pure tOk zOk rfl rfl rfl ?_
 refine S.pure tOk zOk rfl rfl rfl ?_
 refine thenK_n ?_
 refine W.condF rfl rfl ?_
 refine W.region ?_
 refine S.pure tOk zOk rfl rfl rfl ?_
 refine S.pure tOk zOk rfl rfl rfl ?_
 refine thenK_n ?_
 refine W.condF rfl rfl ?_
 refine W.seq ?_
 refine W.seq ?_
 refine W.region ?_
 refine S.pure tOk zOk rfl rfl rfl ?_
 refine S.pure tOk zOk rfl rfl rfl ?_
 refine thenK_n ?_
 refine W.condF rfl rfl ?_
 refine W.region ?_
 refine S.pure tOk zOk rfl rfl rfl ?_
 refine S.pure tOk zOk rfl rfl rfl ?_
 refine thenK_n ?_
 refine W.condF rfl rfl ?_
 refine W.skip ?_
 refine blockK_n ?_
 refine thenK_n ?_
 refine W.seq ?_
 refine W.region ?_
 refine S.pure tOk zOk rfl rfl rfl ?_
 refine S.pure tOk zOk rfl rfl rfl ?_
 refine S.pure tOk zOk rfl rfl rfl ?_
 refine thenK_n ?_
 refine W.ret ?_
 exact ⟨_, rfl, rfl, LeV.refl _⟩
theorem pc_migrate_below (a b : List UInt8) (hb : b.length ≤ 1000000000) :
  PureCall Tryz.prog J 115 [.one (.d (.str a)), .one (.d (.str b))] (.one (.d (.bool (Lib.hasPrefix a (b ++ [47]))))) := by
 refine PureCall.of_body tOk (fn := Tryz.f115) Tryz.func115 (by kernel_rfl) rfl (Nat.le_of_ble_eq_true rfl) (fun E => ?_)
 refine W.seq ?_
 refine W.region ?_
 refine S.pure tOk zOk rfl rfl rfl ?_
 refine thenK_n ?_
 refine W.seq ?_
 refine W.region ?_
 refine S.pure tOk zOk rfl rfl rfl ?_
 refine S.pure tOk zOk rfl rfl rfl ?_
 refine S.pure tOk zOk rfl (cat_ok (by simp [-List.getD_eq_getElem?_getD]; omega)) rfl ?_
 refine S.call rfl rfl rfl rfl rfl (pc_HasPrefix a (b ++ [47])) ?_
 refine S.pure tOk zOk rfl rfl rfl ?_
 refine thenK_n ?_
 refine W.ret ?_
 exact ⟨_, rfl, rfl, LeV.refl _⟩
theorem pc_CheckRule6  :
  PureCall Tryz.prog J 104 [.agg [.d (.int .i64 6), .d (.str [97, 47, 98]), .d (.str []), .d (.str []), .d (.str [])]] (.one (.d (.int .i64 0))) := by
 refine PureCall.of_body tOk (fn := Tryz.f104) Tryz.func104 (by kernel_rfl) rfl (Nat.le_of_ble_eq_true rfl) (fun E => ?_)
 refine W.seq ?_
 refine W.region ?_
 refine S.box rfl rfl rfl rfl ?_
 refine S.pure tOk zOk rfl rfl rfl ?_
 refine thenK_n ?_
 refine W.seq ?_
 refine W.seq ?_
 refine W.region ?_
 refine S.pure tOk zOk rfl rfl rfl ?_
 refine S.pure tOk zOk rfl rfl rfl ?_
 refine S.pure tOk zOk rfl rfl rfl ?_
 refine S.pure tOk zOk rfl rfl rfl ?_
 refine S.pureG tOk zOk rfl rfl tg (fun _ => rfl) rfl ?_
 refine S.pureG tOk zOk rfl rfl tg (fun _ => rfl) rfl ?_
 refine S.pureG tOk zOk rfl rfl tg (fun _ => rfl) rfl ?_
 refine S.pickOr tOk zOk rfl rfl tg ?_
 refine thenK_n ?_
 refine W.condF rfl rfl ?_
 refine W.skip ?_
 refine thenK_n ?_
 refine W.seq ?_
 refine W.region ?_
 refine S.pure tOk zOk rfl rfl rfl ?_
 refine S.pure tOk zOk rfl rfl rfl ?_
 refine S.call rfl rfl rfl rfl rfl (pc_uses6) ?_
 refine S.pure tOk zOk rfl rfl rfl ?_
 refine S.pure tOk zOk rfl rfl rfl ?_
 refine S.pure tOk zOk rfl rfl rfl ?_
 refine S.pure tOk zOk rfl rfl rfl ?_
 refine S.pure tOk zOk rfl rfl rfl ?_
 refine S.pure tOk zOk rfl rfl rfl ?_
 refine S.pure tOk zOk rfl rfl rfl ?_
 refine thenK_n ?_
 refine W.seq ?_
 refine W.block ?_
 refine W.seq ?_
 refine W.region ?_
 refine S.pure tOk zOk rfl rfl rfl ?_
 refine S.pure tOk zOk rfl rfl rfl ?_
 refine S.call rfl rfl rfl rfl rfl (pc_pathAB) ?_
 refine S.pure tOk zOk rfl rfl rfl ?_
 refine S.pure tOk zOk rfl rfl rfl ?_
 refine S.pureG tOk zOk rfl rfl tg (fun _ => rfl) rfl ?_
 refine S.pureG tOk zOk rfl rfl tg (fun _ => rfl) rfl ?_
 refine S.pureG tOk zOk rfl rfl tg (fun _ => rfl) rfl ?_
 refine S.pureG tOk zOk rfl rfl tg (fun _ => rfl) rfl ?_
 refine S.callG rfl rfl rfl rfl tg rfl rfl (fun _ => pc_ver_IsPath [] (by decide)) ?_
 refine S.pureG tOk zOk rfl rfl tg (fun _ => rfl) rfl ?_
 refine S.pickAndG tOk zOk rfl rfl rfl tg tg ?_
 refine S.pickOr tOk zOk rfl rfl tg ?_
 refine S.pure tOk zOk rfl rfl rfl ?_
 refine thenK_n ?_
 refine W.condF rfl rfl ?_
 refine W.seq ?_
 refine W.region ?_
 refine S.pure tOk zOk rfl rfl rfl ?_
 refine S.pure tOk zOk rfl rfl rfl ?_
 refine S.pure tOk zOk rfl rfl rfl ?_
 refine S.pureG tOk zOk rfl rfl tg (fun _ => rfl) rfl ?_
 refine S.pureG tOk zOk rfl rfl tg (fun _ => rfl) rfl ?_
 refine S.pureG tOk zOk rfl rfl tg (fun _ => rfl) rfl ?_
 refine S.pickAnd tOk zOk rfl rfl tg ?_
 refine S.pure tOk zOk rfl rfl rfl ?_
 refine S.pureG tOk zOk rfl rfl tg (fun _ => rfl) rfl ?_
 refine S.pureG tOk zOk rfl rfl tg (fun _ => rfl) rfl ?_
 refine S.pureG tOk zOk rfl rfl tg (fun _ => rfl) rfl ?_
 refine S.pureG tOk zOk rfl rfl tg (fun _ => rfl) rfl ?_
 refine S.pureG tOk zOk rfl rfl tg (fun _ => rfl) rfl ?_
 refine S.pureG tOk zOk rfl rfl tg (fun _ => rfl) rfl ?_
 refine S.pickAndG tOk zOk rfl rfl rfl tg tg ?_
 refine S.pickOr tOk zOk rfl rfl tg ?_
 refine S.pure tOk zOk rfl rfl rfl ?_
 refine S.pureG tOk zOk rfl rfl tg (fun _ => rfl) rfl ?_
 refine S.pureG tOk zOk rfl rfl tg (fun _ => rfl) rfl ?_
 refine S.pureG tOk zOk rfl rfl tg (fun _ => rfl) rfl ?_
 refine S.pureG tOk zOk rfl rfl tg (fun _ => rfl) rfl ?_
 refine S.pureG tOk zOk rfl rfl tg (fun _ => rfl) rfl ?_
 refine S.pureG tOk zOk rfl rfl tg (fun _ => rfl) rfl ?_
 refine S.pickAndG tOk zOk rfl rfl rfl tg tg ?_
 refine S.pickOr tOk zOk rfl rfl tg ?_
 refine S.pure tOk zOk rfl rfl rfl ?_
 refine S.pureG tOk zOk rfl rfl tg (fun _ => rfl) rfl ?_
 refine S.pureG tOk zOk rfl rfl tg (fun _ => rfl) rfl ?_
 refine S.callG rfl rfl rfl rfl tg rfl rfl (fun _ => pc_valE) ?_
 refine S.pureG tOk zOk rfl rfl tg (fun _ => rfl) rfl ?_
 refine S.pickOr tOk zOk rfl rfl tg ?_
 refine S.pure tOk zOk rfl rfl rfl ?_
 refine S.pureG tOk zOk rfl rfl tg (fun _ => rfl) rfl ?_
 refine S.pureG tOk zOk rfl rfl tg (fun _ => rfl) rfl ?_
 refine S.callG rfl rfl rfl rfl tg rfl rfl (fun _ => pc_valE) ?_
 refine S.pureG tOk zOk rfl rfl tg (fun _ => rfl) rfl ?_
 refine S.pickOr tOk zOk rfl rfl tg ?_
 refine S.pure tOk zOk rfl rfl rfl ?_
 refine thenK_n ?_
 refine W.condF rfl rfl ?_
 refine W.seq ?_
 refine W.region ?_
 refine S.pure tOk zOk rfl rfl rfl ?_
 refine S.pure tOk zOk rfl rfl rfl ?_
 refine S.pureG tOk zOk rfl rfl tg (fun _ => rfl) rfl ?_
 refine S.pureG tOk zOk rfl rfl tg (fun _ => rfl) rfl ?_
 refine S.pureG tOk zOk rfl rfl tg (fun _ => rfl) rfl ?_
 refine S.pureG tOk zOk rfl rfl tg (fun _ => rfl) rfl ?_
 refine S.pureG tOk zOk rfl rfl tg (fun _ => rfl) rfl ?_
 refine S.pickAnd tOk zOk rfl rfl tg ?_
 refine S.pure tOk zOk rfl rfl rfl ?_
 refine thenK_n ?_
 refine W.condF rfl rfl ?_
 refine W.seq ?_
 refine W.region ?_
 refine S.pure tOk zOk rfl rfl rfl ?_
 refine S.pure tOk zOk rfl rfl rfl ?_
 refine S.pure tOk zOk rfl rfl rfl ?_
 refine S.pure tOk zOk rfl rfl rfl ?_
 refine S.pureG tOk zOk rfl rfl tg (fun _ => rfl) rfl ?_
 refine S.pureG tOk zOk rfl rfl tg (fun _ => rfl) rfl ?_
 refine S.pureG tOk zOk rfl rfl tg (fun _ => rfl) rfl ?_
 refine S.pureG tOk zOk rfl rfl tg (fun _ => rfl) rfl ?_
 refine S.callG rfl rfl rfl rfl tg rfl rfl (fun _ => pc_migrate_below [97, 47, 98] [] (by decide)) ?_
 refine S.pureG tOk zOk rfl rfl tg (fun _ => rfl) rfl ?_
 refine S.pureG tOk zOk rfl rfl tg (fun _ => rfl) rfl ?_
 refine S.pureG tOk zOk rfl rfl tg (fun _ => rfl) rfl ?_
 refine S.pureG tOk zOk rfl rfl tg (fun _ => rfl) rfl ?_
 refine S.pureG tOk zOk rfl rfl tg (fun _ => rfl) rfl ?_
 refine S.callG rfl rfl rfl rfl tg rfl rfl (fun _ => pc_migrate_below [] [97, 47, 98] (by decide)) ?_
 refine S.pickOrG tOk zOk rfl rfl rfl tg tg ?_
 refine S.pickAnd tOk zOk rfl rfl tg ?_
 refine S.pure tOk zOk rfl rfl rfl ?_
 refine thenK_n ?_
 refine W.condF rfl rfl ?_
 refine W.seq ?_
 refine W.region ?_
 refine S.pure tOk zOk rfl rfl rfl ?_
 refine S.pure tOk zOk rfl rfl rfl ?_
 refine S.pureG tOk zOk rfl rfl tg (fun _ => rfl) rfl ?_
 refine S.pureG tOk zOk rfl rfl tg (fun _ => rfl) rfl ?_
 refine S.pureG tOk zOk rfl rfl tg (fun _ => rfl) rfl ?_
 refine S.pureG tOk zOk rfl rfl tg (fun _ => rfl) rfl ?_
 refine S.pureG tOk zOk rfl rfl tg (fun _ => rfl) rfl ?_
 refine S.pickAnd tOk zOk rfl rfl tg ?_
 refine S.pure tOk zOk rfl rfl rfl ?_
 refine thenK_n ?_
 refine W.condF rfl rfl ?_
 refine W.skip ?_
 refine blockK_n ?_
 refine thenK_n ?_
 refine W.seq ?_
 refine W.region ?_
 refine S.pure tOk zOk rfl rfl rfl ?_
 refine thenK_n ?_
 refine W.ret ?_
 exact ⟨_, rfl, rfl, LeV.refl _⟩
theorem pc_ParseRule6  :
  PureCall Tryz.prog J 49 [.one (.d (.str [100, 114, 111, 112, 32, 97, 47, 98]))] (.tup [.agg [.d (.int .i64 6), .d (.str [97, 47, 98]), .d (.str []), .d (.str []), .d (.str [])], .one (.d (.int .i64 0))]) := by
 refine PureCall.of_body tOk (fn := Tryz.f49) Tryz.func49 (by kernel_rfl) rfl (Nat.le_of_ble_eq_true rfl) (fun E => ?_)
 refine W.seq ?_
 refine W.region ?_
 refine S.alloc tOk rfl rfl rfl rfl ?_
 refine S.pure tOk zOk rfl rfl rfl ?_
 refine thenK_n ?_
 refine W.seq ?_
 refine W.seq ?_
 refine W.region ?_
 refine S.pure tOk zOk rfl rfl rfl ?_
 refine S.pure tOk zOk rfl rfl rfl ?_
 refine S.pure tOk zOk rfl rfl rfl ?_
 refine thenK_n ?_
 refine W.condF rfl rfl ?_
 refine W.skip ?_
 refine thenK_n ?_
 refine W.seq ?_
 refine W.region ?_
 refine S.pure tOk zOk rfl rfl rfl ?_
 refine S.call rfl rfl rfl rfl rfl (pc_cutA) ?_
 refine S.pure tOk zOk rfl rfl rfl ?_
 refine S.pure tOk zOk rfl rfl rfl ?_
 refine S.pure tOk zOk rfl rfl rfl ?_
 refine S.pure tOk zOk rfl rfl rfl ?_
 refine S.pure tOk zOk rfl rfl rfl ?_
 refine S.pure tOk zOk rfl rfl rfl ?_
 refine S.pure tOk zOk rfl rfl rfl ?_
 refine thenK_n ?_
 refine W.seq ?_
 refine W.region ?_
 refine S.call rfl rfl rfl rfl rfl (pc_migrate_ruleWords) ?_
 refine S.pure tOk zOk rfl rfl rfl ?_
 refine S.call rfl rfl rfl rfl rfl (pc_idx6) ?_
 refine S.pure tOk zOk rfl rfl rfl ?_
 refine S.alloc tOk rfl rfl rfl rfl ?_
 refine S.store tOk rfl rfl rfl rfl rfl rfl rfl rfl ?_
 refine thenK_n ?_
 refine W.seq ?_
 refine W.seq ?_
 refine W.region ?_
 refine S.pure tOk zOk rfl rfl rfl ?_
 refine S.pure tOk zOk rfl rfl rfl ?_
 refine S.pure tOk zOk rfl rfl rfl ?_
 refine S.pureG tOk zOk rfl rfl tg (fun _ => rfl) rfl ?_
 refine S.pureG tOk zOk rfl rfl tg (fun _ => rfl) rfl ?_
 refine S.pureG tOk zOk rfl rfl tg (fun _ => rfl) rfl ?_
 refine S.pickOr tOk zOk rfl rfl tg ?_
 refine thenK_n ?_
 refine W.condF rfl rfl ?_
 refine W.skip ?_
 refine thenK_n ?_
 refine W.seq ?_
 refine W.region ?_
 refine S.pure tOk zOk rfl rfl rfl ?_
 refine S.pure tOk zOk rfl rfl rfl ?_
 refine S.call rfl rfl rfl rfl rfl (pc_uses6) ?_
 refine S.pure tOk zOk rfl rfl rfl ?_
 refine S.pure tOk zOk rfl rfl rfl ?_
 refine S.pure tOk zOk rfl rfl rfl ?_
 refine S.pure tOk zOk rfl rfl rfl ?_
 refine S.pure tOk zOk rfl rfl rfl ?_
 refine S.pure tOk zOk rfl rfl rfl ?_
 refine S.pure tOk zOk rfl rfl rfl ?_
 refine thenK_n ?_
 refine W.seq ?_
 refine W.region ?_
 refine S.pure tOk zOk rfl rfl rfl ?_
 refine thenK_n ?_
 refine W.seq ?_
 refine W.region ?_
 refine S.pure tOk zOk rfl rfl rfl ?_
 refine S.call rfl rfl rfl rfl rfl (pc_cutB) ?_
 refine S.pure tOk zOk rfl rfl rfl ?_
 refine S.pure tOk zOk rfl rfl rfl ?_
 refine S.pure tOk zOk rfl rfl rfl ?_
 refine S.pure tOk zOk rfl rfl rfl ?_
 refine S.pure tOk zOk rfl rfl rfl ?_
 refine S.store tOk rfl rfl rfl rfl rfl rfl rfl rfl ?_
 refine S.pure tOk zOk rfl rfl rfl ?_
 refine S.pure tOk zOk rfl rfl rfl ?_
 refine thenK_n ?_
 refine W.seq ?_
 refine W.seq ?_
 refine W.region ?_
 refine S.pure tOk zOk rfl rfl rfl ?_
 refine S.pure tOk zOk rfl rfl rfl ?_
 refine S.pure tOk zOk rfl rfl rfl ?_
 refine S.pure tOk zOk rfl rfl rfl ?_
 refine S.pureG tOk zOk rfl rfl tg (fun _ => rfl) rfl ?_
 refine S.pureG tOk zOk rfl rfl tg (fun _ => rfl) rfl ?_
 refine S.pureG tOk zOk rfl rfl tg (fun _ => rfl) rfl ?_
 refine S.pureG tOk zOk rfl rfl tg (fun _ => rfl) rfl ?_
 refine S.pickOrG tOk zOk rfl rfl rfl tg tg ?_
 refine S.pureG tOk zOk rfl rfl tg (fun _ => rfl) rfl ?_
 refine S.pureG tOk zOk rfl rfl tg (fun _ => rfl) rfl ?_
 refine S.pickOrG tOk zOk rfl rfl rfl tg tg ?_
 refine S.pureG tOk zOk rfl rfl tg (fun _ => rfl) rfl ?_
 refine S.pickOr tOk zOk rfl rfl tg ?_
 refine thenK_n ?_
 refine W.condF rfl rfl ?_
 refine W.skip ?_
 refine thenK_n ?_
 refine W.seq ?_
 refine W.seq ?_
 refine W.region ?_
 refine S.pure tOk zOk rfl rfl rfl ?_
 refine thenK_n ?_
 refine W.condF rfl rfl ?_
 refine W.skip ?_
 refine thenK_n ?_
 refine W.seq ?_
 refine W.seq ?_
 refine W.region ?_
 refine S.pure tOk zOk rfl rfl rfl ?_
 refine thenK_n ?_
 refine W.condF rfl rfl ?_
 refine W.skip ?_
 refine thenK_n ?_
 refine W.seq ?_
 refine W.seq ?_
 refine W.region ?_
 refine S.pure tOk zOk rfl rfl rfl ?_
 refine thenK_n ?_
 refine W.condF rfl rfl ?_
 refine W.skip ?_
 refine thenK_n ?_
 refine W.seq ?_
 refine W.seq ?_
 refine W.region ?_
 refine S.pure tOk zOk rfl rfl rfl ?_
 refine S.pure tOk zOk rfl rfl rfl ?_
 refine thenK_n ?_
 refine W.condF rfl rfl ?_
 refine W.skip ?_
 refine thenK_n ?_
 refine W.seq ?_
 refine W.seq ?_
 refine W.region ?_
 refine S.pure tOk zOk rfl rfl rfl ?_
 refine S.call rfl rfl rfl rfl rfl (pc_CheckRule6) ?_
 refine S.pure tOk zOk rfl rfl rfl ?_
 refine thenK_n ?_
 refine W.seq ?_
 refine W.region ?_
 refine S.pure tOk zOk rfl rfl rfl ?_
 refine S.pure tOk zOk rfl rfl rfl ?_
 refine thenK_n ?_
 refine W.condF rfl rfl ?_
 refine W.skip ?_
 refine thenK_n ?_
 refine W.seq ?_
 refine W.region ?_
 refine S.pure tOk zOk rfl rfl rfl ?_
 refine S.store tOk rfl rfl rfl rfl rfl rfl rfl rfl ?_
 refine S.pure tOk zOk rfl rfl rfl ?_
 refine thenK_n ?_
 refine W.ret ?_
 exact ⟨_, rfl, rfl, LeV.refl _⟩
theorem pc_outlaw2_migrates  :
  PureCall Tryz.prog J 9 [] (.one (.d (.bool true))) := by
 refine PureCall.of_body tOk (fn := Tryz.f9) Tryz.func9 (by kernel_rfl) rfl (Nat.le_of_ble_eq_true rfl) (fun E => ?_)
 refine W.seq ?_
 refine W.region ?_
 refine S.pure tOk zOk rfl rfl rfl ?_
 refine thenK_n ?_
 refine W.seq ?_
 refine W.region ?_
 refine S.call rfl rfl rfl rfl rfl (pc_ParseRule6) ?_
 refine S.pure tOk zOk rfl rfl rfl ?_
 refine S.pure tOk zOk rfl rfl rfl ?_
 refine S.pure tOk zOk rfl rfl rfl ?_
 refine S.alloc tOk rfl rfl rfl rfl ?_
 refine S.store tOk rfl rfl rfl rfl rfl rfl rfl rfl ?_
 refine S.pure tOk zOk rfl rfl rfl ?_
 refine thenK_n ?_
 refine W.seq ?_
 refine W.region ?_
 refine S.pure tOk zOk rfl rfl rfl ?_
 refine S.pure tOk zOk rfl rfl rfl ?_
 refine S.pure tOk zOk rfl rfl rfl ?_
 refine S.pureG tOk zOk rfl rfl tg (fun _ => rfl) rfl ?_
 refine S.pureG tOk zOk rfl rfl tg (fun _ => rfl) rfl ?_
 refine S.pureG tOk zOk rfl rfl tg (fun _ => rfl) rfl ?_
 refine S.pickAnd tOk zOk rfl rfl tg ?_
 refine S.pure tOk zOk rfl rfl rfl ?_
 refine thenK_n ?_
 refine W.ret ?_
 exact ⟨_, rfl, rfl, LeV.refl _⟩
end Go.Proofs.YtcchfmilleffjaaGreatDoor

/- Calls under a guard that turn what they are lent. -/
set_option linter.unusedVariables false
set_option linter.unusedSimpArgs false
namespace Go.Proofs.YtcchfmilleffjaaGreatDoor
open Go Go.RowKit
section
variable {J : Inv} {k0 : Lens} {E : Env J k0} {P : Program} {T : TypeId → Option TI} {n : Nat} {t : Nat → V} {b : List (List C)} {r : List (Option RowO)} {m : List (List (DV × DV))} {ops : Array Oper} {l : List Oper}
  {K : St → Prop} {i : Nat} {ty : TypeId} {pos : String} {after : Array Edge}
theorem S.hcallXG {X : Type} {φ : X → Prop} {fo : Operand} {args : Array Operand} {ats : Array TypeId} {u : V} {f : FuncId} {caps : List C} {us ws : List V} {rv : X → V} {b' : X → List (List C)} {r' : X → List (Option RowO)} {m' : X → List (List (DV × DV))} {j : Nat} {want c : Bool}
    (hg : guardV n ops t j want = some c) (hu : opd n ⟨bare t, b, r, m⟩ fo = (true, u)) (hc : calleeV u = some (f, caps)) (ha : allOpdL n ⟨bare t, b, r, m⟩ args.toList = (true, us)) (ht : allT c (tagsO t (fo :: args.toList)))
    (hw : forceVs (appL us (caps.map V.one)) = some ws) (pc : c = true → HCall P J f ws b r m (isX φ rv b' r' m')) (x0 : X) (hb : b' x0 = b) (hr : r' x0 = r) (hm : m' x0 = m)
    (k : ∀ x, (c = true → φ x) → (c = false → x = x0) → WL E P n ops l K ⟨upd t i (.when c (rv x)), b' x, r' x, m' x⟩) : WL E P n ops (⟨some i, .call ⟨.value fo, args, ats⟩, ty, pos, after, some (j, want)⟩ :: l) K ⟨t, b, r, m⟩ := by
  obtain rfl := forceVs_eq hw
  rw [appL_eq] at pc
  intro g a w rel next Qx hn
  rw [guardB_ok rel rfl (guardV_B hg)]
  cases c with
  | true =>
    rw [if_pos rfl]
    have h1 := allT_mem ht rfl
    have hu' : opd n ⟨t, b, r, m⟩ fo = (true, u) := (opds_bare h1 (List.mem_cons_self ..)).trans hu
    have ha' : allOpdL n ⟨t, b, r, m⟩ args.toList = (true, us) := (allOpdL_congr _ (fun p hp => opds_bare h1 (List.mem_cons_of_mem _ hp))).trans ha
    refine hcall_wp rel rfl hu' hc ha' (pc rfl) (fun v g' w' rv' b1 r1 m1 rel' hv ⟨x, hx, e1, e2, e3, e4⟩ => ?_)
    subst e1; subst e2; subst e3; subst e4
    exact hn _ g' _ _ (k x (fun _ => hx) (fun h => by cases h)) (rel'.put_same (some i) (.whenT _ _ hv))
  | false =>
    rw [if_neg (by simp)]
    have hk := k x0 (fun h => by cases h) (fun _ => rfl)
    rw [hb, hr, hm] at hk
    exact hn _ g _ _ hk (rel.put_same (some i) (.whenF _))
/-- A store into an own row, in a region that draws. -/
theorem OpZ.rstore (hT : TabOk P T) {te : TypeId} {ti : TI} {x y : Operand} {ri ver kk fo : Nat} {v : V} {ds : List C} {dd : List D} {o : RowO} {xs' : List (List D)} {r' : List (Option RowO)} (hi : T te = some ti)
    (hx : opd n ⟨t, b, r, m⟩ x = (true, .one (.rptr ri ver kk fo))) (hy : opd n ⟨t, b, r, m⟩ y = (true, v)) (hv : cellsOfV v = some ds) (hd : allDs ds = some dd) (ho : rowAt ⟨t, b, r, m⟩ ri ver = some o)
    (hs : (Nat.beq ds.length ti.size && Nat.ble (fo + dd.length) o.sz) = true) (hxs : o.xs.set kk (putD (o.xs.getD kk []) fo dd) = xs') (hr : forceL (r.set ri (some ⟨o.al, o.ver, o.sz, o.ty, xs'⟩)) = some r')
    (k : K ⟨t, b, r', m⟩) : OpZ E P n ops (⟨none, .store te x y, ty, pos, after, none⟩ : Oper) K ⟨t, b, r, m⟩ := by
  have hm : (⟨none, .store te x y, ty, pos, after, none⟩ : Oper).op.operands.toList = [x, y] := by simp [Op.operands]
  refine ⟨fun v1 b1 r1 m1 => b1 = b ∧ r1 = r' ∧ m1 = m, fun t' ht => ?_, fun v1 b1 r1 m1 ⟨e1, e2, e3⟩ => by subst e1; subst e2; subst e3; exact k⟩
  have h1 := looks_opd (r := r) (m := m) (b := b) (b1 := b) (n := n) (x := x) (o := ⟨none, .store te x y, ty, pos, after, none⟩) (by rw [hm]; simp) ht
  have h2 := looks_opd (r := r) (m := m) (b := b) (b1 := b) (n := n) (x := y) (o := ⟨none, .store te x y, ty, pos, after, none⟩) (by rw [hm]; simp) ht
  exact S.rstore (t := t') (l := []) (K := fun s1 => ∃ v b2 r2 m2, s1 = ⟨updO t' none v, b2, r2, m2⟩ ∧ (b2 = b ∧ r2 = r' ∧ m2 = m)) hT hi (h1.trans hx) (h2.trans hy) hv hd ho hs hxs hr ⟨.junk, b, r', m, rfl, rfl, rfl, rfl⟩
end
end Go.Proofs.YtcchfmilleffjaaGreatDoor

/- Plain laws: runs of rules, step by step. -/
set_option linter.unusedVariables false
set_option linter.unusedSimpArgs false
namespace Go.Proofs.YtcchfmilleffjaaGreatDoor
open Go
theorem mem_getD {α : Type} {l : List α} {i : Nat} {d : α} (hi : i < l.length) : l.getD i d ∈ l := by
  rw [List.getD_eq_getElem?_getD, List.getElem?_eq_getElem hi]; exact List.getElem_mem hi
section
variable {α : Type} {l : List α} {f : α → Int} {d : α} {i : Nat}
theorem map_at (hi : i < l.length) : (l.map f).getD i 0 = f (l.getD i d) := by simp [List.getD_eq_getElem?_getD, hi]
theorem fe_next (hi : i < l.length) (h : ((l.map f).take i).all (· == 0) = true) (c : (f (l.getD i d) != 0) = false) : ((l.map f).take (i + 1)).all (· == 0) = true :=
  all_take_succ (d := 0) (by simpa using hi) h (by rw [map_at (d := d) hi]; simpa using c)
theorem fe_hit (hi : i < l.length) (h : ((l.map f).take i).all (· == 0) = true) (c : (f (l.getD i d) != 0) = true) : firstNe (l.map f) = f (l.getD i d) := by
  rw [firstNe_hit (by simpa using hi) h (by rw [map_at (d := d) hi]; simpa using c), map_at (d := d) hi]
theorem fe_end (hi : l.length ≤ i) (h : ((l.map f).take i).all (· == 0) = true) : firstNe (l.map f) = 0 := firstNe_none (by simpa using hi) h
end
theorem runF_eq (ss : List Stg) (rs : List Rul) : runF ss rs = firstB (listE pathB ss) (firstB (if decide ((ss.length : Int) > 2000) then 4 else 0) (firstB (if decide ((rs.length : Int) > 100) then 4 else 0) (rulesE rs))) := by
  unfold runF
  rw [firstNe_cons, firstNe_cons, first2]
theorem runF_1 {ss : List Stg} {rs : List Rul} (h : (listE pathB ss != 0) = true) : runF ss rs = listE pathB ss := by
  rw [runF_eq]; unfold firstB; rw [if_pos h]
theorem runF_2 {ss : List Stg} {rs : List Rul} (h : (listE pathB ss != 0) = false) (c : (decide ((ss.length : Int) > 2000) || decide ((rs.length : Int) > 100)) = true) : runF ss rs = 4 := by
  rw [runF_eq]; unfold firstB; rw [if_neg (Bool.eq_false_iff.1 h)]
  cases h1 : decide ((ss.length : Int) > 2000) with
  | true => rfl
  | false => rw [h1, Bool.false_or] at c; rw [c]; rfl
theorem runF_3 {ss : List Stg} {rs : List Rul} (h : (listE pathB ss != 0) = false) (c : (decide ((ss.length : Int) > 2000) || decide ((rs.length : Int) > 100)) = false) : runF ss rs = rulesE rs := by
  rw [Bool.or_eq_false_iff] at c
  rw [runF_eq]; unfold firstB; rw [if_neg (Bool.eq_false_iff.1 h), c.1, c.2]; rfl
/-- What is known where nothing is wrong ahead of running. -/
structure RunOk (ss : List Stg) (rs : List Rul) : Prop where
  all : allP (tabOf ss) = true
  len : ss.length ≤ 2000
  many : rs.length ≤ 100
  ok : ∀ r ∈ rs, RulOk r
theorem tabTo_len (l : List Stg) : ∀ i, (tabTo l i).length ≤ i
  | 0 => Nat.le_refl _
  | i + 1 => by
    show (setL beqS (tabTo l i) _ _).length ≤ _
    have h := tabTo_len l i
    have : ∀ (t : Tab) (k v : L8), (setL beqS t k v).length ≤ t.length + 1 := fun t k v => by
      induction t with
      | nil => simp [setL]
      | cons x t ih =>
        unfold setL
        cases beqS k x.1 with
        | true => simp
        | false => simp only [cond_false, List.length_cons]; omega
    exact Nat.le_trans (this _ _ _) (by omega)
theorem tabTo_all {l : List Stg} (h : listE pathB l = 0) : ∀ i, i ≤ l.length → allP (tabTo l i) = true
  | 0, _ => rfl
  | i + 1, hi => by
    have h1 := firstNe_zero h
    have h2 := h1 (stgAt pathB l i) (List.mem_map.2 ⟨i, List.mem_range.2 (by omega), rfl⟩)
    refine set_all (tabTo_all h i (by omega)) ?_
    unfold stgAt at h2
    cases hp : pathB (l.getD i Stg.z).k with
    | true => rfl
    | false => rw [hp] at h2; simp at h2
theorem run_ok {ss : List Stg} {rs : List Rul} (h : (runF ss rs != 0) = false) : RunOk ss rs := by
  have h0 : runF ss rs = 0 := by simpa using h
  have hz := firstNe_zero h0
  have e1 := hz (listE pathB ss) (by simp)
  have e2 := hz (if decide ((ss.length : Int) > 2000) then 4 else 0) (by simp)
  have e3 := hz (if decide ((rs.length : Int) > 100) then 4 else 0) (by simp)
  have e4 := hz (rulesE rs) (by simp)
  refine ⟨tabTo_all e1 _ (Nat.le_refl _), ?_, ?_, fun r hr => rul_ok (firstNe_zero e4 _ (List.mem_map.2 ⟨r, hr, rfl⟩))⟩
  · by_cases c : (ss.length : Int) > 2000
    · rw [if_pos (by simpa using c)] at e2; cases e2
    · omega
  · by_cases c : (rs.length : Int) > 100
    · rw [if_pos (by simpa using c)] at e3; cases e3
    · omega
/-- A table under way. -/
structure Way (ss : List Stg) (rs : List Rul) (i : Nat) (tab : Tab) : Prop where
  eq : EqT tab (runT ss rs i)
  all : allP tab = true
  len : tab.length ≤ 2000
theorem way_0 {ss : List Stg} {rs : List Rul} (h : RunOk ss rs) : Way ss rs 0 (tabOf ss) := ⟨EqT.refl (tabTo_nd _ _), h.all, Nat.le_trans (tabTo_len ss _) h.len⟩
def stepAt (ss : List Stg) (rs : List Rul) (i : Nat) : Int := stepE (runT ss rs i) (rs.getD i Rul.z)
theorem Way.key {ss : List Stg} {rs : List Rul} {i : Nat} {tab : Tab} (h : Way ss rs i tab) : ∀ x ∈ tab, x.1.length ≤ 2000000 := fun x hx =>
  Nat.le_trans (path_len (all_keys.1 h.all _ (List.mem_map.2 ⟨x, hx, rfl⟩))) (by decide)
theorem Way.at {ss : List Stg} {rs : List Rul} {i : Nat} {tab : Tab} (h : Way ss rs i tab) : stepE tab (rs.getD i Rul.z) = stepAt ss rs i := h.eq.stepE _
theorem way_next {ss : List Stg} {rs : List Rul} {i : Nat} {tab tab1 : Tab} (h : Way ss rs i tab) (hr : RulOk (rs.getD i Rul.z)) (hs : stepE tab (rs.getD i Rul.z) = 0) (h1 : EqT tab1 (doT tab (rs.getD i Rul.z))) : Way ss rs (i + 1) tab1 := by
  obtain ⟨e1, e2⟩ := step_all h.all hr hs
  exact ⟨h1.trans (h.eq.do _), by rw [h1.allP]; exact e1, by rw [h1.len]; exact e2⟩
theorem step_bad {tab : Tab} {r : Rul} (hs : stepE tab r = 0) : (r.kd == 2 && badP tab r.k r.tu) = false := by
  unfold stepE at hs
  split at hs
  · cases hs
  · rename_i h; exact Bool.eq_false_iff.2 h
theorem se_next {ss : List Stg} {rs : List Rul} {i : Nat} (hi : i < rs.length) (h : (((List.range rs.length).map (stepAt ss rs)).take i).all (· == 0) = true) (c : stepAt ss rs i = 0) : (((List.range rs.length).map (stepAt ss rs)).take (i + 1)).all (· == 0) = true :=
  all_take_succ (d := 0) (by simpa using hi) h (by simp [List.getD_eq_getElem?_getD, hi, c])
theorem se_hit {ss : List Stg} {rs : List Rul} {i : Nat} (hi : i < rs.length) (h : (((List.range rs.length).map (stepAt ss rs)).take i).all (· == 0) = true) (c : stepAt ss rs i ≠ 0) : stepsE ss rs = stepAt ss rs i := by
  have hg : ((List.range rs.length).map (stepAt ss rs)).getD i 0 = stepAt ss rs i := by simp [List.getD_eq_getElem?_getD, hi]
  show firstNe ((List.range rs.length).map (stepAt ss rs)) = _
  rw [firstNe_hit (by simpa using hi) h (by rw [hg]; exact c), hg]
theorem se_end {ss : List Stg} {rs : List Rul} {i : Nat} (hi : rs.length ≤ i) (h : (((List.range rs.length).map (stepAt ss rs)).take i).all (· == 0) = true) : stepsE ss rs = 0 := firstNe_none (by simpa using hi) h
theorem runP_1 {ss : List Stg} {rs : List Rul} (h : (runF ss rs != 0) = true) : runP ss rs = ([], runF ss rs) := if_pos h
theorem runP_2 {ss : List Stg} {rs : List Rul} (h : (runF ss rs != 0) = false) (e : Int) (h2 : stepsE ss rs = e) (hne : e ≠ 0) : runP ss rs = ([], e) := by
  unfold runP; rw [if_neg (Bool.eq_false_iff.1 h), if_pos (by rw [h2]; simpa using hne), h2]
theorem runP_3 {ss : List Stg} {rs : List Rul} (h : (runF ss rs != 0) = false) (h2 : stepsE ss rs = 0) : runP ss rs = (listT (runT ss rs rs.length), 0) := by
  unfold runP; rw [if_neg (Bool.eq_false_iff.1 h), if_neg (by rw [h2]; simp)]
/-- How long the keys are behind a rule. -/
theorem keys_do {tab : Tab} {r : Rul} (h : allP tab = true) (hr : RulOk r) : ∀ x ∈ doT tab r, x.1.length ≤ 400 := fun x hx => by
  have hd := do_all h hr
  by_cases hb : (r.kd == 2 && badP tab r.k r.tu) = true
  · have h2 : (r.kd == 2) = true := by rw [Bool.and_eq_true] at hb; exact hb.1
    have h3 : doT tab r = prefT tab r.k r.tu := by have := beq_iff_eq.1 h2; unfold doT; rw [this]; rfl
    rw [h3] at hx
    rcases keys_copy.1 (List.mem_map.2 ⟨x, hx, rfl⟩ : x.1 ∈ (prefT tab r.k r.tu).map (·.1)) with h4 | h4
    · obtain ⟨y, hy, s, hs, he⟩ := mov_keys.1 h4
      have h5 := path_len (all_keys.1 h _ (List.mem_map.2 ⟨y, hy, rfl⟩))
      have h6 := (tail_len hs).2.2
      have h7 := hr.len.2
      rw [he]; simp; omega
    · obtain ⟨y, hy, he⟩ := List.mem_map.1 h4
      have h5 := path_len (all_keys.1 h _ (List.mem_map.2 ⟨y, (List.mem_filter.1 hy).1, rfl⟩))
      rw [← he]; omega
  · rw [Bool.eq_false_iff.2 hb] at hd
    have := path_len (all_keys.1 hd _ (List.mem_map.2 ⟨x, hx, rfl⟩))
    omega
theorem stepR_5 {tab tab1 : Tab} {r : Rul} (h1 : EqT tab1 (doT tab r)) (h : tab1.any (fun x => !pathB x.1) = true) : stepR tab r = 5 := by
  unfold stepR; rw [← h1.any, if_pos h]
theorem stepR_4 {tab tab1 : Tab} {r : Rul} (h1 : EqT tab1 (doT tab r)) (h : tab1.any (fun x => !pathB x.1) = false) (c : decide ((tab1.length : Int) > 2000) = true) : stepR tab r = 4 := by
  unfold stepR; rw [← h1.any, if_neg (Bool.eq_false_iff.1 h), ← h1.len, if_pos c]
theorem stepR_0 {tab tab1 : Tab} {r : Rul} (h1 : EqT tab1 (doT tab r)) (h : tab1.any (fun x => !pathB x.1) = false) (c : decide ((tab1.length : Int) > 2000) = false) : stepR tab r = 0 := by
  unfold stepR; rw [← h1.any, if_neg (Bool.eq_false_iff.1 h), ← h1.len, if_neg (Bool.eq_false_iff.1 c)]
end Go.Proofs.YtcchfmilleffjaaGreatDoor

set_option linter.unusedVariables false
set_option linter.unusedSimpArgs false
set_option maxRecDepth 100000
set_option maxHeartbeats 4000000
namespace Go.Proofs.YtcchfmilleffjaaGreatDoor
open Go
open Go.RowKit
attribute [local irreducible] rangeB pathB nameB valueB firstNe tailOf listT ndT badP sortS prefT stepE stepR listE ruleC doT runT
theorem pc_migrate_runFault (ss : List Stg) (rs : List Rul) (hn : ss.length ≤ 2000000) (hs : ∀ s ∈ ss, s.k.length < 4294967000 ∧ s.v.length < 4294967000) (hm : rs.length ≤ 2000000) (hrb : ∀ r ∈ rs, RulB r) :
  PureCall Tryz.prog J 67 [.one (.d (.vec 2 (ss.map stgD))), .one (.d (.vec 5 (rs.map rulD)))] (.one (.d (.int .i64 (runF ss rs)))) := by
 refine PureCall.of_body tOk (fn := Tryz.f67) Tryz.func67 (by kernel_rfl) rfl (Nat.le_of_ble_eq_true rfl) (fun E => ?_)
 refine W.seq ?_
 refine W.region ?_
 refine S.pure tOk zOk rfl rfl rfl ?_
 refine thenK_n ?_
 refine W.seq ?_
 refine W.seq ?_
 refine W.region ?_
 refine S.pure tOk zOk rfl rfl rfl ?_
 refine S.call rfl rfl rfl rfl rfl (pc_migrate_settingsFault ss hn hs) ?_
 refine S.pure tOk zOk rfl rfl rfl ?_
 refine thenK_n ?_
 refine W.seq ?_
 refine W.region ?_
 refine S.pure tOk zOk rfl rfl rfl ?_
 refine S.pure tOk zOk rfl rfl rfl ?_
 refine thenK_n ?_
 refine W.cond rfl (fun c1 => ?_) (fun c1 => ?_)
 ·skip
  refine W.seq ?_
  refine W.region ?_
  refine S.pure tOk zOk rfl rfl rfl ?_
  refine S.pure tOk zOk rfl rfl rfl ?_
  refine thenK_n ?_
  refine W.ret ?_
  refine thenK_r ?_
  exact ⟨_, rfl, rfl, LeV.of_force rfl (by rw [runF_1 c1])⟩
 ·skip
  refine W.skip ?_
  refine thenK_n ?_
  refine W.seq ?_
  refine W.seq ?_
  refine W.region ?_
  refine S.pure tOk zOk rfl rfl rfl ?_
  refine S.pure tOk zOk rfl rfl rfl ?_
  refine S.pure tOk zOk rfl rfl rfl ?_
  refine S.pure tOk zOk rfl rfl rfl ?_
  refine S.pureG tOk zOk rfl rfl tg (fun _ => rfl) rfl ?_
  refine S.pureG tOk zOk rfl rfl tg (fun _ => rfl) rfl ?_
  refine S.pureG tOk zOk rfl rfl tg (fun _ => rfl) rfl ?_
  refine S.pickOr tOk zOk rfl rfl tg ?_
  refine thenK_n ?_
  refine W.cond rfl (fun c2 => ?_) (fun c2 => ?_)
  ·skip
   refine W.seq ?_
   refine W.region ?_
   refine S.pure tOk zOk rfl rfl rfl ?_
   refine thenK_n ?_
   refine W.ret ?_
   refine thenK_r ?_
   exact ⟨_, rfl, rfl, LeV.of_force rfl (by rw [runF_2 c1 (by simpa using c2)]; rfl)⟩
  ·skip
   refine W.skip ?_
   refine thenK_n ?_
   refine W.seq ?_
   refine W.seq ?_
   refine W.region ?_
   refine S.pure tOk zOk rfl rfl rfl ?_
   refine S.pure tOk zOk rfl rfl rfl ?_
   refine S.pure tOk zOk rfl rfl rfl ?_
   refine thenK_n ?_
   refine W.block ?_
   refine W.loop (fun k st => ∃ i : Nat, i ≤ rs.length ∧ ((rs.map ruleC).take i).all (· == 0) = true ∧ k = rs.length - i ∧ ∃ t b2 r2 m2, st = ⟨t, [] ++ b2, [] ++ r2, [] ++ m2⟩ ∧ holdsL t [(22, .one (.d (.vec 5 (rs.map rulD)))), (23, .one (.d (.int .i64 ((rs.map rulD).length : Int)))), (24, .one (.d (.int .i64 (i : Int))))]) (rs.length) ⟨0, Nat.zero_le _, by simp, rfl, _, _, _, _, rfl, rfl, rfl, rfl, trivial⟩ ?_
   rintro k0 _ ⟨i, f0_0, f0_1, rfl, t0, bb0, rr0, mm0, rfl, hh0⟩
   refine W.keepR _ _ _ _ _ _ _ hh0 rfl ?_
   refine W.seq ?_
   refine W.region ?_
   refine S.pure tOk zOk rfl rfl rfl ?_
   refine thenK_n ?_
   refine W.seq ?_
   refine W.cond rfl (fun c3 => ?_) (fun c3 => ?_)
   ·skip
    have hi := row_lt c3
    have hri := hrb _ (mem_getD (d := Rul.z) hi)
    refine W.skip ?_
    refine thenK_n ?_
    refine W.seq ?_
    refine W.block ?_
    refine W.seq ?_
    refine W.region ?_
    refine S.pureE tOk zOk rfl (row_ok hi) (row_at Rul.z hi) rfl ?_
    refine S.pure tOk zOk rfl rfl rfl ?_
    refine S.alloc tOk rfl rfl rfl rfl ?_
    refine S.store tOk rfl rfl rfl rfl rfl rfl rfl rfl ?_
    refine thenK_n ?_
    refine W.seq ?_
    refine W.region ?_
    refine S.pure tOk zOk rfl rfl rfl ?_
    refine S.call rfl rfl rfl rfl rfl (pc_CheckRule (rs.getD i Rul.z) hri) ?_
    refine S.pure tOk zOk rfl rfl rfl ?_
    refine thenK_n ?_
    refine W.seq ?_
    refine W.region ?_
    refine S.pure tOk zOk rfl rfl rfl ?_
    refine S.pure tOk zOk rfl rfl rfl ?_
    refine thenK_n ?_
    refine W.cond rfl (fun c4 => ?_) (fun c4 => ?_)
    ·skip
     refine W.seq ?_
     refine W.region ?_
     refine S.pure tOk zOk rfl rfl rfl ?_
     refine S.pure tOk zOk rfl rfl rfl ?_
     refine thenK_n ?_
     refine W.ret ?_
     refine blockK_r ?_
     refine thenK_r ?_
     refine thenK_r ?_
     refine blockK_r ?_
     refine thenK_r ?_
     exact ⟨_, rfl, rfl, LeV.of_force rfl (by rw [runF_3 c1 (by simpa using c2)]; unfold rulesE; rw [fe_hit (d := Rul.z) hi f0_1 c4])⟩
    ·skip
     refine W.skip ?_
     refine blockK_n ?_
     refine thenK_n ?_
     refine W.region ?_
     refine S.pure tOk zOk rfl rfl rfl ?_
     refine S.pure tOk zOk rfl rfl rfl ?_
     refine loop_n (rs.length - (i + 1)) (by omega) ⟨i + 1, hi, fe_next (d := Rul.z) hi f0_1 c4, rfl, _, _, _, _, rfl, rfl, rfl, inc_i64 (by omega), trivial⟩
   ·skip
    have hi := row_ge c3
    obtain rfl : i = rs.length := by omega
    refine W.exit ?_
    refine thenK_e ?_
    refine thenK_e ?_
    refine blockK_x ?_
    refine thenK_n ?_
    refine W.seq ?_
    refine W.region ?_
    refine S.pure tOk zOk rfl rfl rfl ?_
    refine thenK_n ?_
    refine W.ret ?_
    exact ⟨_, rfl, rfl, LeV.of_force rfl (by rw [runF_3 c1 (by simpa using c2)]; unfold rulesE; rw [fe_end hi f0_1]; rfl)⟩
theorem le_runNil {n : Int} {x : List Stg × Int} (h : x = ([], n)) : LeV (.tup [.one (.d .nilsl), .one (.d (.int .i64 n))]) (.tup [.one (.d (.vec 2 (x.1.map stgD))), .one (.d (.int .i64 x.2))]) := by
  subst h; exact LeV.tup2 (LeV.nil 2) (LeV.refl _)
theorem pc_migrate_Run (ss : List Stg) (rs : List Rul) (hn : ss.length ≤ 2000000) (hs : ∀ s ∈ ss, s.k.length < 4294967000 ∧ s.v.length < 4294967000) (hm : rs.length ≤ 2000000) (hrb : ∀ r ∈ rs, RulB r) :
  PureCall Tryz.prog J 18 [.one (.d (.vec 2 (ss.map stgD))), .one (.d (.vec 5 (rs.map rulD)))] (.tup [.one (.d (.vec 2 ((runP ss rs).1.map stgD))), .one (.d (.int .i64 (runP ss rs).2))]) := by
 refine PureCall.of_body tOk (fn := Tryz.f18) Tryz.func18 (by kernel_rfl) rfl (Nat.le_of_ble_eq_true rfl) (fun E => ?_)
 refine W.seq ?_
 refine W.region ?_
 refine S.pure tOk zOk rfl rfl rfl ?_
 refine S.pure tOk zOk rfl rfl rfl ?_
 refine thenK_n ?_
 refine W.seq ?_
 refine W.seq ?_
 refine W.region ?_
 refine S.pure tOk zOk rfl rfl rfl ?_
 refine S.pure tOk zOk rfl rfl rfl ?_
 refine S.call rfl rfl rfl rfl rfl (pc_migrate_runFault ss rs hn hs hm hrb) ?_
 refine S.pure tOk zOk rfl rfl rfl ?_
 refine thenK_n ?_
 refine W.seq ?_
 refine W.region ?_
 refine S.pure tOk zOk rfl rfl rfl ?_
 refine S.pure tOk zOk rfl rfl rfl ?_
 refine thenK_n ?_
 refine W.cond rfl (fun c1 => ?_) (fun c1 => ?_)
 ·skip
  refine W.seq ?_
  refine W.region ?_
  refine S.pure tOk zOk rfl rfl rfl ?_
  refine S.pure tOk zOk rfl rfl rfl ?_
  refine S.pure tOk zOk rfl rfl rfl ?_
  refine thenK_n ?_
  refine W.ret ?_
  refine thenK_r ?_
  exact ⟨_, rfl, rfl, le_runNil (runP_1 c1)⟩
 ·skip
  have hok := run_ok c1
  refine W.skip ?_
  refine thenK_n ?_
  refine W.seq ?_
  refine W.region ?_
  refine S.pure tOk zOk rfl rfl rfl ?_
  refine S.hcallD rfl rfl rfl rfl ((pc_tableOf ss (by omega)).frameD [] [] [] rfl rfl rfl rfl rfl rfl rfl rfl rfl) ?_
  refine S.pure tOk zOk rfl rfl rfl ?_
  refine thenK_n ?_
  refine W.seq ?_
  refine W.seq ?_
  refine W.region ?_
  refine S.pure tOk zOk rfl rfl rfl ?_
  refine S.pure tOk zOk rfl rfl rfl ?_
  refine S.pure tOk zOk rfl rfl rfl ?_
  refine thenK_n ?_
  refine W.block ?_
  refine W.loop (fun k st => ∃ i : Nat, ∃ tab : Tab, i ≤ rs.length ∧ Way ss rs i tab ∧ (((List.range rs.length).map (stepAt ss rs)).take i).all (· == 0) = true ∧ k = rs.length - i ∧ ∃ t b2 r2 m2, st = ⟨t, [] ++ b2, [] ++ r2, [tabD tab] ++ m2⟩ ∧ holdsL t [(7, .one (.map 0)), (19, .one (.d (.vec 5 (rs.map rulD)))), (20, .one (.d (.int .i64 ((rs.map rulD).length : Int)))), (21, .one (.d (.int .i64 (i : Int))))]) (rs.length) ⟨0, _, Nat.zero_le _, way_0 hok, by simp, rfl, _, _, _, _, rfl, rfl, rfl, rfl, rfl, trivial⟩ ?_
  rintro k0 _ ⟨i, tab, f0_0, f0_1, f0_2, rfl, t0, bb0, rr0, mm0, rfl, hh0⟩
  refine W.keepR _ _ _ _ _ _ _ hh0 rfl ?_
  refine W.seq ?_
  refine W.region ?_
  refine S.pure tOk zOk rfl rfl rfl ?_
  refine thenK_n ?_
  refine W.seq ?_
  refine W.cond rfl (fun c2 => ?_) (fun c2 => ?_)
  ·skip
   have hi := row_lt c2
   have hri := hrb _ (mem_getD (d := Rul.z) hi)
   refine W.skip ?_
   refine thenK_n ?_
   refine W.seq ?_
   refine W.block ?_
   refine W.seq ?_
   refine W.region ?_
   refine S.pureE tOk zOk rfl (row_ok hi) (row_at Rul.z hi) rfl ?_
   refine S.pure tOk zOk rfl rfl rfl ?_
   refine S.alloc tOk rfl rfl rfl rfl ?_
   refine S.store tOk rfl rfl rfl rfl rfl rfl rfl rfl ?_
   refine thenK_n ?_
   refine W.seq ?_
   refine W.region ?_
   refine S.pure tOk zOk rfl rfl rfl ?_
   refine S.pure tOk zOk rfl rfl rfl ?_
   refine S.hcallX rfl rfl rfl rfl ((pc_do tab (rs.getD i Rul.z) hri f0_1.eq.l f0_1.key (by have := f0_1.len; omega)).frameX [] [] [0] rfl rfl rfl rfl rfl (fun _ => rfl) (fun _ => rfl) (fun _ => rfl) (fun _ => rfl)) ?_
   rintro tab1 h1
   refine S.pure tOk zOk rfl rfl rfl ?_
   refine thenK_n ?_
   refine W.seq ?_
   refine W.region ?_
   refine S.pure tOk zOk rfl rfl rfl ?_
   refine S.pure tOk zOk rfl rfl rfl ?_
   refine thenK_n ?_
   refine W.cond rfl (fun c3 => ?_) (fun c3 => ?_)
   ·skip
    have hz : stepAt ss rs i ≠ 0 := by rw [← f0_1.at]; simpa using c3
    refine W.seq ?_
    refine W.region ?_
    refine S.pure tOk zOk rfl rfl rfl ?_
    refine S.pure tOk zOk rfl rfl rfl ?_
    refine S.pure tOk zOk rfl rfl rfl ?_
    refine thenK_n ?_
    refine W.ret ?_
    refine blockK_r ?_
    refine thenK_r ?_
    refine thenK_r ?_
    refine blockK_r ?_
    refine thenK_r ?_
    exact ⟨_, rfl, rfl, le_runNil (by rw [f0_1.at]; exact runP_2 c1 _ (se_hit hi f0_2 hz) hz)⟩
   ·skip
    have hz : stepE tab (rs.getD i Rul.z) = 0 := by simpa using c3
    have h2 : EqT tab1 (doT tab (rs.getD i Rul.z)) := by rw [doX_f (step_bad hz)] at h1; exact h1
    refine W.skip ?_
    refine blockK_n ?_
    refine thenK_n ?_
    refine W.region ?_
    refine S.pure tOk zOk rfl rfl rfl ?_
    refine S.pure tOk zOk rfl rfl rfl ?_
    refine loop_n (rs.length - (i + 1)) (by omega) ⟨i + 1, tab1, hi, way_next f0_1 (hok.ok _ (mem_getD hi)) hz h2, se_next hi f0_2 (f0_1.at.symm.trans hz), rfl, _, _, _, _, rfl, rfl, rfl, rfl, inc_i64 (by omega), trivial⟩
  ·skip
   have hi := row_ge c2
   obtain rfl : i = rs.length := by omega
   refine W.exit ?_
   refine thenK_e ?_
   refine thenK_e ?_
   refine blockK_x ?_
   refine thenK_n ?_
   refine W.seq ?_
   refine W.region ?_
   refine S.pure tOk zOk rfl rfl rfl ?_
   refine S.hcallD rfl rfl rfl rfl ((pc_settings tab f0_1.eq.l f0_1.key (by have := f0_1.len; omega)).frameD [] [] [0] rfl rfl rfl rfl rfl rfl rfl rfl rfl) ?_
   refine S.pure tOk zOk rfl rfl rfl ?_
   refine S.pure tOk zOk rfl rfl rfl ?_
   refine thenK_n ?_
   refine W.ret ?_
   exact ⟨_, rfl, rfl, LeV.of_force rfl (by rw [runP_3 c1 (se_end hi f0_2), f0_1.eq.list]; rfl)⟩
end Go.Proofs.YtcchfmilleffjaaGreatDoor

set_option linter.unusedVariables false
set_option linter.unusedSimpArgs false
set_option maxRecDepth 100000
set_option maxHeartbeats 4000000
namespace Go.Proofs.YtcchfmilleffjaaGreatDoor
open Go
open Go.RowKit
attribute [local irreducible] rangeB pathB nameB valueB firstNe tailOf listT ndT badP sortS prefT stepE stepR listE ruleC doT runT
theorem run_acc {ss : List Stg} {rs : List Rul} {i : Nat} (hi : i < rs.length) : firstB (firstNe ([listE pathB ss, if decide (((ss.map stgD).length : Int) > 2000) = true then 4 else 0, if decide (((rs.map rulD).length : Int) > 100) = true then 4 else 0] ++ (rs.map ruleC).take i)) (ruleC (rs.getD i Rul.z)) = firstNe ([listE pathB ss, if decide (((ss.map stgD).length : Int) > 2000) = true then 4 else 0, if decide (((rs.map rulD).length : Int) > 100) = true then 4 else 0] ++ (rs.map ruleC).take (i + 1)) := by
  rw [take_getD (d := 0) (by simpa using hi), ← List.append_assoc, firstNe_snoc, map_at (d := Rul.z) hi]
theorem run_accE (ss : List Stg) (rs : List Rul) : firstNe ([listE pathB ss, if decide (((ss.map stgD).length : Int) > 2000) = true then 4 else 0, if decide (((rs.map rulD).length : Int) > 100) = true then 4 else 0] ++ (rs.map ruleC).take rs.length) = runF ss rs := by
  rw [List.take_of_length_le (by simp)]
  unfold runF rulesE
  rw [List.length_map, List.length_map]
  rw [show [listE pathB ss, if decide ((ss.length : Int) > 2000) = true then 4 else 0, if decide ((rs.length : Int) > 100) = true then 4 else 0] ++ rs.map ruleC = listE pathB ss :: (if decide ((ss.length : Int) > 2000) = true then 4 else 0) :: (if decide ((rs.length : Int) > 100) = true then 4 else 0) :: rs.map ruleC from rfl]
  rw [firstNe_cons, firstNe_cons, firstNe_cons, firstNe_cons, firstNe_cons, first2]
theorem le_runNil2 {n : Int} {x : List Stg × Int} (h : x = ([], n)) : LeV (.tup [.one (.d .nilsl), .one (.d (.int .i64 n))]) (.tup [.one (.d (.vec 2 (x.1.map stgD))), .one (.d (.int .i64 x.2))]) := by
  subst h; exact LeV.tup2 (LeV.nil 2) (LeV.refl _)
theorem pc_outref2_RunError (ss : List Stg) (rs : List Rul) (hn : ss.length ≤ 2000000) (hs : ∀ s ∈ ss, s.k.length < 4294967000 ∧ s.v.length < 4294967000) (hm : rs.length ≤ 2000000) (hrb : ∀ r ∈ rs, RulB r) :
  PureCall Tryz.prog J 76 [.one (.d (.vec 2 (ss.map stgD))), .one (.d (.vec 5 (rs.map rulD)))] (.one (.d (.int .i64 (runF ss rs)))) := by
 refine PureCall.of_body tOk (fn := Tryz.f76) Tryz.func76 (by kernel_rfl) rfl (Nat.le_of_ble_eq_true rfl) (fun E => ?_)
 refine W.seq ?_
 refine W.region ?_
 refine S.pure tOk zOk rfl rfl rfl ?_
 refine thenK_n ?_
 refine W.seq ?_
 refine W.region ?_
 refine S.pure tOk zOk rfl rfl rfl ?_
 refine S.call rfl rfl rfl rfl rfl (pc_listE ss (by omega) hs) ?_
 refine S.pure tOk zOk rfl rfl rfl ?_
 refine S.pure tOk zOk rfl rfl rfl ?_
 refine S.pure tOk zOk rfl rfl rfl ?_
 refine S.call rfl rfl rfl rfl rfl (pc_outref2_When (decide (((ss.map stgD).length : Int) > 2000)) 4) ?_
 refine S.pure tOk zOk rfl rfl rfl ?_
 refine S.pure tOk zOk rfl rfl rfl ?_
 refine S.pure tOk zOk rfl rfl rfl ?_
 refine S.call rfl rfl rfl rfl rfl (pc_outref2_When (decide (((rs.map rulD).length : Int) > 100)) 4) ?_
 refine S.slice tOk rfl rfl ?_
 refine S.call rfl rfl rfl rfl rfl (pc_outref2_First [listE pathB ss, if decide (((ss.map stgD).length : Int) > 2000) = true then 4 else 0, if decide (((rs.map rulD).length : Int) > 100) = true then 4 else 0] (by simp)) ?_
 refine S.pure tOk zOk rfl rfl rfl ?_
 refine thenK_n ?_
 refine W.seq ?_
 refine W.seq ?_
 refine W.region ?_
 refine S.pure tOk zOk rfl rfl rfl ?_
 refine S.pure tOk zOk rfl rfl rfl ?_
 refine S.pure tOk zOk rfl rfl rfl ?_
 refine thenK_n ?_
 refine W.block ?_
 refine W.loop (fun k st => ∃ i : Nat, i ≤ rs.length ∧ k = rs.length - i ∧ ∃ t b2 r2 m2, st = ⟨t, [] ++ b2, [] ++ r2, [] ++ m2⟩ ∧ holdsL t [(5, .one (.d (.int .i64 (firstNe ([listE pathB ss, if decide (((ss.map stgD).length : Int) > 2000) = true then 4 else 0, if decide (((rs.map rulD).length : Int) > 100) = true then 4 else 0] ++ (rs.map ruleC).take i))))), (20, .one (.d (.vec 5 (rs.map rulD)))), (21, .one (.d (.int .i64 ((rs.map rulD).length : Int)))), (22, .one (.d (.int .i64 (i : Int))))]) (rs.length) ⟨0, Nat.zero_le _, rfl, _, _, _, _, rfl, rfl, rfl, rfl, rfl, trivial⟩ ?_
 rintro k0 _ ⟨i, f0_0, rfl, t0, bb0, rr0, mm0, rfl, hh0⟩
 refine W.keepR _ _ _ _ _ _ _ hh0 rfl ?_
 refine W.seq ?_
 refine W.region ?_
 refine S.pure tOk zOk rfl rfl rfl ?_
 refine thenK_n ?_
 refine W.seq ?_
 refine W.cond rfl (fun c1 => ?_) (fun c1 => ?_)
 ·skip
  have hi := row_lt c1
  have hri := hrb _ (mem_getD (d := Rul.z) hi)
  refine W.skip ?_
  refine thenK_n ?_
  refine W.seq ?_
  refine W.block ?_
  refine W.seq ?_
  refine W.region ?_
  refine S.pureE tOk zOk rfl (row_ok hi) (row_at Rul.z hi) rfl ?_
  refine S.pure tOk zOk rfl rfl rfl ?_
  refine S.alloc tOk rfl rfl rfl rfl ?_
  refine S.store tOk rfl rfl rfl rfl rfl rfl rfl rfl ?_
  refine thenK_n ?_
  refine W.region ?_
  refine S.pure tOk zOk rfl rfl rfl ?_
  refine S.pure tOk zOk rfl rfl rfl ?_
  refine S.call rfl rfl rfl rfl rfl (pc_RuleError (rs.getD i Rul.z) hri) ?_
  refine S.slice tOk rfl rfl ?_
  refine S.call rfl rfl rfl rfl rfl (pc_first2 (firstNe ([listE pathB ss, if decide (((ss.map stgD).length : Int) > 2000) = true then 4 else 0, if decide (((rs.map rulD).length : Int) > 100) = true then 4 else 0] ++ (rs.map ruleC).take i)) (ruleC (rs.getD i Rul.z))) ?_
  refine S.pure tOk zOk rfl rfl rfl ?_
  refine blockK_n ?_
  refine thenK_n ?_
  refine W.region ?_
  refine S.pure tOk zOk rfl rfl rfl ?_
  refine S.pure tOk zOk rfl rfl rfl ?_
  refine loop_n (rs.length - (i + 1)) (by omega) ⟨i + 1, hi, rfl, _, _, _, _, rfl, congrArg (fun x => V.one (C.d (D.int .i64 x))) (run_acc hi), rfl, rfl, inc_i64 (by omega), trivial⟩
 ·skip
  have hi := row_ge c1
  obtain rfl : i = rs.length := by omega
  refine W.exit ?_
  refine thenK_e ?_
  refine thenK_e ?_
  refine blockK_x ?_
  refine thenK_n ?_
  refine W.seq ?_
  refine W.region ?_
  refine S.pure tOk zOk rfl rfl rfl ?_
  refine S.pure tOk zOk rfl rfl rfl ?_
  refine thenK_n ?_
  refine W.ret ?_
  exact ⟨_, rfl, rfl, LeV.of_force rfl (by rw [run_accE])⟩
theorem pc_outref2_RunOf (ss : List Stg) (rs : List Rul) (hn : ss.length ≤ 2000000) (hs : ∀ s ∈ ss, s.k.length < 4294967000 ∧ s.v.length < 4294967000) (hm : rs.length ≤ 2000000) (hrb : ∀ r ∈ rs, RulB r) :
  PureCall Tryz.prog J 24 [.one (.d (.vec 2 (ss.map stgD))), .one (.d (.vec 5 (rs.map rulD)))] (.tup [.one (.d (.vec 2 ((runP ss rs).1.map stgD))), .one (.d (.int .i64 (runP ss rs).2))]) := by
 refine PureCall.of_body tOk (fn := Tryz.f24) Tryz.func24 (by kernel_rfl) rfl (Nat.le_of_ble_eq_true rfl) (fun E => ?_)
 refine W.seq ?_
 refine W.region ?_
 refine S.pure tOk zOk rfl rfl rfl ?_
 refine S.pure tOk zOk rfl rfl rfl ?_
 refine thenK_n ?_
 refine W.seq ?_
 refine W.seq ?_
 refine W.region ?_
 refine S.pure tOk zOk rfl rfl rfl ?_
 refine S.pure tOk zOk rfl rfl rfl ?_
 refine S.call rfl rfl rfl rfl rfl (pc_outref2_RunError ss rs hn hs hm hrb) ?_
 refine S.pure tOk zOk rfl rfl rfl ?_
 refine thenK_n ?_
 refine W.seq ?_
 refine W.region ?_
 refine S.pure tOk zOk rfl rfl rfl ?_
 refine S.pure tOk zOk rfl rfl rfl ?_
 refine thenK_n ?_
 refine W.cond rfl (fun c1 => ?_) (fun c1 => ?_)
 ·skip
  refine W.seq ?_
  refine W.region ?_
  refine S.pure tOk zOk rfl rfl rfl ?_
  refine S.pure tOk zOk rfl rfl rfl ?_
  refine S.pure tOk zOk rfl rfl rfl ?_
  refine thenK_n ?_
  refine W.ret ?_
  refine thenK_r ?_
  exact ⟨_, rfl, rfl, le_runNil2 (runP_1 c1)⟩
 ·skip
  have hok := run_ok c1
  refine W.skip ?_
  refine thenK_n ?_
  refine W.seq ?_
  refine W.region ?_
  refine S.pure tOk zOk rfl rfl rfl ?_
  refine S.hcallD rfl rfl rfl rfl ((pc_Facts ss (by omega)).frameD [] [] [] rfl rfl rfl rfl rfl rfl rfl rfl rfl) ?_
  refine S.pure tOk zOk rfl rfl rfl ?_
  refine thenK_n ?_
  refine W.seq ?_
  refine W.seq ?_
  refine W.region ?_
  refine S.pure tOk zOk rfl rfl rfl ?_
  refine S.pure tOk zOk rfl rfl rfl ?_
  refine S.pure tOk zOk rfl rfl rfl ?_
  refine thenK_n ?_
  refine W.block ?_
  refine W.loop (fun k st => ∃ i : Nat, ∃ tab : Tab, i ≤ rs.length ∧ Way ss rs i tab ∧ (((List.range rs.length).map (stepAt ss rs)).take i).all (· == 0) = true ∧ k = rs.length - i ∧ ∃ t b2 r2 m2, st = ⟨t, [] ++ b2, [] ++ r2, [tabD tab] ++ m2⟩ ∧ holdsL t [(7, .one (.map 0)), (19, .one (.d (.vec 5 (rs.map rulD)))), (20, .one (.d (.int .i64 ((rs.map rulD).length : Int)))), (21, .one (.d (.int .i64 (i : Int))))]) (rs.length) ⟨0, _, Nat.zero_le _, way_0 hok, by simp, rfl, _, _, _, _, rfl, rfl, rfl, rfl, rfl, trivial⟩ ?_
  rintro k0 _ ⟨i, tab, f0_0, f0_1, f0_2, rfl, t0, bb0, rr0, mm0, rfl, hh0⟩
  refine W.keepR _ _ _ _ _ _ _ hh0 rfl ?_
  refine W.seq ?_
  refine W.region ?_
  refine S.pure tOk zOk rfl rfl rfl ?_
  refine thenK_n ?_
  refine W.seq ?_
  refine W.cond rfl (fun c2 => ?_) (fun c2 => ?_)
  ·skip
   have hi := row_lt c2
   have hri := hrb _ (mem_getD (d := Rul.z) hi)
   have hoi := hok.ok _ (mem_getD (d := Rul.z) hi)
   refine W.skip ?_
   refine thenK_n ?_
   refine W.seq ?_
   refine W.block ?_
   refine W.seq ?_
   refine W.region ?_
   refine S.pureE tOk zOk rfl (row_ok hi) (row_at Rul.z hi) rfl ?_
   refine S.pure tOk zOk rfl rfl rfl ?_
   refine S.alloc tOk rfl rfl rfl rfl ?_
   refine S.store tOk rfl rfl rfl rfl rfl rfl rfl rfl ?_
   refine thenK_n ?_
   refine W.seq ?_
   refine W.region ?_
   refine S.pure tOk zOk rfl rfl rfl ?_
   refine S.pure tOk zOk rfl rfl rfl ?_
   refine S.hcallX rfl rfl rfl rfl ((pc_one tab (rs.getD i Rul.z) hri hoi f0_1.eq.l f0_1.key (by have := f0_1.len; omega)).frameX [] [] [0] rfl rfl rfl rfl rfl (fun _ => rfl) (fun _ => rfl) (fun _ => rfl) (fun _ => rfl)) ?_
   rintro tab1 h1
   refine thenK_n ?_
   refine W.seq ?_
   have hkd : ∀ x ∈ tab1, x.1.length ≤ 400 := fun x hx => keys_do f0_1.all hoi x (h1.perm.mem_iff.1 hx)
   refine W.forMap (enc := D.str) (fD := fun v : List UInt8 => DV.one (.str v)) (l0 := tab1) (mi := 0) tOk (fun q M dn st => dn.any (fun x => !pathB x.1) = false ∧ st = ⟨ofL [(29, .one (.d (.raw q))), (7, .one (.map 0)), (19, .one (.d (.vec 5 (rs.map rulD)))), (20, .one (.d (.int .i64 ((rs.map rulD).length : Int)))), (21, .one (.d (.int .i64 (i : Int))))], [], [], [M]⟩) 1 rfl rfl rfl (by rintro q M dn _ ⟨f2_0, rfl⟩; exact ⟨rfl, rfl⟩) ⟨rfl, rfl, rfl, rfl⟩ ?_ ?_ ?_
   ·skip
    refine S.pure tOk zOk rfl rfl rfl ?_
    refine WL.nil ?_
    exact ⟨rfl, rfl, fun q M => ⟨_, ⟨rfl, rfl⟩, Wk.keep rfl ⟨rfl, rfl, rfl, rfl, rfl, trivial⟩ rfl⟩⟩
   ·skip
    rintro q M dn _ j2 c1002 born2 y rest E1 ⟨f2_0, rfl⟩ hE2 hst2 hp un2
    refine W.keep [(29, .one (.d (.raw q))), (7, .one (.map 0)), (19, .one (.d (.vec 5 (rs.map rulD)))), (20, .one (.d (.int .i64 ((rs.map rulD).length : Int)))), (21, .one (.d (.int .i64 (i : Int))))] ⟨rfl, rfl, rfl, rfl, rfl, trivial⟩ ?_
    have hy : y.1.length ≤ 400 := hkd y (hp.mem_iff.2 (by simp))
    refine W.block ?_
    refine W.seq ?_
    refine W.region ?_
    refine S.entry hE2 rfl rfl hst2.at ?_
    refine S.pure tOk zOk rfl rfl rfl ?_
    refine S.pure tOk zOk rfl rfl rfl ?_
    refine thenK_n ?_
    refine W.seq ?_
    refine W.region ?_
    refine S.pure tOk zOk rfl rfl rfl ?_
    refine S.call rfl rfl rfl rfl rfl (pc_outref2_PathOf y.1 (by omega)) ?_
    refine S.pure tOk zOk rfl rfl rfl ?_
    refine thenK_n ?_
    refine W.cond rfl (fun c3 => ?_) (fun c3 => ?_)
    ·skip
     have ha := anyp_hit (p := fun x : L8 × L8 => !pathB x.1) hp c3
     have hz : stepAt ss rs i = 5 := by rw [← f0_1.at, ← step_eq f0_1.all hoi, stepR_5 h1 ha]
     refine W.seq ?_
     refine W.region ?_
     refine S.pure tOk zOk rfl rfl rfl ?_
     refine S.pure tOk zOk rfl rfl rfl ?_
     refine thenK_n ?_
     refine un2 _ _ _ _ _ _ _ rfl rfl ?_
     refine W.ret ?_
     refine blockK_r ?_
     refine thenK_r ?_
     refine blockK_r ?_
     refine thenK_r ?_
     refine blockK_r ?_
     refine thenK_r ?_
     refine thenK_r ?_
     refine blockK_r ?_
     refine thenK_r ?_
     exact ⟨_, rfl, rfl, le_runNil2 (runP_2 c1 _ (by rw [se_hit hi f0_2 (by rw [hz]; decide), hz]) (by decide))⟩
    ·skip
     refine W.skip ?_
     refine blockK_n ?_
     exact thenK_n ⟨_, ⟨any_snoc f2_0 c3, rfl⟩, Wk.keep rfl ⟨rfl, rfl, rfl, rfl, rfl, trivial⟩ rfl⟩
   ·skip
    rintro q M dn _ ⟨f2_0, rfl⟩ hp
    have ha := anyp_end hp f2_0
    refine ⟨_, Wk.keep (l := [(29, .one (.d (.raw q))), (7, .one (.map 0)), (19, .one (.d (.vec 5 (rs.map rulD)))), (20, .one (.d (.int .i64 ((rs.map rulD).length : Int)))), (21, .one (.d (.int .i64 (i : Int))))]) (b1 := []) (b2 := []) (r1 := []) (r2 := []) (m1 := [mapOf D.str (fun v : List UInt8 => DV.one (.str v)) (tab1)]) (m2 := []) rfl ⟨rfl, rfl, rfl, rfl, rfl, trivial⟩ rfl, ?_⟩
    refine thenK_n ?_
    refine W.seq ?_
    refine W.region ?_
    refine S.pure tOk zOk rfl rfl rfl ?_
    refine S.mapLen tOk rfl rfl rfl rfl (tabD_len _) ?_
    refine S.pure tOk zOk rfl rfl rfl ?_
    refine thenK_n ?_
    refine W.cond rfl (fun c4 => ?_) (fun c4 => ?_)
    ·skip
     have hz : stepAt ss rs i = 4 := by rw [← f0_1.at, ← step_eq f0_1.all hoi, stepR_4 h1 ha c4]
     refine W.seq ?_
     refine W.region ?_
     refine S.pure tOk zOk rfl rfl rfl ?_
     refine S.pure tOk zOk rfl rfl rfl ?_
     refine thenK_n ?_
     refine W.ret ?_
     refine blockK_r ?_
     refine thenK_r ?_
     refine thenK_r ?_
     refine blockK_r ?_
     refine thenK_r ?_
     exact ⟨_, rfl, rfl, le_runNil2 (runP_2 c1 _ (by rw [se_hit hi f0_2 (by rw [hz]; decide), hz]) (by decide))⟩
    ·skip
     have hz : stepE tab (rs.getD i Rul.z) = 0 := by rw [← step_eq f0_1.all hoi, stepR_0 h1 ha c4]
     refine W.skip ?_
     refine blockK_n ?_
     refine thenK_n ?_
     refine W.region ?_
     refine S.pure tOk zOk rfl rfl rfl ?_
     refine S.pure tOk zOk rfl rfl rfl ?_
     refine loop_n (rs.length - (i + 1)) (by omega) ⟨i + 1, tab1, hi, way_next f0_1 hoi hz h1, se_next hi f0_2 (f0_1.at.symm.trans hz), rfl, _, _, _, _, rfl, rfl, rfl, rfl, inc_i64 (by omega), trivial⟩
  ·skip
   have hi := row_ge c2
   obtain rfl : i = rs.length := by omega
   refine W.exit ?_
   refine thenK_e ?_
   refine thenK_e ?_
   refine blockK_x ?_
   refine thenK_n ?_
   refine W.seq ?_
   refine W.region ?_
   refine S.pure tOk zOk rfl rfl rfl ?_
   refine S.hcallD rfl rfl rfl rfl ((pc_Listed tab f0_1.eq.l f0_1.key (by have := f0_1.len; omega)).frameD [] [] [0] rfl rfl rfl rfl rfl rfl rfl rfl rfl) ?_
   refine S.pure tOk zOk rfl rfl rfl ?_
   refine S.pure tOk zOk rfl rfl rfl ?_
   refine thenK_n ?_
   refine W.ret ?_
   exact ⟨_, rfl, rfl, LeV.of_force rfl (by rw [runP_3 c1 (se_end hi f0_2), f0_1.eq.list]; rfl)⟩
end Go.Proofs.YtcchfmilleffjaaGreatDoor

/- Plain laws: rules that go back; a row turned round. -/
set_option linter.unusedVariables false
set_option linter.unusedSimpArgs false
namespace Go.Proofs.YtcchfmilleffjaaGreatDoor
open Go
theorem inv_1 {r : Rul} (h : (ruleC r != 0) = true) : invR r = (Rul.z, ruleC r) := if_pos h
theorem inv_2 {r : Rul} (h : (ruleC r != 0) = false) (c : (r.kd == 1 || r.kd == 2) = true) : invR r = (⟨r.kd, r.tu, r.k, r.old, r.nu⟩, 0) := by unfold invR; rw [if_neg (Bool.eq_false_iff.1 h), if_pos c]
theorem inv_7 {r : Rul} (h : (ruleC r != 0) = false) (c : (r.kd == 1 || r.kd == 2) = false) (c7 : (r.kd == 7) = true) : invR r = (⟨r.kd, r.k, r.tu, r.nu, r.old⟩, 0) := by
  unfold invR; rw [if_neg (Bool.eq_false_iff.1 h), if_neg (Bool.eq_false_iff.1 c), if_pos c7]
theorem inv_8 {r : Rul} (h : (ruleC r != 0) = false) (c : (r.kd == 1 || r.kd == 2) = false) (c7 : (r.kd == 7) = false) (c8 : (r.kd == 8) = true) : invR r = (r, 0) := by
  unfold invR; rw [if_neg (Bool.eq_false_iff.1 h), if_neg (Bool.eq_false_iff.1 c), if_neg (Bool.eq_false_iff.1 c7), if_pos c8]
theorem inv_0 {r : Rul} (h : (ruleC r != 0) = false) (c : (r.kd == 1 || r.kd == 2) = false) (c7 : (r.kd == 7) = false) (c8 : (r.kd == 8) = false) : invR r = (Rul.z, 12) := by
  unfold invR; rw [if_neg (Bool.eq_false_iff.1 h), if_neg (Bool.eq_false_iff.1 c), if_neg (Bool.eq_false_iff.1 c7), if_neg (Bool.eq_false_iff.1 c8)]
theorem two_or {r : Rul} (h : (r.kd == 1) = false) (h2 : (r.kd == 2) = false) : (r.kd == 1 || r.kd == 2) = false := by rw [h, h2]; rfl
theorem two_1 {r : Rul} (h : (r.kd == 1) = true) : (r.kd == 1 || r.kd == 2) = true := by rw [h]; rfl
theorem two_2 {r : Rul} (h : (r.kd == 2) = true) : (r.kd == 1 || r.kd == 2) = true := by rw [h, Bool.or_true]
/-- The reference makes its rule anew: it leaves out what a right rule has not. -/
theorem inv_12 {r : Rul} (h : (ruleC r != 0) = false) (c : (r.kd == 1 || r.kd == 2) = true) : invR r = (⟨r.kd, r.tu, r.k, [], []⟩, 0) := by
  have ho := rul_ok (by simpa using h)
  have hk : r.kd = 1 ∨ r.kd = 2 := by simpa using c
  rw [inv_2 h c, ho.old0 (by rcases hk with e | e <;> rw [e] <;> rfl), ho.nu0 (by rcases hk with e | e <;> rw [e] <;> rfl)]
theorem inv_70 {r : Rul} (h : (ruleC r != 0) = false) (c : (r.kd == 1 || r.kd == 2) = false) (c7 : (r.kd == 7) = true) : invR r = (⟨r.kd, r.k, [], r.nu, r.old⟩, 0) := by
  have ho := rul_ok (by simpa using h)
  have hk : r.kd = 7 := by simpa using c7
  rw [inv_7 h c c7, ho.tu0 (by rw [hk]; rfl)]
def revTo (xs : List Rul) (i : Nat) : List Rul := (List.range xs.length).map fun p => if p < i ∨ xs.length ≤ p + i then xs.getD (xs.length - 1 - p) Rul.z else xs.getD p Rul.z
def revMid (xs : List Rul) (i : Nat) : List Rul := (revTo xs i).set i (xs.getD (xs.length - 1 - i) Rul.z)
theorem revTo_len (xs : List Rul) (i : Nat) : (revTo xs i).length = xs.length := by simp [revTo]
theorem revTo_get {xs : List Rul} {i p : Nat} (hp : p < xs.length) : (revTo xs i).getD p Rul.z = if p < i ∨ xs.length ≤ p + i then xs.getD (xs.length - 1 - p) Rul.z else xs.getD p Rul.z := by
  simp [revTo, List.getD_eq_getElem?_getD, hp]
theorem revTo_get? {xs : List Rul} {i p : Nat} (hp : p < xs.length) : (revTo xs i)[p]? = some (if p < i ∨ xs.length ≤ p + i then xs.getD (xs.length - 1 - p) Rul.z else xs.getD p Rul.z) := by
  simp [revTo, hp]
theorem revTo_0 (xs : List Rul) : revTo xs 0 = xs := by
  apply List.ext_getElem? ; intro p
  by_cases hp : p < xs.length
  · rw [revTo_get? hp, if_neg (by omega), List.getElem?_eq_getElem hp, List.getD_eq_getElem?_getD, List.getElem?_eq_getElem hp]; rfl
  · rw [List.getElem?_eq_none (by rw [revTo_len]; omega), List.getElem?_eq_none (by omega)]
theorem revTo_end {xs : List Rul} {i : Nat} (h : xs.length ≤ 2 * i + 1) : revTo xs i = xs.reverse := by
  apply List.ext_getElem? ; intro p
  by_cases hp : p < xs.length
  · rw [revTo_get? hp, List.getElem?_reverse hp]
    have e : xs[xs.length - 1 - p]? = some (xs.getD (xs.length - 1 - p) Rul.z) := by
      rw [List.getD_eq_getElem?_getD, List.getElem?_eq_getElem (by omega : xs.length - 1 - p < xs.length)]; rfl
    rw [e]
    split
    · rfl
    · rename_i hn
      rw [show xs.length - 1 - p = p by omega]
  · rw [List.getElem?_eq_none (by rw [revTo_len]; omega), List.getElem?_eq_none (by simp; omega)]
theorem revTo_succ {xs : List Rul} {i : Nat} (h : 2 * i + 1 < xs.length) : (revMid xs i).set (xs.length - 1 - i) (xs.getD i Rul.z) = revTo xs (i + 1) := by
  apply List.ext_getElem? ; intro p
  by_cases hp : p < xs.length
  · rw [revTo_get? hp, List.getElem?_set]
    unfold revMid
    by_cases h1 : xs.length - 1 - i = p
    · rw [if_pos h1, if_pos (by simp [revTo_len]; omega), if_pos (by omega)]
      rw [show xs.length - 1 - p = i by omega]
    · rw [if_neg h1, List.getElem?_set]
      by_cases h2 : i = p
      · rw [if_pos h2, if_pos (by rw [revTo_len]; omega), if_pos (by omega), h2]
      · rw [if_neg h2, revTo_get? hp]
        by_cases h3 : p < i ∨ xs.length ≤ p + i
        · rw [if_pos h3, if_pos (by omega)]
        · rw [if_neg h3, if_neg (by omega)]
  · rw [List.getElem?_eq_none (by simp [revMid, revTo_len]; omega), List.getElem?_eq_none (by rw [revTo_len]; omega)]
theorem mapR_get {l : List Rul} {p : Nat} (h : p < l.length) : (l.map rulD).getD p [] = rulD (l.getD p Rul.z) := by
  rw [List.getD_eq_getElem?_getD, List.getElem?_map, List.getElem?_eq_getElem h, List.getD_eq_getElem?_getD, List.getElem?_eq_getElem h]; rfl
theorem jx {n i : Nat} (h : i < n) : ((n : Int) - 1 - (i : Int)).toNat = n - 1 - i := by omega
theorem rv_row1 {xs : List Rul} {i : Nat} (h : 2 * i + 1 < xs.length) : ((revTo xs i).map rulD).getD (0 + ((i : Int)).toNat) [] = rulD (xs.getD i Rul.z) := by
  rw [Nat.zero_add, Int.toNat_natCast, mapR_get (by rw [revTo_len]; omega), revTo_get (by omega), if_neg (by omega)]
theorem rv_row2 {xs : List Rul} {i : Nat} (h : 2 * i + 1 < xs.length) : ((revTo xs i).map rulD).getD (0 + ((xs.length : Int) - 1 - (i : Int)).toNat) [] = rulD (xs.getD (xs.length - 1 - i) Rul.z) := by
  rw [Nat.zero_add, jx (by omega), mapR_get (by rw [revTo_len]; omega), revTo_get (by omega), if_neg (by omega)]
theorem putD_rul (d : List D) (hd : d.length = 5) (r : Rul) : putD d 0 (rulD r) = rulD r := by
  match d, hd with
  | [a, b, c, d, e], _ => rfl
theorem rv_set1 {xs : List Rul} {i : Nat} (h : 2 * i + 1 < xs.length) :
    ((revTo xs i).map rulD).set (0 + ((i : Int)).toNat) (putD (((revTo xs i).map rulD).getD (0 + ((i : Int)).toNat) []) 0 (rulD (xs.getD (xs.length - 1 - i) Rul.z))) = (revMid xs i).map rulD := by
  rw [rv_row1 h, putD_rul _ rfl, Nat.zero_add, Int.toNat_natCast]
  unfold revMid
  rw [List.map_set]
theorem rv_set2 {xs : List Rul} {i : Nat} (h : 2 * i + 1 < xs.length) :
    ((revMid xs i).map rulD).set (0 + ((xs.length : Int) - 1 - (i : Int)).toNat) (putD (((revMid xs i).map rulD).getD (0 + ((xs.length : Int) - 1 - (i : Int)).toNat) []) 0 (rulD (xs.getD i Rul.z))) = (revTo xs (i + 1)).map rulD := by
  have hl : (revMid xs i).length = xs.length := by simp [revMid, revTo_len]
  rw [Nat.zero_add, jx (by omega), mapR_get (by rw [hl]; omega), putD_rul _ rfl, ← revTo_succ h, List.map_set]
theorem rv_dec {n i : Nat} (h : i < n) (hn : n ≤ 1000000000) : V.one (.d (.int .i64 (IntKind.i64.wrap ((n : Int) - 1 - (i : Int) - 1)))) = V.one (.d (.int .i64 ((n : Int) - 1 - ((i + 1 : Nat) : Int)))) := by
  rw [wrap_i64 (by omega) (by omega)]
  congr 3
  omega
theorem rv_ok1 {n i : Nat} (h : i < n) : (decide (0 ≤ (i : Int)) && decide ((i : Int) < (n : Int))) = true := by simp; omega
theorem rv_ok2 {n i : Nat} (h : i < n) : (decide (0 ≤ (n : Int) - 1 - (i : Int)) && decide ((n : Int) - 1 - (i : Int) < (n : Int))) = true := by simp; omega
theorem rv_start {n : Nat} (hn : n ≤ 1000000000) : V.one (.d (.int .i64 (IntKind.i64.wrap ((n : Int) - 1)))) = V.one (.d (.int .i64 ((n : Int) - 1 - ((0 : Nat) : Int)))) := by
  rw [wrap_i64 (by omega) (by omega)]
  congr 3
  omega
theorem ia_1 {rs : List Rul} (h : decide ((rs.length : Int) > 100) = true) : invAll rs = ([], 4) := by unfold invAll; rw [if_pos h]
theorem ia_2 {rs : List Rul} (h : decide ((rs.length : Int) > 100) = false) (e : Int) (h2 : invE rs = e) (hne : (e != 0) = true) : invAll rs = ([], e) := by unfold invAll; rw [if_neg (Bool.eq_false_iff.1 h), h2, if_pos hne]
theorem ia_3 {rs : List Rul} (h : decide ((rs.length : Int) > 100) = false) (h2 : invE rs = 0) : invAll rs = ((rs.map fun r => (invR r).1).reverse, 0) := by unfold invAll; rw [if_neg (Bool.eq_false_iff.1 h), h2]; rfl
def invTo (rs : List Rul) (i : Nat) : List Rul := (rs.take i).map fun r => (invR r).1
theorem invTo_succ {rs : List Rul} {i : Nat} (hi : i < rs.length) : (invTo rs i).map rulD ++ [rulD (invR (rs.getD i Rul.z)).1] = (invTo rs (i + 1)).map rulD := by
  unfold invTo; rw [take_getD (d := Rul.z) hi]; simp
theorem invTo_len (rs : List Rul) {i : Nat} (h : i ≤ rs.length) : (invTo rs i).length = i := by simp [invTo, h]
theorem invTo_end (rs : List Rul) : invTo rs rs.length = rs.map fun r => (invR r).1 := by unfold invTo; rw [List.take_length]
end Go.Proofs.YtcchfmilleffjaaGreatDoor

set_option linter.unusedVariables false
set_option linter.unusedSimpArgs false
set_option maxRecDepth 100000
set_option maxHeartbeats 4000000
namespace Go.Proofs.YtcchfmilleffjaaGreatDoor
open Go
open Go.RowKit
attribute [local irreducible] rangeB pathB nameB valueB firstNe ruleC invR revTo revMid invTo
theorem pc_Inverse (r : Rul) (hr : RulB r) :
  PureCall Tryz.prog J 69 [.agg [.d (.int .i64 r.kd), .d (.str r.k), .d (.str r.tu), .d (.str r.old), .d (.str r.nu)]] (.tup [.agg [.d (.int .i64 (invR r).1.kd), .d (.str (invR r).1.k), .d (.str (invR r).1.tu), .d (.str (invR r).1.old), .d (.str (invR r).1.nu)], .one (.d (.int .i64 (invR r).2))]) := by
 refine PureCall.of_body tOk (fn := Tryz.f69) Tryz.func69 (by kernel_rfl) rfl (Nat.le_of_ble_eq_true rfl) (fun E => ?_)
 refine W.seq ?_
 refine W.region ?_
 refine S.box rfl rfl rfl rfl ?_
 refine S.alloc tOk rfl rfl rfl rfl ?_
 refine S.pure tOk zOk rfl rfl rfl ?_
 refine thenK_n ?_
 refine W.seq ?_
 refine W.seq ?_
 refine W.region ?_
 refine S.pure tOk zOk rfl rfl rfl ?_
 refine S.call rfl rfl rfl rfl rfl (pc_CheckRule r hr) ?_
 refine S.pure tOk zOk rfl rfl rfl ?_
 refine thenK_n ?_
 refine W.seq ?_
 refine W.region ?_
 refine S.pure tOk zOk rfl rfl rfl ?_
 refine S.pure tOk zOk rfl rfl rfl ?_
 refine thenK_n ?_
 refine W.cond rfl (fun c1 => ?_) (fun c1 => ?_)
 ·skip
  refine W.seq ?_
  refine W.region ?_
  refine S.pure tOk zOk rfl rfl rfl ?_
  refine S.pure tOk zOk rfl rfl rfl ?_
  refine S.store tOk rfl rfl rfl rfl rfl rfl rfl rfl ?_
  refine S.pure tOk zOk rfl rfl rfl ?_
  refine thenK_n ?_
  refine W.ret ?_
  refine thenK_r ?_
  exact ⟨_, rfl, rfl, LeV.of_force rfl (by rw [inv_1 c1]; rfl)⟩
 ·skip
  refine W.skip ?_
  refine thenK_n ?_
  refine W.seq ?_
  refine W.seq ?_
  refine W.region ?_
  refine S.pure tOk zOk rfl rfl rfl ?_
  refine S.pure tOk zOk rfl rfl rfl ?_
  refine thenK_n ?_
  refine W.block ?_
  refine W.seq ?_
  refine W.seq ?_
  refine W.region ?_
  refine S.pure tOk zOk rfl rfl rfl ?_
  refine S.pure tOk zOk rfl rfl rfl ?_
  refine thenK_n ?_
  refine W.cond rfl (fun c2 => ?_) (fun c2 => ?_)
  ·skip
   refine W.skip ?_
   refine thenK_n ?_
   refine W.cond rfl (fun c3 => ?_) (fun c3 => ?_)
   ·skip
    refine W.region ?_
    refine S.pure tOk zOk rfl rfl rfl ?_
    refine S.pure tOk zOk rfl rfl rfl ?_
    refine S.pure tOk zOk rfl rfl rfl ?_
    refine S.pure tOk zOk rfl rfl rfl ?_
    refine S.pure tOk zOk rfl rfl rfl ?_
    refine S.store tOk rfl rfl rfl rfl rfl rfl rfl rfl ?_
    refine S.pure tOk zOk rfl rfl rfl ?_
    refine S.store tOk rfl rfl rfl rfl rfl rfl rfl rfl ?_
    refine blockK_n ?_
    refine thenK_n ?_
    refine W.seq ?_
    refine W.region ?_
    refine S.pure tOk zOk rfl rfl rfl ?_
    refine S.store tOk rfl rfl rfl rfl rfl rfl rfl rfl ?_
    refine S.pure tOk zOk rfl rfl rfl ?_
    refine thenK_n ?_
    refine W.ret ?_
    exact ⟨_, rfl, rfl, LeV.of_force rfl (by rw [inv_2 c1 (two_1 c2)]; rfl)⟩
   ·skip
    exact absurd (c2.symm.trans c3) (by decide)
  ·skip
   refine W.region ?_
   refine S.pure tOk zOk rfl rfl rfl ?_
   refine S.pure tOk zOk rfl rfl rfl ?_
   refine thenK_n ?_
   refine W.cond rfl (fun c4 => ?_) (fun c4 => ?_)
   ·skip
    refine W.region ?_
    refine S.pure tOk zOk rfl rfl rfl ?_
    refine S.pure tOk zOk rfl rfl rfl ?_
    refine S.pure tOk zOk rfl rfl rfl ?_
    refine S.pure tOk zOk rfl rfl rfl ?_
    refine S.pure tOk zOk rfl rfl rfl ?_
    refine S.store tOk rfl rfl rfl rfl rfl rfl rfl rfl ?_
    refine S.pure tOk zOk rfl rfl rfl ?_
    refine S.store tOk rfl rfl rfl rfl rfl rfl rfl rfl ?_
    refine blockK_n ?_
    refine thenK_n ?_
    refine W.seq ?_
    refine W.region ?_
    refine S.pure tOk zOk rfl rfl rfl ?_
    refine S.store tOk rfl rfl rfl rfl rfl rfl rfl rfl ?_
    refine S.pure tOk zOk rfl rfl rfl ?_
    refine thenK_n ?_
    refine W.ret ?_
    exact ⟨_, rfl, rfl, LeV.of_force rfl (by rw [inv_2 c1 (two_2 c4)]; rfl)⟩
   ·skip
    refine W.seq ?_
    refine W.region ?_
    refine S.pure tOk zOk rfl rfl rfl ?_
    refine S.pure tOk zOk rfl rfl rfl ?_
    refine thenK_n ?_
    refine W.cond rfl (fun c5 => ?_) (fun c5 => ?_)
    ·skip
     refine W.region ?_
     refine S.pure tOk zOk rfl rfl rfl ?_
     refine S.pure tOk zOk rfl rfl rfl ?_
     refine S.pure tOk zOk rfl rfl rfl ?_
     refine S.pure tOk zOk rfl rfl rfl ?_
     refine S.pure tOk zOk rfl rfl rfl ?_
     refine S.store tOk rfl rfl rfl rfl rfl rfl rfl rfl ?_
     refine S.pure tOk zOk rfl rfl rfl ?_
     refine S.store tOk rfl rfl rfl rfl rfl rfl rfl rfl ?_
     refine blockK_n ?_
     refine thenK_n ?_
     refine W.seq ?_
     refine W.region ?_
     refine S.pure tOk zOk rfl rfl rfl ?_
     refine S.store tOk rfl rfl rfl rfl rfl rfl rfl rfl ?_
     refine S.pure tOk zOk rfl rfl rfl ?_
     refine thenK_n ?_
     refine W.ret ?_
     exact ⟨_, rfl, rfl, LeV.of_force rfl (by rw [inv_7 c1 (two_or c2 c4) c5]; rfl)⟩
    ·skip
     refine W.seq ?_
     refine W.region ?_
     refine S.pure tOk zOk rfl rfl rfl ?_
     refine S.pure tOk zOk rfl rfl rfl ?_
     refine thenK_n ?_
     refine W.cond rfl (fun c6 => ?_) (fun c6 => ?_)
     ·skip
      refine W.skip ?_
      refine blockK_n ?_
      refine thenK_n ?_
      refine W.seq ?_
      refine W.region ?_
      refine S.pure tOk zOk rfl rfl rfl ?_
      refine S.store tOk rfl rfl rfl rfl rfl rfl rfl rfl ?_
      refine S.pure tOk zOk rfl rfl rfl ?_
      refine thenK_n ?_
      refine W.ret ?_
      exact ⟨_, rfl, rfl, LeV.of_force rfl (by rw [inv_8 c1 (two_or c2 c4) c5 c6]; rfl)⟩
     ·skip
      refine W.seq ?_
      refine W.region ?_
      refine S.pure tOk zOk rfl rfl rfl ?_
      refine S.store tOk rfl rfl rfl rfl rfl rfl rfl rfl ?_
      refine S.pure tOk zOk rfl rfl rfl ?_
      refine thenK_n ?_
      refine W.ret ?_
      refine blockK_r ?_
      refine thenK_r ?_
      exact ⟨_, rfl, rfl, LeV.of_force rfl (by rw [inv_0 c1 (two_or c2 c4) c5 c6]; rfl)⟩
theorem pc_InverseOf (r : Rul) (hr : RulB r) :
  PureCall Tryz.prog J 79 [.agg [.d (.int .i64 r.kd), .d (.str r.k), .d (.str r.tu), .d (.str r.old), .d (.str r.nu)]] (.tup [.agg [.d (.int .i64 (invR r).1.kd), .d (.str (invR r).1.k), .d (.str (invR r).1.tu), .d (.str (invR r).1.old), .d (.str (invR r).1.nu)], .one (.d (.int .i64 (invR r).2))]) := by
 refine PureCall.of_body tOk (fn := Tryz.f79) Tryz.func79 (by kernel_rfl) rfl (Nat.le_of_ble_eq_true rfl) (fun E => ?_)
 refine W.seq ?_
 refine W.region ?_
 refine S.box rfl rfl rfl rfl ?_
 refine S.alloc tOk rfl rfl rfl rfl ?_
 refine S.pure tOk zOk rfl rfl rfl ?_
 refine thenK_n ?_
 refine W.seq ?_
 refine W.seq ?_
 refine W.region ?_
 refine S.pure tOk zOk rfl rfl rfl ?_
 refine S.call rfl rfl rfl rfl rfl (pc_RuleError r hr) ?_
 refine S.pure tOk zOk rfl rfl rfl ?_
 refine thenK_n ?_
 refine W.seq ?_
 refine W.region ?_
 refine S.pure tOk zOk rfl rfl rfl ?_
 refine S.pure tOk zOk rfl rfl rfl ?_
 refine thenK_n ?_
 refine W.cond rfl (fun c1 => ?_) (fun c1 => ?_)
 ·skip
  refine W.seq ?_
  refine W.region ?_
  refine S.pure tOk zOk rfl rfl rfl ?_
  refine S.pure tOk zOk rfl rfl rfl ?_
  refine S.store tOk rfl rfl rfl rfl rfl rfl rfl rfl ?_
  refine S.pure tOk zOk rfl rfl rfl ?_
  refine thenK_n ?_
  refine W.ret ?_
  refine thenK_r ?_
  exact ⟨_, rfl, rfl, LeV.of_force rfl (by rw [inv_1 c1]; rfl)⟩
 ·skip
  refine W.skip ?_
  refine thenK_n ?_
  refine W.seq ?_
  refine W.seq ?_
  refine W.region ?_
  refine S.pure tOk zOk rfl rfl rfl ?_
  refine S.pure tOk zOk rfl rfl rfl ?_
  refine thenK_n ?_
  refine W.block ?_
  refine W.seq ?_
  refine W.seq ?_
  refine W.region ?_
  refine S.pure tOk zOk rfl rfl rfl ?_
  refine S.pure tOk zOk rfl rfl rfl ?_
  refine thenK_n ?_
  refine W.cond rfl (fun c2 => ?_) (fun c2 => ?_)
  ·skip
   refine W.skip ?_
   refine thenK_n ?_
   refine W.cond rfl (fun c3 => ?_) (fun c3 => ?_)
   ·skip
    refine W.seq ?_
    refine W.region ?_
    refine S.pure tOk zOk rfl rfl rfl ?_
    refine S.pure tOk zOk rfl rfl rfl ?_
    refine S.pure tOk zOk rfl rfl rfl ?_
    refine S.pure tOk zOk rfl rfl rfl ?_
    refine S.pure tOk zOk rfl rfl rfl ?_
    refine S.pure tOk zOk rfl rfl rfl ?_
    refine S.pure tOk zOk rfl rfl rfl ?_
    refine S.store tOk rfl rfl rfl rfl rfl rfl rfl rfl ?_
    refine S.pure tOk zOk rfl rfl rfl ?_
    refine thenK_n ?_
    refine W.ret ?_
    refine blockK_r ?_
    refine thenK_r ?_
    exact ⟨_, rfl, rfl, LeV.of_force rfl (by rw [inv_12 c1 (two_1 c2)]; rfl)⟩
   ·skip
    exact absurd (c2.symm.trans c3) (by decide)
  ·skip
   refine W.region ?_
   refine S.pure tOk zOk rfl rfl rfl ?_
   refine S.pure tOk zOk rfl rfl rfl ?_
   refine thenK_n ?_
   refine W.cond rfl (fun c4 => ?_) (fun c4 => ?_)
   ·skip
    refine W.seq ?_
    refine W.region ?_
    refine S.pure tOk zOk rfl rfl rfl ?_
    refine S.pure tOk zOk rfl rfl rfl ?_
    refine S.pure tOk zOk rfl rfl rfl ?_
    refine S.pure tOk zOk rfl rfl rfl ?_
    refine S.pure tOk zOk rfl rfl rfl ?_
    refine S.pure tOk zOk rfl rfl rfl ?_
    refine S.pure tOk zOk rfl rfl rfl ?_
    refine S.store tOk rfl rfl rfl rfl rfl rfl rfl rfl ?_
    refine S.pure tOk zOk rfl rfl rfl ?_
    refine thenK_n ?_
    refine W.ret ?_
    refine blockK_r ?_
    refine thenK_r ?_
    exact ⟨_, rfl, rfl, LeV.of_force rfl (by rw [inv_12 c1 (two_2 c4)]; rfl)⟩
   ·skip
    refine W.seq ?_
    refine W.region ?_
    refine S.pure tOk zOk rfl rfl rfl ?_
    refine S.pure tOk zOk rfl rfl rfl ?_
    refine thenK_n ?_
    refine W.cond rfl (fun c5 => ?_) (fun c5 => ?_)
    ·skip
     refine W.seq ?_
     refine W.region ?_
     refine S.pure tOk zOk rfl rfl rfl ?_
     refine S.pure tOk zOk rfl rfl rfl ?_
     refine S.pure tOk zOk rfl rfl rfl ?_
     refine S.pure tOk zOk rfl rfl rfl ?_
     refine S.pure tOk zOk rfl rfl rfl ?_
     refine S.pure tOk zOk rfl rfl rfl ?_
     refine S.pure tOk zOk rfl rfl rfl ?_
     refine S.pure tOk zOk rfl rfl rfl ?_
     refine S.pure tOk zOk rfl rfl rfl ?_
     refine S.store tOk rfl rfl rfl rfl rfl rfl rfl rfl ?_
     refine S.pure tOk zOk rfl rfl rfl ?_
     refine thenK_n ?_
     refine W.ret ?_
     refine blockK_r ?_
     refine thenK_r ?_
     exact ⟨_, rfl, rfl, LeV.of_force rfl (by rw [inv_70 c1 (two_or c2 c4) c5]; rfl)⟩
    ·skip
     refine W.seq ?_
     refine W.region ?_
     refine S.pure tOk zOk rfl rfl rfl ?_
     refine S.pure tOk zOk rfl rfl rfl ?_
     refine thenK_n ?_
     refine W.cond rfl (fun c6 => ?_) (fun c6 => ?_)
     ·skip
      refine W.seq ?_
      refine W.region ?_
      refine S.pure tOk zOk rfl rfl rfl ?_
      refine S.store tOk rfl rfl rfl rfl rfl rfl rfl rfl ?_
      refine S.pure tOk zOk rfl rfl rfl ?_
      refine thenK_n ?_
      refine W.ret ?_
      refine blockK_r ?_
      refine thenK_r ?_
      exact ⟨_, rfl, rfl, LeV.of_force rfl (by rw [inv_8 c1 (two_or c2 c4) c5 c6]; rfl)⟩
     ·skip
      refine W.skip ?_
      refine blockK_n ?_
      refine thenK_n ?_
      refine W.seq ?_
      refine W.region ?_
      refine S.pure tOk zOk rfl rfl rfl ?_
      refine S.store tOk rfl rfl rfl rfl rfl rfl rfl rfl ?_
      refine S.pure tOk zOk rfl rfl rfl ?_
      refine thenK_n ?_
      refine W.ret ?_
      exact ⟨_, rfl, rfl, LeV.of_force rfl (by rw [inv_0 c1 (two_or c2 c4) c5 c6]; rfl)⟩
theorem pc_Reverse (xs : List Rul) (al : Bool) (hl : xs.length ≤ 1000000) :
  HCall Tryz.prog J 70 ([.one (.row 0 0 0 xs.length)]) ([]) ([some ⟨al, 0, 5, 79, (xs).map rulD⟩]) ([]) (isH (.tup []) ([]) ([some ⟨al, 0, 5, 79, (xs.reverse).map rulD⟩]) ([])) := by
 refine HCall.ofD tOk ⟨0, 1, 0⟩ (fn := Tryz.f70) Tryz.func70 (by kernel_rfl) rfl (Nat.le_of_ble_eq_true rfl) (fun E => ?_)
 refine W.seq ?_
 refine W.region ?_
 refine S.pure tOk zOk rfl rfl rfl ?_
 refine S.pure tOk zOk rfl rfl rfl ?_
 refine S.pure tOk zOk rfl rfl rfl ?_
 refine S.pure tOk zOk rfl rfl rfl ?_
 refine S.pure tOk zOk rfl rfl rfl ?_
 refine thenK_n ?_
 rw [show xs.map rulD = (revTo xs 0).map rulD from by rw [revTo_0]]
 refine W.block ?_
 refine W.loop (fun k st => ∃ i : Nat, i ≤ xs.length ∧ k = xs.length - i ∧ ∃ t b2 r2 m2, st = ⟨t, [] ++ b2, [some ⟨al, 0, 5, 79, (revTo xs i).map rulD⟩] ++ r2, [] ++ m2⟩ ∧ holdsL t [(0, .one (.row 0 0 0 xs.length)), (2, .one (.d (.int .i64 (i : Int)))), (3, .one (.d (.int .i64 ((xs.length : Int) - 1 - (i : Int)))))]) (xs.length) ⟨0, Nat.zero_le _, rfl, _, _, _, _, rfl, rfl, rfl, rv_start (by omega), trivial⟩ ?_
 rintro k0 _ ⟨i, f0_0, rfl, t0, bb0, rr0, mm0, rfl, hh0⟩
 refine W.keepR _ _ _ _ _ _ _ hh0 rfl ?_
 refine W.seq ?_
 refine W.seq ?_
 refine W.region ?_
 refine S.pure tOk zOk rfl rfl rfl ?_
 refine S.pure tOk zOk rfl rfl rfl ?_
 refine S.pure tOk zOk rfl rfl rfl ?_
 refine thenK_n ?_
 refine W.cond rfl (fun c1 => ?_) (fun c1 => ?_)
 ·skip
  have hi : 2 * i + 1 < xs.length := by simp at c1; omega
  refine W.skip ?_
  refine thenK_n ?_
  refine W.seq ?_
  refine W.block ?_
  refine W.regionS 16 mixed rfl (by kernel_rfl) ?_
  refine AnyZ.eager 0 rfl (by kernel_rfl) (Eag.pure tOk zOk rfl (fun _ _ _ => rfl) rfl rfl) ?_
  refine AnyZ.eager 1 rfl (by kernel_rfl) (Eag.pure tOk zOk rfl (fun _ _ _ => rfl) rfl rfl) ?_
  refine AnyZ.eager 2 rfl (by kernel_rfl) (Eag.pure tOk zOk rfl (fun _ _ _ => rfl) rfl rfl) ?_
  refine AnyZ.eager 3 rfl (by kernel_rfl) (Eag.pure tOk zOk rfl (fun _ _ _ => rfl) rfl rfl) ?_
  refine AnyZ.eager 4 rfl (by kernel_rfl) (Eag.pure tOk zOk rfl (fun _ _ _ => rfl) rfl rfl) ?_
  refine AnyZ.eager 5 rfl (by kernel_rfl) (Eag.pure tOk zOk rfl (fun _ _ _ => rfl) rfl rfl) ?_
  refine AnyZ.eager 8 rfl (by kernel_rfl) (Eag.pure tOk zOk rfl (fun _ _ _ => rfl) rfl rfl) ?_
  refine AnyZ.eager 9 rfl (by kernel_rfl) (Eag.pure tOk zOk rfl (fun _ _ _ => rfl) rfl rfl) ?_
  refine AnyZ.two 6 10 (by kernel_rfl) rfl rfl ?_ ?_
  ·skip
   refine OpZ.d ?_
   refine D.pure tOk zOk rfl rfl (rv_ok2 (n := xs.length) (i := i) (by omega)) rfl ?_
   refine WD.nil ?_
   refine AnyZ.two 7 10 (by kernel_rfl) rfl rfl ?_ ?_
   ·skip
    refine OpZ.d ?_
    refine D.rload tOk rfl rfl rfl (rv_row2 hi) rfl rfl ?_
    refine WD.nil ?_
    refine AnyZ.one 10 (by kernel_rfl) rfl ?_
    refine OpZ.d ?_
    refine D.pure tOk zOk rfl rfl (rv_ok1 (n := xs.length) (i := i) (by omega)) rfl ?_
    refine WD.nil ?_
    refine AnyZ.one 11 (by kernel_rfl) rfl ?_
    refine OpZ.d ?_
    refine D.rload tOk rfl rfl rfl (rv_row1 hi) rfl rfl ?_
    refine WD.nil ?_
    refine AnyZ.one 12 (by kernel_rfl) rfl ?_
    refine OpZ.d ?_
    refine D.pure tOk zOk rfl rfl (rv_ok1 (n := xs.length) (i := i) (by omega)) rfl ?_
    refine WD.nil ?_
    refine AnyZ.one 13 (by kernel_rfl) rfl ?_
    refine OpZ.rstore tOk rfl rfl rfl rfl rfl rfl rfl (rv_set1 hi) rfl ?_
    refine AnyZ.one 14 (by kernel_rfl) rfl ?_
    refine OpZ.d ?_
    refine D.pure tOk zOk rfl rfl (rv_ok2 (n := xs.length) (i := i) (by omega)) rfl ?_
    refine WD.nil ?_
    refine AnyZ.one 15 (by kernel_rfl) rfl ?_
    refine OpZ.rstore tOk rfl rfl rfl rfl rfl rfl rfl (rv_set2 hi) rfl ?_
    refine AnyZ.nil (by kernel_rfl) ?_
    refine blockK_n ?_
    refine thenK_n ?_
    refine W.region ?_
    refine S.pure tOk zOk rfl rfl rfl ?_
    refine S.pure tOk zOk rfl rfl rfl ?_
    refine S.pure tOk zOk rfl rfl rfl ?_
    refine S.pure tOk zOk rfl rfl rfl ?_
    refine S.pure tOk zOk rfl rfl rfl ?_
    refine S.pure tOk zOk rfl rfl rfl ?_
    refine loop_n (xs.length - (i + 1)) (by omega) ⟨i + 1, (by omega), rfl, _, _, _, _, rfl, rfl, inc_i64 (by omega), rv_dec (by omega) (by omega), trivial⟩
   ·skip
    refine OpZ.d ?_
    refine D.pure tOk zOk rfl rfl (rv_ok1 (n := xs.length) (i := i) (by omega)) rfl ?_
    refine WD.nil ?_
    refine AnyZ.two 7 11 (by kernel_rfl) rfl rfl ?_ ?_
    ·skip
     refine OpZ.d ?_
     refine D.rload tOk rfl rfl rfl (rv_row2 hi) rfl rfl ?_
     refine WD.nil ?_
     refine AnyZ.one 11 (by kernel_rfl) rfl ?_
     refine OpZ.d ?_
     refine D.rload tOk rfl rfl rfl (rv_row1 hi) rfl rfl ?_
     refine WD.nil ?_
     refine AnyZ.one 12 (by kernel_rfl) rfl ?_
     refine OpZ.d ?_
     refine D.pure tOk zOk rfl rfl (rv_ok1 (n := xs.length) (i := i) (by omega)) rfl ?_
     refine WD.nil ?_
     refine AnyZ.one 13 (by kernel_rfl) rfl ?_
     refine OpZ.rstore tOk rfl rfl rfl rfl rfl rfl rfl (rv_set1 hi) rfl ?_
     refine AnyZ.one 14 (by kernel_rfl) rfl ?_
     refine OpZ.d ?_
     refine D.pure tOk zOk rfl rfl (rv_ok2 (n := xs.length) (i := i) (by omega)) rfl ?_
     refine WD.nil ?_
     refine AnyZ.one 15 (by kernel_rfl) rfl ?_
     refine OpZ.rstore tOk rfl rfl rfl rfl rfl rfl rfl (rv_set2 hi) rfl ?_
     refine AnyZ.nil (by kernel_rfl) ?_
     refine blockK_n ?_
     refine thenK_n ?_
     refine W.region ?_
     refine S.pure tOk zOk rfl rfl rfl ?_
     refine S.pure tOk zOk rfl rfl rfl ?_
     refine S.pure tOk zOk rfl rfl rfl ?_
     refine S.pure tOk zOk rfl rfl rfl ?_
     refine S.pure tOk zOk rfl rfl rfl ?_
     refine S.pure tOk zOk rfl rfl rfl ?_
     refine loop_n (xs.length - (i + 1)) (by omega) ⟨i + 1, (by omega), rfl, _, _, _, _, rfl, rfl, inc_i64 (by omega), rv_dec (by omega) (by omega), trivial⟩
    ·skip
     refine OpZ.d ?_
     refine D.rload tOk rfl rfl rfl (rv_row1 hi) rfl rfl ?_
     refine WD.nil ?_
     refine AnyZ.one 7 (by kernel_rfl) rfl ?_
     refine OpZ.d ?_
     refine D.rload tOk rfl rfl rfl (rv_row2 hi) rfl rfl ?_
     refine WD.nil ?_
     refine AnyZ.one 12 (by kernel_rfl) rfl ?_
     refine OpZ.d ?_
     refine D.pure tOk zOk rfl rfl (rv_ok1 (n := xs.length) (i := i) (by omega)) rfl ?_
     refine WD.nil ?_
     refine AnyZ.one 13 (by kernel_rfl) rfl ?_
     refine OpZ.rstore tOk rfl rfl rfl rfl rfl rfl rfl (rv_set1 hi) rfl ?_
     refine AnyZ.one 14 (by kernel_rfl) rfl ?_
     refine OpZ.d ?_
     refine D.pure tOk zOk rfl rfl (rv_ok2 (n := xs.length) (i := i) (by omega)) rfl ?_
     refine WD.nil ?_
     refine AnyZ.one 15 (by kernel_rfl) rfl ?_
     refine OpZ.rstore tOk rfl rfl rfl rfl rfl rfl rfl (rv_set2 hi) rfl ?_
     refine AnyZ.nil (by kernel_rfl) ?_
     refine blockK_n ?_
     refine thenK_n ?_
     refine W.region ?_
     refine S.pure tOk zOk rfl rfl rfl ?_
     refine S.pure tOk zOk rfl rfl rfl ?_
     refine S.pure tOk zOk rfl rfl rfl ?_
     refine S.pure tOk zOk rfl rfl rfl ?_
     refine S.pure tOk zOk rfl rfl rfl ?_
     refine S.pure tOk zOk rfl rfl rfl ?_
     refine loop_n (xs.length - (i + 1)) (by omega) ⟨i + 1, (by omega), rfl, _, _, _, _, rfl, rfl, inc_i64 (by omega), rv_dec (by omega) (by omega), trivial⟩
  ·skip
   refine OpZ.d ?_
   refine D.pure tOk zOk rfl rfl (rv_ok1 (n := xs.length) (i := i) (by omega)) rfl ?_
   refine WD.nil ?_
   refine AnyZ.two 6 11 (by kernel_rfl) rfl rfl ?_ ?_
   ·skip
    refine OpZ.d ?_
    refine D.pure tOk zOk rfl rfl (rv_ok2 (n := xs.length) (i := i) (by omega)) rfl ?_
    refine WD.nil ?_
    refine AnyZ.two 7 11 (by kernel_rfl) rfl rfl ?_ ?_
    ·skip
     refine OpZ.d ?_
     refine D.rload tOk rfl rfl rfl (rv_row2 hi) rfl rfl ?_
     refine WD.nil ?_
     refine AnyZ.one 11 (by kernel_rfl) rfl ?_
     refine OpZ.d ?_
     refine D.rload tOk rfl rfl rfl (rv_row1 hi) rfl rfl ?_
     refine WD.nil ?_
     refine AnyZ.one 12 (by kernel_rfl) rfl ?_
     refine OpZ.d ?_
     refine D.pure tOk zOk rfl rfl (rv_ok1 (n := xs.length) (i := i) (by omega)) rfl ?_
     refine WD.nil ?_
     refine AnyZ.one 13 (by kernel_rfl) rfl ?_
     refine OpZ.rstore tOk rfl rfl rfl rfl rfl rfl rfl (rv_set1 hi) rfl ?_
     refine AnyZ.one 14 (by kernel_rfl) rfl ?_
     refine OpZ.d ?_
     refine D.pure tOk zOk rfl rfl (rv_ok2 (n := xs.length) (i := i) (by omega)) rfl ?_
     refine WD.nil ?_
     refine AnyZ.one 15 (by kernel_rfl) rfl ?_
     refine OpZ.rstore tOk rfl rfl rfl rfl rfl rfl rfl (rv_set2 hi) rfl ?_
     refine AnyZ.nil (by kernel_rfl) ?_
     refine blockK_n ?_
     refine thenK_n ?_
     refine W.region ?_
     refine S.pure tOk zOk rfl rfl rfl ?_
     refine S.pure tOk zOk rfl rfl rfl ?_
     refine S.pure tOk zOk rfl rfl rfl ?_
     refine S.pure tOk zOk rfl rfl rfl ?_
     refine S.pure tOk zOk rfl rfl rfl ?_
     refine S.pure tOk zOk rfl rfl rfl ?_
     refine loop_n (xs.length - (i + 1)) (by omega) ⟨i + 1, (by omega), rfl, _, _, _, _, rfl, rfl, inc_i64 (by omega), rv_dec (by omega) (by omega), trivial⟩
    ·skip
     refine OpZ.d ?_
     refine D.rload tOk rfl rfl rfl (rv_row1 hi) rfl rfl ?_
     refine WD.nil ?_
     refine AnyZ.one 7 (by kernel_rfl) rfl ?_
     refine OpZ.d ?_
     refine D.rload tOk rfl rfl rfl (rv_row2 hi) rfl rfl ?_
     refine WD.nil ?_
     refine AnyZ.one 12 (by kernel_rfl) rfl ?_
     refine OpZ.d ?_
     refine D.pure tOk zOk rfl rfl (rv_ok1 (n := xs.length) (i := i) (by omega)) rfl ?_
     refine WD.nil ?_
     refine AnyZ.one 13 (by kernel_rfl) rfl ?_
     refine OpZ.rstore tOk rfl rfl rfl rfl rfl rfl rfl (rv_set1 hi) rfl ?_
     refine AnyZ.one 14 (by kernel_rfl) rfl ?_
     refine OpZ.d ?_
     refine D.pure tOk zOk rfl rfl (rv_ok2 (n := xs.length) (i := i) (by omega)) rfl ?_
     refine WD.nil ?_
     refine AnyZ.one 15 (by kernel_rfl) rfl ?_
     refine OpZ.rstore tOk rfl rfl rfl rfl rfl rfl rfl (rv_set2 hi) rfl ?_
     refine AnyZ.nil (by kernel_rfl) ?_
     refine blockK_n ?_
     refine thenK_n ?_
     refine W.region ?_
     refine S.pure tOk zOk rfl rfl rfl ?_
     refine S.pure tOk zOk rfl rfl rfl ?_
     refine S.pure tOk zOk rfl rfl rfl ?_
     refine S.pure tOk zOk rfl rfl rfl ?_
     refine S.pure tOk zOk rfl rfl rfl ?_
     refine S.pure tOk zOk rfl rfl rfl ?_
     refine loop_n (xs.length - (i + 1)) (by omega) ⟨i + 1, (by omega), rfl, _, _, _, _, rfl, rfl, inc_i64 (by omega), rv_dec (by omega) (by omega), trivial⟩
   ·skip
    refine OpZ.d ?_
    refine D.rload tOk rfl rfl rfl (rv_row1 hi) rfl rfl ?_
    refine WD.nil ?_
    refine AnyZ.one 6 (by kernel_rfl) rfl ?_
    refine OpZ.d ?_
    refine D.pure tOk zOk rfl rfl (rv_ok2 (n := xs.length) (i := i) (by omega)) rfl ?_
    refine WD.nil ?_
    refine AnyZ.one 7 (by kernel_rfl) rfl ?_
    refine OpZ.d ?_
    refine D.rload tOk rfl rfl rfl (rv_row2 hi) rfl rfl ?_
    refine WD.nil ?_
    refine AnyZ.one 12 (by kernel_rfl) rfl ?_
    refine OpZ.d ?_
    refine D.pure tOk zOk rfl rfl (rv_ok1 (n := xs.length) (i := i) (by omega)) rfl ?_
    refine WD.nil ?_
    refine AnyZ.one 13 (by kernel_rfl) rfl ?_
    refine OpZ.rstore tOk rfl rfl rfl rfl rfl rfl rfl (rv_set1 hi) rfl ?_
    refine AnyZ.one 14 (by kernel_rfl) rfl ?_
    refine OpZ.d ?_
    refine D.pure tOk zOk rfl rfl (rv_ok2 (n := xs.length) (i := i) (by omega)) rfl ?_
    refine WD.nil ?_
    refine AnyZ.one 15 (by kernel_rfl) rfl ?_
    refine OpZ.rstore tOk rfl rfl rfl rfl rfl rfl rfl (rv_set2 hi) rfl ?_
    refine AnyZ.nil (by kernel_rfl) ?_
    refine blockK_n ?_
    refine thenK_n ?_
    refine W.region ?_
    refine S.pure tOk zOk rfl rfl rfl ?_
    refine S.pure tOk zOk rfl rfl rfl ?_
    refine S.pure tOk zOk rfl rfl rfl ?_
    refine S.pure tOk zOk rfl rfl rfl ?_
    refine S.pure tOk zOk rfl rfl rfl ?_
    refine S.pure tOk zOk rfl rfl rfl ?_
    refine loop_n (xs.length - (i + 1)) (by omega) ⟨i + 1, (by omega), rfl, _, _, _, _, rfl, rfl, inc_i64 (by omega), rv_dec (by omega) (by omega), trivial⟩
 ·skip
  have hi : xs.length ≤ 2 * i + 1 := by simp at c1; omega
  rw [revTo_end hi]
  refine W.exit ?_
  refine thenK_e ?_
  refine thenK_e ?_
  refine blockK_x ?_
  exact ⟨_, rfl, rfl, LeG.refl _, rfl, rfl, rfl⟩
theorem pc_ReverseM (xs : List Rul) (al : Bool) (hl : xs.length ≤ 1000000) : HCall Tryz.prog J 70 [.one (.row 0 0 0 (xs.map rulD).length)] [] ([some ⟨al, 0, 5, 79, (xs).map rulD⟩]) [] (isH (.tup []) [] ([some ⟨al, 0, 5, 79, (xs.reverse).map rulD⟩]) []) := by
  rw [List.length_map]; exact pc_Reverse xs al hl
end Go.Proofs.YtcchfmilleffjaaGreatDoor

/- Plain laws: settings that rules have changed are settings; what can be gone back. -/
set_option linter.unusedVariables false
set_option linter.unusedSimpArgs false
namespace Go.Proofs.YtcchfmilleffjaaGreatDoor
open Go
theorem way_all {ss : List Stg} {rs : List Rul} (hok : RunOk ss rs) (hs : stepsE ss rs = 0) : ∀ i, i ≤ rs.length → Way ss rs i (runT ss rs i)
  | 0, _ => way_0 hok
  | i + 1, hi => by
    have hw := way_all hok hs i (by omega)
    have hz : stepAt ss rs i = 0 := firstNe_zero hs _ (List.mem_map.2 ⟨i, List.mem_range.2 (by omega), rfl⟩)
    exact way_next hw (hok.ok _ (mem_getD (by omega))) hz (EqT.refl (nd_do (run_nd _ _ _) _))
theorem steps_at {ss : List Stg} {rs : List Rul} (hs : stepsE ss rs = 0) {i : Nat} (hi : i < rs.length) : stepAt ss rs i = 0 := firstNe_zero hs _ (List.mem_map.2 ⟨i, List.mem_range.2 hi, rfl⟩)
def allV (t : Tab) : Prop := ∀ x ∈ t, valueB x.2 = true
theorem set_mem {t : Tab} {k v : L8} : ∀ {x : L8 × L8}, x ∈ setL beqS t k v → x ∈ t ∨ x = (k, v) := by
  induction t with
  | nil => intro x h; exact .inr (by simpa [setL] using h)
  | cons y t ih =>
    intro x h
    unfold setL at h
    cases hb : beqS k y.1 with
    | true =>
      rw [hb] at h
      rcases List.mem_cons.1 h with h | h
      · exact .inr h
      · exact .inl (List.mem_cons_of_mem _ h)
    | false =>
      rw [hb] at h
      rcases List.mem_cons.1 h with h | h
      · exact .inl (by rw [h]; exact List.mem_cons_self)
      · rcases ih h with h | h
        · exact .inl (List.mem_cons_of_mem _ h)
        · exact .inr h
theorem setV {t : Tab} (h : allV t) {k v : L8} (hv : valueB v = true) : allV (setL beqS t k v) := fun x hx => by
  rcases set_mem hx with h1 | h1
  · exact h x h1
  · rw [h1]; exact hv
theorem delV {t : Tab} (h : allV t) (k : L8) : allV (delL beqS t k) := fun x hx => h x ((del_sub t k).subset hx)
theorem get_mem {t : Tab} (hd : ndT t) {k : L8} (hk : hasL beqS t k = true) : (k, getL beqS [] t k) ∈ t := by
  rw [has_lk] at hk
  obtain ⟨v, hv⟩ := Option.isSome_iff_exists.1 hk
  rw [get_lk, hv]
  exact (lk_mem hd).1 hv
theorem copyV : ∀ (t : Tab) {u : Tab}, allV t → allV u → allV (copyT t u)
  | [], u, _, h => h
  | x :: t, u, h1, h2 => copyV t (fun y hy => h1 y (List.mem_cons_of_mem _ hy)) (setV h2 (h1 x List.mem_cons_self))
theorem movV {t : Tab} (h : allV t) (key tu : L8) : allV (movT t key tu) := fun x hx => by
  obtain ⟨y, hy, he⟩ := List.mem_filterMap.1 hx
  obtain ⟨s, _, rfl⟩ := Option.map_eq_some_iff.1 he
  exact h y hy
theorem doV {t : Tab} (hd : ndT t) (h : allV t) {r : Rul} (hr : RulOk r) : allV (doT t r) := by
  have hn := hr.vn
  have ho := hr.vo
  have hg : ∀ k, hasL beqS t k = true → valueB (getL beqS [] t k) = true := fun k hk => h _ (get_mem hd hk)
  unfold doT
  split
  · split
    · rename_i hh; exact setV (delV h _) (hg _ hh)
    · exact h
  · split
    · exact copyV _ (movV h _ _) (fun x hx => h x (List.mem_filter.1 hx).1)
    · split
      · split
        · rename_i hh; exact setV h (hg _ hh)
        · exact h
      · repeat' split
        all_goals first | exact h | exact setV h hn | exact setV h ho | exact delV h _
theorem tabTo_val {l : List Stg} (h : listE pathB l = 0) : ∀ i, i ≤ l.length → allV (tabTo l i)
  | 0, _ => fun x hx => by cases hx
  | i + 1, hi => by
    have h1 := firstNe_zero h
    have h2 := h1 (stgAt pathB l i) (List.mem_map.2 ⟨i, List.mem_range.2 (by omega), rfl⟩)
    refine setV (tabTo_val h i (by omega)) ?_
    unfold stgAt at h2
    cases hp : valueB (l.getD i Stg.z).v with
    | true => rfl
    | false => rw [hp] at h2; split at h2 <;> simp at h2
theorem runV {ss : List Stg} {rs : List Rul} (h : listE pathB ss = 0) (hok : RunOk ss rs) : ∀ i, i ≤ rs.length → allV (runT ss rs i)
  | 0, _ => tabTo_val h _ (Nat.le_refl _)
  | i + 1, hi => doV (run_nd _ _ _) (runV h hok i (by omega)) (hok.ok _ (mem_getD (by omega)))
theorem runF_list {ss : List Stg} {rs : List Rul} (h : (runF ss rs != 0) = false) : listE pathB ss = 0 := firstNe_zero (by simpa using h : runF ss rs = 0) _ (by simp)
/-- Keys in order rise. -/
theorem keys_rise {t : Tab} (hd : ndT t) : (keysT t).Pairwise fun a b => a < b := by
  unfold keysT sortS
  have tr : ∀ a b c : List UInt8, leB a b = true → leB b c = true → leB a c = true := fun a b c h1 h2 => by simp only [leB, decide_eq_true_eq] at *; exact List.le_trans h1 h2
  have tot : ∀ a b : List UInt8, (leB a b || leB b a) = true := fun a b => by simp only [leB, Bool.or_eq_true, decide_eq_true_eq]; exact List.le_total a b
  have h1 := List.pairwise_mergeSort tr tot (t.map (·.1))
  have h2 : ((t.map (·.1)).mergeSort leB).Nodup := (List.mergeSort_perm _ _).nodup_iff.2 hd
  rw [List.nodup_iff_pairwise_ne] at h2
  refine (h1.and h2).imp fun {a b} ⟨ha, hb⟩ => ?_
  simp only [leB, decide_eq_true_eq] at ha
  by_cases hlt : a < b
  · exact hlt
  · exact absurd (List.le_antisymm ha (List.not_lt.1 hlt)) hb
theorem keys_mem {t : Tab} {k : L8} : k ∈ keysT t ↔ k ∈ t.map (·.1) := by unfold keysT sortS; exact (List.mergeSort_perm _ _).mem_iff
theorem listT_get {t : Tab} {i : Nat} (hi : i < (keysT t).length) : (listT t).getD i Stg.z = ⟨(keysT t).getD i [], getL beqS [] t ((keysT t).getD i [])⟩ := by
  show (((keysT t)).map fun k => (⟨k, getL beqS [] t k⟩ : Stg)).getD i Stg.z = _
  simp [List.getD_eq_getElem?_getD, hi]
theorem listT_len (t : Tab) : (listT t).length = t.length := by
  show ((keysT t).map fun k => (⟨k, getL beqS [] t k⟩ : Stg)).length = _
  rw [List.length_map, keysT_len]
/-- A table's settings are settings. -/
theorem list_ok {t : Tab} (hd : ndT t) (hp : allP t = true) (hv : allV t) : listE pathB (listT t) = 0 := by
  have hall : ∀ i, i < (listT t).length → stgAt pathB (listT t) i = 0 := fun i hi => by
    rw [listT_len, ← keysT_len] at hi
    have hk : (keysT t).getD i [] ∈ t.map (·.1) := keys_mem.1 (mem_getD hi)
    have h1 : pathB ((keysT t).getD i []) = true := all_keys.1 hp _ hk
    have h2 : hasL beqS t ((keysT t).getD i []) = true := by
      rw [has_lk]
      cases hq : lk t ((keysT t).getD i []) with
      | some v => rfl
      | none => exact absurd hk (lk_none.1 hq)
    have h3 : valueB (getL beqS [] t ((keysT t).getD i [])) = true := hv _ (get_mem hd h2)
    unfold stgAt
    rw [listT_get hi]
    simp only [h1, h3, Bool.not_true, Bool.false_eq_true, if_false]
    by_cases h0 : i = 0
    · subst h0; simp
    · rw [listT_get (by omega)]
      have hlt : (keysT t).getD (i - 1) [] < (keysT t).getD i [] := by
        have := List.pairwise_iff_getElem.1 (keys_rise hd) (i - 1) i (by omega) hi (by omega)
        simpa [List.getD_eq_getElem?_getD, hi, show i - 1 < (keysT t).length by omega] using this
      have : leS ((keysT t).getD i []) ((keysT t).getD (i - 1) []) = false := by
        unfold leS
        rw [bytesLess_eq]
        have h5 : ¬ (keysT t).getD i [] < (keysT t).getD (i - 1) [] := fun h => List.lt_irrefl _ (List.lt_trans h hlt)
        have h6 : (keysT t).getD i [] ≠ (keysT t).getD (i - 1) [] := fun h => by rw [h] at hlt; exact List.lt_irrefl _ hlt
        rw [decide_eq_false h5, Bool.false_or]
        exact beq_eq_false_iff_ne.2 h6
      simp only [this, Bool.and_false, Bool.false_eq_true, if_false]
  unfold listE
  refine firstNe_none (i := (listT t).length) (by simp) (List.all_eq_true.2 fun x hx => ?_)
  obtain ⟨i, hi, rfl⟩ := List.mem_map.1 (List.mem_of_mem_take hx)
  rw [hall i (List.mem_range.1 hi)]; rfl
theorem value_len {v : L8} (h : valueB v = true) : v.length ≤ 1000 := by
  unfold valueB at h
  rw [Bool.or_eq_true] at h
  rcases h with h | h
  · rw [beq_iff_eq.1 h]; simp
  · unfold eachB at h; simp at h; omega
theorem list_len {t : Tab} (hd : ndT t) (hp : allP t = true) (hv : allV t) : ∀ s ∈ listT t, s.k.length < 4294967000 ∧ s.v.length < 4294967000 := fun s hs => by
  obtain ⟨k, hk, rfl⟩ := List.mem_map.1 hs
  have hk' : k ∈ t.map (·.1) := keys_mem.1 hk
  have h1 := path_len (all_keys.1 hp _ hk')
  have h2 : hasL beqS t k = true := by
    rw [has_lk]
    cases hq : lk t k with
    | some v => rfl
    | none => exact absurd hk' (lk_none.1 hq)
  have h3 := value_len (hv _ (get_mem hd h2))
  exact ⟨by show k.length < _; omega, by show (getL beqS [] t k).length < _; simp only at h3; omega⟩
def cleanTo (ss : List Stg) (rs : List Rul) (i : Nat) : Bool := (List.range i).all fun j => !losesT (runT ss rs j) (rs.getD j Rul.z)
theorem cl_0 (ss : List Stg) (rs : List Rul) : cleanTo ss rs 0 = true := rfl
theorem cl_next {ss : List Stg} {rs : List Rul} {i : Nat} (h : cleanTo ss rs i = true) (hl : losesT (runT ss rs i) (rs.getD i Rul.z) = false) : cleanTo ss rs (i + 1) = true := by
  unfold cleanTo at *
  rw [List.range_succ, List.all_append, h, List.all_cons, hl]; rfl
theorem cl_hit {ss : List Stg} {rs : List Rul} {i : Nat} (hi : i < rs.length) (hl : losesT (runT ss rs i) (rs.getD i Rul.z) = true) : cleanT ss rs = false := by
  unfold cleanT
  rw [← Bool.not_eq_true, List.all_eq_true]
  intro h
  have := h i (List.mem_range.2 hi)
  rw [hl] at this; cases this
theorem cl_end {ss : List Stg} {rs : List Rul} (h : cleanTo ss rs rs.length = true) : cleanT ss rs = true := h
theorem cp_a {ss : List Stg} {rs : List Rul} (h : ((runP ss rs).2 != 0) = true) : cleanP ss rs = (false, (runP ss rs).2) := if_pos h
theorem cp_b {ss : List Stg} {rs : List Rul} (h : ((runP ss rs).2 != 0) = false) (h2 : ((invAll rs).2 != 0) = true) : cleanP ss rs = (false, (invAll rs).2) := by
  unfold cleanP; rw [if_neg (Bool.eq_false_iff.1 h), if_pos h2]
theorem cp_c {ss : List Stg} {rs : List Rul} (h : ((runP ss rs).2 != 0) = false) (h2 : ((invAll rs).2 != 0) = false) : cleanP ss rs = (cleanT ss rs, 0) := by
  unfold cleanP; rw [if_neg (Bool.eq_false_iff.1 h), if_neg (Bool.eq_false_iff.1 h2)]
theorem run_zero {ss : List Stg} {rs : List Rul} (h : ((runP ss rs).2 != 0) = false) : (runF ss rs != 0) = false ∧ stepsE ss rs = 0 := by
  by_cases h1 : (runF ss rs != 0) = true
  · rw [runP_1 h1] at h; rw [h1] at h; cases h
  · have h1 := Bool.eq_false_iff.2 h1
    refine ⟨h1, ?_⟩
    by_cases h2 : stepsE ss rs = 0
    · exact h2
    · rw [runP_2 h1 _ rfl h2] at h; simp at h; exact absurd h h2
theorem runP_ok {ss : List Stg} {rs : List Rul} (h : ((runP ss rs).2 != 0) = false) : (runP ss rs).1 = listT (runT ss rs rs.length) ∧ listE pathB ss = 0 ∧ listE pathB (runP ss rs).1 = 0 := by
  obtain ⟨h1, h2⟩ := run_zero h
  have hok := run_ok h1
  have hw := way_all hok h2 rs.length (Nat.le_refl _)
  have hv := runV (runF_list h1) hok rs.length (Nat.le_refl _)
  rw [runP_3 h1 h2]
  exact ⟨rfl, runF_list h1, list_ok (run_nd _ _ _) hw.all hv⟩
theorem runP_len (ss : List Stg) (rs : List Rul) : (runP ss rs).1.length ≤ 2000 ∧ ∀ s ∈ (runP ss rs).1, s.k.length < 4294967000 ∧ s.v.length < 4294967000 := by
  by_cases h : ((runP ss rs).2 != 0) = false
  · obtain ⟨h1, h2⟩ := run_zero h
    have hok := run_ok h1
    have hw := way_all hok h2 rs.length (Nat.le_refl _)
    have hv := runV (runF_list h1) hok rs.length (Nat.le_refl _)
    rw [(runP_ok h).1]
    exact ⟨by rw [listT_len]; exact hw.len, list_len (run_nd _ _ _) hw.all hv⟩
  · have h : ((runP ss rs).2 != 0) = true := by simpa using h
    have : (runP ss rs).1 = [] := by
      by_cases h1 : (runF ss rs != 0) = true
      · rw [runP_1 h1]
      · have h1 := Bool.eq_false_iff.2 h1
        by_cases h2 : stepsE ss rs = 0
        · rw [runP_3 h1 h2] at h; cases h
        · rw [runP_2 h1 _ rfl h2]
    rw [this]
    exact ⟨by simp, fun s hs => by cases hs⟩
theorem inv_len {rs : List Rul} : (invAll rs).1.length ≤ 100 := by
  unfold invAll
  split
  · simp
  · rename_i h
    split
    · simp
    · simp at h ⊢; omega
def wantR (ss : List Stg) (rs : List Rul) : Int := firstNe [(runP ss rs).2, (invAll rs).2]
theorem want_0 {ss : List Stg} {rs : List Rul} (h : (wantR ss rs == 0) = true) : ((runP ss rs).2 != 0) = false ∧ ((invAll rs).2 != 0) = false := by
  have h0 : wantR ss rs = 0 := by simpa using h
  have hz := firstNe_zero h0
  exact ⟨by simpa using hz _ (by simp : (runP ss rs).2 ∈ [(runP ss rs).2, (invAll rs).2]), by simpa using hz _ (by simp : (invAll rs).2 ∈ [(runP ss rs).2, (invAll rs).2])⟩
theorem want_eq (ss : List Stg) (rs : List Rul) : cleanP ss rs = if (wantR ss rs != 0) = true then (false, wantR ss rs) else (cleanT ss rs, 0) := by
  unfold wantR
  rw [first2]
  unfold firstB
  by_cases h1 : ((runP ss rs).2 != 0) = true
  · rw [if_pos h1, if_pos h1, cp_a h1]
  · rw [if_neg h1]
    have h1 := Bool.eq_false_iff.2 h1
    by_cases h2 : ((invAll rs).2 != 0) = true
    · rw [if_pos h2, cp_b h1 h2]
    · rw [if_neg h2, cp_c h1 (Bool.eq_false_iff.2 h2)]
theorem law_clean (ss : List Stg) (rs : List Rul) : (((cleanP ss rs).2 != wantR ss rs || (wantR ss rs != 0 && (cleanP ss rs).1)) || (wantR ss rs == 0 && (cleanP ss rs).1 != cleanT ss rs)) = false := by
  rw [want_eq]
  by_cases h : (wantR ss rs != 0) = true
  · rw [if_pos h]
    have : (wantR ss rs == 0) = false := by simpa using h
    simp [this]
  · rw [if_neg h]
    have h0 : wantR ss rs = 0 := by simpa using h
    simp [h0]
theorem law_chg {ss : List Stg} {rs : List Rul} (h : ((runP ss rs).2 != 0) = false) : listE pathB ss = 0 ∧ listE pathB (runP ss rs).1 = 0 := (runP_ok h).2
end Go.Proofs.YtcchfmilleffjaaGreatDoor

set_option linter.unusedVariables false
set_option linter.unusedSimpArgs false
set_option maxRecDepth 100000
set_option maxHeartbeats 4000000
namespace Go.Proofs.YtcchfmilleffjaaGreatDoor
open Go
open Go.RowKit
attribute [local irreducible] rangeB pathB nameB valueB firstNe tailOf listT ndT badP sortS prefT stepE stepR listE ruleC doT runT invR revTo losesT cleanT cleanTo stepsE runF changesP changesL
theorem le_invNil {n : Int} {x : List Rul × Int} (h : x = ([], n)) : LeV (.tup [.one (.d .nilsl), .one (.d (.int .i64 n))]) (.tup [.one (.d (.vec 5 (x.1.map rulD))), .one (.d (.int .i64 x.2))]) := by
  subst h; exact LeV.tup2 (LeV.nil 5) (LeV.refl _)
theorem inv_end {rs : List Rul} (h : ((rs.map fun r => (invR r).2).take rs.length).all (· == 0) = true) : invE rs = 0 := fe_end (Nat.le_refl _) h
theorem pc_InverseAll (rs : List Rul) (hm : rs.length ≤ 2000000) (hrb : ∀ r ∈ rs, RulB r) :
  PureCall Tryz.prog J 19 [.one (.d (.vec 5 (rs.map rulD)))] (.tup [.one (.d (.vec 5 ((invAll rs).1.map rulD))), .one (.d (.int .i64 (invAll rs).2))]) := by
 refine PureCall.of_body tOk (fn := Tryz.f19) Tryz.func19 (by kernel_rfl) rfl (Nat.le_of_ble_eq_true rfl) (fun E => ?_)
 refine W.seq ?_
 refine W.region ?_
 refine S.pure tOk zOk rfl rfl rfl ?_
 refine S.pure tOk zOk rfl rfl rfl ?_
 refine thenK_n ?_
 refine W.seq ?_
 refine W.seq ?_
 refine W.region ?_
 refine S.pure tOk zOk rfl rfl rfl ?_
 refine S.pure tOk zOk rfl rfl rfl ?_
 refine S.pure tOk zOk rfl rfl rfl ?_
 refine thenK_n ?_
 refine W.cond rfl (fun c1 => ?_) (fun c1 => ?_)
 ·skip
  have c1 : decide ((rs.length : Int) > 100) = true := by simpa using c1
  refine W.seq ?_
  refine W.region ?_
  refine S.pure tOk zOk rfl rfl rfl ?_
  refine S.pure tOk zOk rfl rfl rfl ?_
  refine thenK_n ?_
  refine W.ret ?_
  refine thenK_r ?_
  exact ⟨_, rfl, rfl, le_invNil (ia_1 c1)⟩
 ·skip
  have c1 : decide ((rs.length : Int) > 100) = false := by simpa using c1
  have hlen : rs.length ≤ 100 := by simp at c1; omega
  refine W.skip ?_
  refine thenK_n ?_
  refine W.seq ?_
  refine W.region ?_
  refine S.pure tOk zOk rfl rfl rfl ?_
  refine thenK_n ?_
  refine W.seq ?_
  refine W.seq ?_
  refine W.region ?_
  refine S.pure tOk zOk rfl rfl rfl ?_
  refine S.pure tOk zOk rfl rfl rfl ?_
  refine S.pure tOk zOk rfl rfl rfl ?_
  refine thenK_n ?_
  refine W.newRow 4 5 79 rfl ?_
  refine W.block ?_
  refine W.loop (fun k st => ∃ i : Nat, ∃ v : Nat, ∃ al : Bool, i ≤ rs.length ∧ ((rs.map fun r => (invR r).2).take i).all (· == 0) = true ∧ k = rs.length - i ∧ ∃ t b2 r2 m2, st = ⟨t, [] ++ b2, [some ⟨al, v, 5, 79, (invTo rs i).map rulD⟩] ++ r2, [] ++ m2⟩ ∧ holdsL t [(4, .one (.row 0 v 0 ((invTo rs i).map rulD).length)), (12, .one (.d (.vec 5 (rs.map rulD)))), (13, .one (.d (.int .i64 ((rs.map rulD).length : Int)))), (14, .one (.d (.int .i64 (i : Int))))]) (rs.length) ⟨0, _, _, Nat.zero_le _, by simp, rfl, _, _, _, _, rfl, rfl, rfl, rfl, rfl, trivial⟩ ?_
  rintro k0 _ ⟨i, v, al, f0_0, f0_1, rfl, t0, bb0, rr0, mm0, rfl, hh0⟩
  refine W.keepR _ _ _ _ _ _ _ hh0 rfl ?_
  refine W.reVer (l := [(4, .one (.row 0 0 0 ((invTo rs i).map rulD).length)), (12, .one (.d (.vec 5 (rs.map rulD)))), (13, .one (.d (.int .i64 ((rs.map rulD).length : Int)))), (14, .one (.d (.int .i64 (i : Int))))]) (b := []) 0 rfl rfl rfl rfl rfl ?_
  refine W.seq ?_
  refine W.region ?_
  refine S.pure tOk zOk rfl rfl rfl ?_
  refine thenK_n ?_
  refine W.seq ?_
  refine W.cond rfl (fun c2 => ?_) (fun c2 => ?_)
  ·skip
   have hi := row_lt c2
   have hri := hrb _ (mem_getD (d := Rul.z) hi)
   refine W.skip ?_
   refine thenK_n ?_
   refine W.seq ?_
   refine W.block ?_
   refine W.seq ?_
   refine W.region ?_
   refine S.pureE tOk zOk rfl (row_ok hi) (row_at Rul.z hi) rfl ?_
   refine S.pure tOk zOk rfl rfl rfl ?_
   refine S.alloc tOk rfl rfl rfl rfl ?_
   refine S.store tOk rfl rfl rfl rfl rfl rfl rfl rfl ?_
   refine thenK_n ?_
   refine W.seq ?_
   refine W.region ?_
   refine S.pure tOk zOk rfl rfl rfl ?_
   refine S.call rfl rfl rfl rfl rfl (pc_Inverse (rs.getD i Rul.z) hri) ?_
   refine S.pure tOk zOk rfl rfl rfl ?_
   refine S.pure tOk zOk rfl rfl rfl ?_
   refine S.pure tOk zOk rfl rfl rfl ?_
   refine S.alloc tOk rfl rfl rfl rfl ?_
   refine S.store tOk rfl rfl rfl rfl rfl rfl rfl rfl ?_
   refine S.pure tOk zOk rfl rfl rfl ?_
   refine thenK_n ?_
   refine W.seq ?_
   refine W.seq ?_
   refine W.region ?_
   refine S.pure tOk zOk rfl rfl rfl ?_
   refine S.pure tOk zOk rfl rfl rfl ?_
   refine thenK_n ?_
   refine W.cond rfl (fun c3 => ?_) (fun c3 => ?_)
   ·skip
    refine W.seq ?_
    refine W.region ?_
    refine S.pure tOk zOk rfl rfl rfl ?_
    refine S.pure tOk zOk rfl rfl rfl ?_
    refine S.pure tOk zOk rfl rfl rfl ?_
    refine thenK_n ?_
    refine W.ret ?_
    refine thenK_r ?_
    refine blockK_r ?_
    refine thenK_r ?_
    refine thenK_r ?_
    refine blockK_r ?_
    refine thenK_r ?_
    exact ⟨_, rfl, rfl, le_invNil (ia_2 c1 _ (fe_hit (d := Rul.z) hi f0_1 c3) c3)⟩
   ·skip
    refine W.skip ?_
    refine thenK_n ?_
    refine W.region ?_
    refine S.pure tOk zOk rfl rfl rfl ?_
    refine S.pure tOk zOk rfl rfl rfl ?_
    refine S.slice tOk rfl rfl ?_
    refine S.append tOk rfl rfl rfl rfl rfl rfl rfl rfl rfl rfl rfl rfl (by have hq := invTo_len rs (Nat.le_of_lt hi); show _ + 1 ≤ _; rw [List.length_map]; omega) rfl (invTo_succ hi) rfl ?_
    refine S.pure tOk zOk rfl rfl rfl ?_
    refine blockK_n ?_
    refine thenK_n ?_
    refine W.region ?_
    refine S.pure tOk zOk rfl rfl rfl ?_
    refine S.pure tOk zOk rfl rfl rfl ?_
    refine loop_n (rs.length - (i + 1)) (by omega) ⟨i + 1, _, _, hi, fe_next (d := Rul.z) hi f0_1 c3, rfl, _, _, _, _, rfl, rfl, rfl, rfl, inc_i64 (by omega), trivial⟩
  ·skip
   have hi := row_ge c2
   obtain rfl : i = rs.length := by omega
   refine W.exit ?_
   refine thenK_e ?_
   refine thenK_e ?_
   refine blockK_x ?_
   refine thenK_n ?_
   refine W.seq ?_
   refine W.region ?_
   refine S.pure tOk zOk rfl rfl rfl ?_
   refine S.hcallD rfl rfl rfl rfl (pc_ReverseM (invTo rs rs.length) _ (by rw [invTo_len rs (Nat.le_refl _)]; omega)) ?_
   refine thenK_n ?_
   refine W.seq ?_
   refine W.freeze (ri := 0) (q := ⟨_, _, _, _, _⟩) [4] rfl (by intro k hk; simp at hk; subst hk; exact congrArg (fun z => V.one (.row 0 0 0 z)) (by simp)) ?_
   refine W.region ?_
   refine S.pure tOk zOk rfl rfl rfl ?_
   refine S.pure tOk zOk rfl rfl rfl ?_
   refine S.pure tOk zOk rfl rfl rfl ?_
   refine thenK_n ?_
   refine W.ret ?_
   exact ⟨_, rfl, rfl, LeV.of_force rfl (by rw [ia_3 c1 (inv_end f0_1), invTo_end]; rfl)⟩
theorem pc_InverseAllOf (rs : List Rul) (hm : rs.length ≤ 2000000) (hrb : ∀ r ∈ rs, RulB r) :
  PureCall Tryz.prog J 25 [.one (.d (.vec 5 (rs.map rulD)))] (.tup [.one (.d (.vec 5 ((invAll rs).1.map rulD))), .one (.d (.int .i64 (invAll rs).2))]) := by
 refine PureCall.of_body tOk (fn := Tryz.f25) Tryz.func25 (by kernel_rfl) rfl (Nat.le_of_ble_eq_true rfl) (fun E => ?_)
 refine W.seq ?_
 refine W.region ?_
 refine S.pure tOk zOk rfl rfl rfl ?_
 refine S.pure tOk zOk rfl rfl rfl ?_
 refine thenK_n ?_
 refine W.seq ?_
 refine W.seq ?_
 refine W.region ?_
 refine S.pure tOk zOk rfl rfl rfl ?_
 refine S.pure tOk zOk rfl rfl rfl ?_
 refine S.pure tOk zOk rfl rfl rfl ?_
 refine thenK_n ?_
 refine W.cond rfl (fun c1 => ?_) (fun c1 => ?_)
 ·skip
  have c1 : decide ((rs.length : Int) > 100) = true := by simpa using c1
  refine W.seq ?_
  refine W.region ?_
  refine S.pure tOk zOk rfl rfl rfl ?_
  refine S.pure tOk zOk rfl rfl rfl ?_
  refine thenK_n ?_
  refine W.ret ?_
  refine thenK_r ?_
  exact ⟨_, rfl, rfl, le_invNil (ia_1 c1)⟩
 ·skip
  have c1 : decide ((rs.length : Int) > 100) = false := by simpa using c1
  have hlen : rs.length ≤ 100 := by simp at c1; omega
  refine W.skip ?_
  refine thenK_n ?_
  refine W.seq ?_
  refine W.region ?_
  refine S.pure tOk zOk rfl rfl rfl ?_
  refine thenK_n ?_
  refine W.seq ?_
  refine W.seq ?_
  refine W.region ?_
  refine S.pure tOk zOk rfl rfl rfl ?_
  refine S.pure tOk zOk rfl rfl rfl ?_
  refine S.pure tOk zOk rfl rfl rfl ?_
  refine thenK_n ?_
  refine W.newRow 4 5 79 rfl ?_
  refine W.block ?_
  refine W.loop (fun k st => ∃ i : Nat, ∃ v : Nat, ∃ al : Bool, i ≤ rs.length ∧ ((rs.map fun r => (invR r).2).take i).all (· == 0) = true ∧ k = rs.length - i ∧ ∃ t b2 r2 m2, st = ⟨t, [] ++ b2, [some ⟨al, v, 5, 79, (invTo rs i).map rulD⟩] ++ r2, [] ++ m2⟩ ∧ holdsL t [(4, .one (.row 0 v 0 ((invTo rs i).map rulD).length)), (12, .one (.d (.vec 5 (rs.map rulD)))), (13, .one (.d (.int .i64 ((rs.map rulD).length : Int)))), (14, .one (.d (.int .i64 (i : Int))))]) (rs.length) ⟨0, _, _, Nat.zero_le _, by simp, rfl, _, _, _, _, rfl, rfl, rfl, rfl, rfl, trivial⟩ ?_
  rintro k0 _ ⟨i, v, al, f0_0, f0_1, rfl, t0, bb0, rr0, mm0, rfl, hh0⟩
  refine W.keepR _ _ _ _ _ _ _ hh0 rfl ?_
  refine W.reVer (l := [(4, .one (.row 0 0 0 ((invTo rs i).map rulD).length)), (12, .one (.d (.vec 5 (rs.map rulD)))), (13, .one (.d (.int .i64 ((rs.map rulD).length : Int)))), (14, .one (.d (.int .i64 (i : Int))))]) (b := []) 0 rfl rfl rfl rfl rfl ?_
  refine W.seq ?_
  refine W.region ?_
  refine S.pure tOk zOk rfl rfl rfl ?_
  refine thenK_n ?_
  refine W.seq ?_
  refine W.cond rfl (fun c2 => ?_) (fun c2 => ?_)
  ·skip
   have hi := row_lt c2
   have hri := hrb _ (mem_getD (d := Rul.z) hi)
   refine W.skip ?_
   refine thenK_n ?_
   refine W.seq ?_
   refine W.block ?_
   refine W.seq ?_
   refine W.region ?_
   refine S.pureE tOk zOk rfl (row_ok hi) (row_at Rul.z hi) rfl ?_
   refine S.pure tOk zOk rfl rfl rfl ?_
   refine S.alloc tOk rfl rfl rfl rfl ?_
   refine S.store tOk rfl rfl rfl rfl rfl rfl rfl rfl ?_
   refine thenK_n ?_
   refine W.seq ?_
   refine W.region ?_
   refine S.pure tOk zOk rfl rfl rfl ?_
   refine S.call rfl rfl rfl rfl rfl (pc_InverseOf (rs.getD i Rul.z) hri) ?_
   refine S.pure tOk zOk rfl rfl rfl ?_
   refine S.pure tOk zOk rfl rfl rfl ?_
   refine S.pure tOk zOk rfl rfl rfl ?_
   refine S.alloc tOk rfl rfl rfl rfl ?_
   refine S.store tOk rfl rfl rfl rfl rfl rfl rfl rfl ?_
   refine S.pure tOk zOk rfl rfl rfl ?_
   refine thenK_n ?_
   refine W.seq ?_
   refine W.seq ?_
   refine W.region ?_
   refine S.pure tOk zOk rfl rfl rfl ?_
   refine S.pure tOk zOk rfl rfl rfl ?_
   refine thenK_n ?_
   refine W.cond rfl (fun c3 => ?_) (fun c3 => ?_)
   ·skip
    refine W.seq ?_
    refine W.region ?_
    refine S.pure tOk zOk rfl rfl rfl ?_
    refine S.pure tOk zOk rfl rfl rfl ?_
    refine S.pure tOk zOk rfl rfl rfl ?_
    refine thenK_n ?_
    refine W.ret ?_
    refine thenK_r ?_
    refine blockK_r ?_
    refine thenK_r ?_
    refine thenK_r ?_
    refine blockK_r ?_
    refine thenK_r ?_
    exact ⟨_, rfl, rfl, le_invNil (ia_2 c1 _ (fe_hit (d := Rul.z) hi f0_1 c3) c3)⟩
   ·skip
    refine W.skip ?_
    refine thenK_n ?_
    refine W.region ?_
    refine S.pure tOk zOk rfl rfl rfl ?_
    refine S.pure tOk zOk rfl rfl rfl ?_
    refine S.slice tOk rfl rfl ?_
    refine S.append tOk rfl rfl rfl rfl rfl rfl rfl rfl rfl rfl rfl rfl (by have hq := invTo_len rs (Nat.le_of_lt hi); show _ + 1 ≤ _; rw [List.length_map]; omega) rfl (invTo_succ hi) rfl ?_
    refine S.pure tOk zOk rfl rfl rfl ?_
    refine blockK_n ?_
    refine thenK_n ?_
    refine W.region ?_
    refine S.pure tOk zOk rfl rfl rfl ?_
    refine S.pure tOk zOk rfl rfl rfl ?_
    refine loop_n (rs.length - (i + 1)) (by omega) ⟨i + 1, _, _, hi, fe_next (d := Rul.z) hi f0_1 c3, rfl, _, _, _, _, rfl, rfl, rfl, rfl, inc_i64 (by omega), trivial⟩
  ·skip
   have hi := row_ge c2
   obtain rfl : i = rs.length := by omega
   refine W.exit ?_
   refine thenK_e ?_
   refine thenK_e ?_
   refine blockK_x ?_
   refine thenK_n ?_
   refine W.seq ?_
   refine W.region ?_
   refine S.pure tOk zOk rfl rfl rfl ?_
   refine S.hcallD rfl rfl rfl rfl (pc_ReverseM (invTo rs rs.length) _ (by rw [invTo_len rs (Nat.le_refl _)]; omega)) ?_
   refine thenK_n ?_
   refine W.seq ?_
   refine W.freeze (ri := 0) (q := ⟨_, _, _, _, _⟩) [4] rfl (by intro k hk; simp at hk; subst hk; exact congrArg (fun z => V.one (.row 0 0 0 z)) (by simp)) ?_
   refine W.region ?_
   refine S.pure tOk zOk rfl rfl rfl ?_
   refine S.pure tOk zOk rfl rfl rfl ?_
   refine S.pure tOk zOk rfl rfl rfl ?_
   refine thenK_n ?_
   refine W.ret ?_
   exact ⟨_, rfl, rfl, LeV.of_force rfl (by rw [ia_3 c1 (inv_end f0_1), invTo_end]; rfl)⟩
theorem stgV_at {l : List Stg} {i : Nat} (h : i < l.length) : V.one (.eptr ((l.map stgD).getD ((i : Int)).toNat [])) = V.one (.eptr (stgD (l.getD i Stg.z))) := row_at (f := stgD) Stg.z h
theorem rulV_at {l : List Rul} {i : Nat} (h : i < l.length) : V.one (.eptr ((l.map rulD).getD ((i : Int)).toNat [])) = V.one (.eptr (rulD (l.getD i Rul.z))) := row_at (f := rulD) Rul.z h
theorem pc_EqualS (l : List Stg) (hl : l.length ≤ 1000000000) :
  PureCall Tryz.prog J 20 [.one (.d (.vec 2 (l.map stgD))), .one (.d (.vec 2 (l.map stgD)))] (.one (.d (.bool true))) := by
 refine PureCall.of_body tOk (fn := Tryz.f20) Tryz.func20 (by kernel_rfl) rfl (Nat.le_of_ble_eq_true rfl) (fun E => ?_)
 refine W.seq ?_
 refine W.region ?_
 refine S.pure tOk zOk rfl rfl rfl ?_
 refine thenK_n ?_
 refine W.seq ?_
 refine W.seq ?_
 refine W.region ?_
 refine S.pure tOk zOk rfl rfl rfl ?_
 refine S.pure tOk zOk rfl rfl rfl ?_
 refine S.pure tOk zOk rfl rfl rfl ?_
 refine S.pure tOk zOk rfl rfl rfl ?_
 refine S.pure tOk zOk rfl rfl rfl ?_
 refine thenK_n ?_
 refine W.cond rfl (fun c1 => ?_) (fun c1 => ?_)
 ·skip
  exact absurd c1 (by simp)
 ·skip
  refine W.skip ?_
  refine thenK_n ?_
  refine W.seq ?_
  refine W.seq ?_
  refine W.region ?_
  refine S.pure tOk zOk rfl rfl rfl ?_
  refine S.pure tOk zOk rfl rfl rfl ?_
  refine S.pure tOk zOk rfl rfl rfl ?_
  refine thenK_n ?_
  refine W.block ?_
  refine W.loop (fun k st => ∃ i : Nat, i ≤ l.length ∧ k = l.length - i ∧ ∃ t b2 r2 m2, st = ⟨t, [] ++ b2, [] ++ r2, [] ++ m2⟩ ∧ holdsL t [(0, .one (.d (.vec 2 (l.map stgD)))), (1, .one (.d (.vec 2 (l.map stgD)))), (12, .one (.d (.int .i64 ((l.map stgD).length : Int)))), (13, .one (.d (.int .i64 (i : Int))))]) (l.length) ⟨0, Nat.zero_le _, rfl, _, _, _, _, rfl, rfl, rfl, rfl, rfl, trivial⟩ ?_
  rintro k0 _ ⟨i, f0_0, rfl, t0, bb0, rr0, mm0, rfl, hh0⟩
  refine W.keepR _ _ _ _ _ _ _ hh0 rfl ?_
  refine W.seq ?_
  refine W.region ?_
  refine S.pure tOk zOk rfl rfl rfl ?_
  refine thenK_n ?_
  refine W.seq ?_
  refine W.cond rfl (fun c2 => ?_) (fun c2 => ?_)
  ·skip
   have hi := row_lt c2
   refine W.skip ?_
   refine thenK_n ?_
   refine W.seq ?_
   refine W.block ?_
   refine W.seq ?_
   refine W.region ?_
   refine S.pure tOk zOk rfl rfl rfl ?_
   refine S.pure tOk zOk rfl rfl rfl ?_
   refine thenK_n ?_
   refine W.seq ?_
   refine W.regionD mixed (by kernel_rfl) ?_
   refine D.pure tOk zOk rfl rfl rfl rfl ?_
   refine D.pure tOk zOk rfl rfl rfl rfl ?_
   refine D.pureE tOk zOk rfl rfl (row_ok hi) (stgV_at hi) rfl ?_
   refine D.pure tOk zOk rfl rfl rfl rfl ?_
   refine D.pure tOk zOk rfl rfl rfl rfl ?_
   refine D.pure tOk zOk rfl rfl rfl rfl ?_
   refine D.pureE tOk zOk rfl rfl (row_ok hi) (stgV_at hi) rfl ?_
   refine D.pure tOk zOk rfl rfl rfl rfl ?_
   refine D.pure tOk zOk rfl rfl rfl rfl ?_
   refine thenK_n ?_
   refine W.cond rfl (fun c3 => ?_) (fun c3 => ?_)
   ·skip
    exact absurd c3 (by simp)
   ·skip
    refine W.skip ?_
    refine blockK_n ?_
    refine thenK_n ?_
    refine W.region ?_
    refine S.pure tOk zOk rfl rfl rfl ?_
    refine S.pure tOk zOk rfl rfl rfl ?_
    refine loop_n (l.length - (i + 1)) (by omega) ⟨i + 1, hi, rfl, _, _, _, _, rfl, rfl, rfl, rfl, inc_i64 (by omega), trivial⟩
  ·skip
   refine W.exit ?_
   refine thenK_e ?_
   refine thenK_e ?_
   refine blockK_x ?_
   refine thenK_n ?_
   refine W.seq ?_
   refine W.region ?_
   refine S.pure tOk zOk rfl rfl rfl ?_
   refine thenK_n ?_
   refine W.ret ?_
   exact ⟨_, rfl, rfl, LeV.refl _⟩
theorem pc_EqualRu (l : List Rul) (hl : l.length ≤ 1000000000) :
  PureCall Tryz.prog J 26 [.one (.d (.vec 5 (l.map rulD))), .one (.d (.vec 5 (l.map rulD)))] (.one (.d (.bool true))) := by
 refine PureCall.of_body tOk (fn := Tryz.f26) Tryz.func26 (by kernel_rfl) rfl (Nat.le_of_ble_eq_true rfl) (fun E => ?_)
 refine W.seq ?_
 refine W.region ?_
 refine S.pure tOk zOk rfl rfl rfl ?_
 refine thenK_n ?_
 refine W.seq ?_
 refine W.seq ?_
 refine W.region ?_
 refine S.pure tOk zOk rfl rfl rfl ?_
 refine S.pure tOk zOk rfl rfl rfl ?_
 refine S.pure tOk zOk rfl rfl rfl ?_
 refine S.pure tOk zOk rfl rfl rfl ?_
 refine S.pure tOk zOk rfl rfl rfl ?_
 refine thenK_n ?_
 refine W.cond rfl (fun c1 => ?_) (fun c1 => ?_)
 ·skip
  exact absurd c1 (by simp)
 ·skip
  refine W.skip ?_
  refine thenK_n ?_
  refine W.seq ?_
  refine W.seq ?_
  refine W.region ?_
  refine S.pure tOk zOk rfl rfl rfl ?_
  refine S.pure tOk zOk rfl rfl rfl ?_
  refine S.pure tOk zOk rfl rfl rfl ?_
  refine thenK_n ?_
  refine W.block ?_
  refine W.loop (fun k st => ∃ i : Nat, i ≤ l.length ∧ k = l.length - i ∧ ∃ t b2 r2 m2, st = ⟨t, [] ++ b2, [] ++ r2, [] ++ m2⟩ ∧ holdsL t [(0, .one (.d (.vec 5 (l.map rulD)))), (1, .one (.d (.vec 5 (l.map rulD)))), (12, .one (.d (.int .i64 ((l.map rulD).length : Int)))), (13, .one (.d (.int .i64 (i : Int))))]) (l.length) ⟨0, Nat.zero_le _, rfl, _, _, _, _, rfl, rfl, rfl, rfl, rfl, trivial⟩ ?_
  rintro k0 _ ⟨i, f0_0, rfl, t0, bb0, rr0, mm0, rfl, hh0⟩
  refine W.keepR _ _ _ _ _ _ _ hh0 rfl ?_
  refine W.seq ?_
  refine W.region ?_
  refine S.pure tOk zOk rfl rfl rfl ?_
  refine thenK_n ?_
  refine W.seq ?_
  refine W.cond rfl (fun c2 => ?_) (fun c2 => ?_)
  ·skip
   have hi := row_lt c2
   refine W.skip ?_
   refine thenK_n ?_
   refine W.seq ?_
   refine W.block ?_
   refine W.seq ?_
   refine W.region ?_
   refine S.pure tOk zOk rfl rfl rfl ?_
   refine S.pure tOk zOk rfl rfl rfl ?_
   refine thenK_n ?_
   refine W.seq ?_
   refine W.regionD mixed (by kernel_rfl) ?_
   refine D.pure tOk zOk rfl rfl rfl rfl ?_
   refine D.pure tOk zOk rfl rfl rfl rfl ?_
   refine D.pureE tOk zOk rfl rfl (row_ok hi) (rulV_at hi) rfl ?_
   refine D.pure tOk zOk rfl rfl rfl rfl ?_
   refine D.pure tOk zOk rfl rfl rfl rfl ?_
   refine D.pure tOk zOk rfl rfl rfl rfl ?_
   refine D.pureE tOk zOk rfl rfl (row_ok hi) (rulV_at hi) rfl ?_
   refine D.pure tOk zOk rfl rfl rfl rfl ?_
   refine D.pure tOk zOk rfl rfl rfl rfl ?_
   refine thenK_n ?_
   refine W.cond rfl (fun c3 => ?_) (fun c3 => ?_)
   ·skip
    exact absurd c3 (by simp)
   ·skip
    refine W.skip ?_
    refine blockK_n ?_
    refine thenK_n ?_
    refine W.region ?_
    refine S.pure tOk zOk rfl rfl rfl ?_
    refine S.pure tOk zOk rfl rfl rfl ?_
    refine loop_n (l.length - (i + 1)) (by omega) ⟨i + 1, hi, rfl, _, _, _, _, rfl, rfl, rfl, rfl, inc_i64 (by omega), trivial⟩
  ·skip
   refine W.exit ?_
   refine thenK_e ?_
   refine thenK_e ?_
   refine blockK_x ?_
   refine thenK_n ?_
   refine W.seq ?_
   refine W.region ?_
   refine S.pure tOk zOk rfl rfl rfl ?_
   refine thenK_n ?_
   refine W.ret ?_
   exact ⟨_, rfl, rfl, LeV.refl _⟩
theorem pc_migrate_Clean (ss : List Stg) (rs : List Rul) (hn : ss.length ≤ 2000000) (hs : ∀ s ∈ ss, s.k.length < 4294967000 ∧ s.v.length < 4294967000) (hm : rs.length ≤ 2000000) (hrb : ∀ r ∈ rs, RulB r) :
  PureCall Tryz.prog J 17 [.one (.d (.vec 2 (ss.map stgD))), .one (.d (.vec 5 (rs.map rulD)))] (.tup [.one (.d (.bool (cleanP ss rs).1)), .one (.d (.int .i64 (cleanP ss rs).2))]) := by
 refine PureCall.of_body tOk (fn := Tryz.f17) Tryz.func17 (by kernel_rfl) rfl (Nat.le_of_ble_eq_true rfl) (fun E => ?_)
 refine W.seq ?_
 refine W.region ?_
 refine S.pure tOk zOk rfl rfl rfl ?_
 refine S.pure tOk zOk rfl rfl rfl ?_
 refine thenK_n ?_
 refine W.seq ?_
 refine W.seq ?_
 refine W.region ?_
 refine S.pure tOk zOk rfl rfl rfl ?_
 refine S.pure tOk zOk rfl rfl rfl ?_
 refine S.call rfl rfl rfl rfl rfl (pc_migrate_Run ss rs hn hs hm hrb) ?_
 refine S.pure tOk zOk rfl rfl rfl ?_
 refine S.pure tOk zOk rfl rfl rfl ?_
 refine S.pure tOk zOk rfl rfl rfl ?_
 refine S.pure tOk zOk rfl rfl rfl ?_
 refine S.pure tOk zOk rfl rfl rfl ?_
 refine thenK_n ?_
 refine W.seq ?_
 refine W.region ?_
 refine S.pure tOk zOk rfl rfl rfl ?_
 refine S.pure tOk zOk rfl rfl rfl ?_
 refine thenK_n ?_
 refine W.cond rfl (fun c1 => ?_) (fun c1 => ?_)
 ·skip
  refine W.seq ?_
  refine W.region ?_
  refine S.pure tOk zOk rfl rfl rfl ?_
  refine S.pure tOk zOk rfl rfl rfl ?_
  refine S.pure tOk zOk rfl rfl rfl ?_
  refine thenK_n ?_
  refine W.ret ?_
  refine thenK_r ?_
  exact ⟨_, rfl, rfl, LeV.of_force rfl (by rw [cp_a c1]; rfl)⟩
 ·skip
  obtain ⟨hrf, hse⟩ := run_zero c1
  have hok := run_ok hrf
  refine W.skip ?_
  refine thenK_n ?_
  refine W.seq ?_
  refine W.seq ?_
  refine W.region ?_
  refine S.pure tOk zOk rfl rfl rfl ?_
  refine S.call rfl rfl rfl rfl rfl (pc_InverseAll rs hm hrb) ?_
  refine S.pure tOk zOk rfl rfl rfl ?_
  refine S.pure tOk zOk rfl rfl rfl ?_
  refine S.pure tOk zOk rfl rfl rfl ?_
  refine S.pure tOk zOk rfl rfl rfl ?_
  refine S.pure tOk zOk rfl rfl rfl ?_
  refine thenK_n ?_
  refine W.seq ?_
  refine W.region ?_
  refine S.pure tOk zOk rfl rfl rfl ?_
  refine S.pure tOk zOk rfl rfl rfl ?_
  refine thenK_n ?_
  refine W.cond rfl (fun c2 => ?_) (fun c2 => ?_)
  ·skip
   refine W.seq ?_
   refine W.region ?_
   refine S.pure tOk zOk rfl rfl rfl ?_
   refine S.pure tOk zOk rfl rfl rfl ?_
   refine S.pure tOk zOk rfl rfl rfl ?_
   refine thenK_n ?_
   refine W.ret ?_
   refine thenK_r ?_
   exact ⟨_, rfl, rfl, LeV.of_force rfl (by rw [cp_b c1 c2]; rfl)⟩
  ·skip
   refine W.skip ?_
   refine thenK_n ?_
   refine W.seq ?_
   refine W.region ?_
   refine S.pure tOk zOk rfl rfl rfl ?_
   refine S.hcallD rfl rfl rfl rfl ((pc_tableOf ss (by omega)).frameD [] [] [] rfl rfl rfl rfl rfl rfl rfl rfl rfl) ?_
   refine S.pure tOk zOk rfl rfl rfl ?_
   refine thenK_n ?_
   refine W.seq ?_
   refine W.seq ?_
   refine W.region ?_
   refine S.pure tOk zOk rfl rfl rfl ?_
   refine S.pure tOk zOk rfl rfl rfl ?_
   refine S.pure tOk zOk rfl rfl rfl ?_
   refine thenK_n ?_
   refine W.block ?_
   refine W.loop (fun k st => ∃ i : Nat, ∃ tab : Tab, i ≤ rs.length ∧ Way ss rs i tab ∧ cleanTo ss rs i = true ∧ k = rs.length - i ∧ ∃ t b2 r2 m2, st = ⟨t, [] ++ b2, [] ++ r2, [tabD tab] ++ m2⟩ ∧ holdsL t [(10, .one (.map 0)), (32, .one (.d (.vec 5 (rs.map rulD)))), (33, .one (.d (.int .i64 ((rs.map rulD).length : Int)))), (34, .one (.d (.int .i64 (i : Int))))]) (rs.length) ⟨0, _, Nat.zero_le _, way_0 hok, cl_0 _ _, rfl, _, _, _, _, rfl, rfl, rfl, rfl, rfl, trivial⟩ ?_
   rintro k0 _ ⟨i, tab, f0_0, f0_1, f0_2, rfl, t0, bb0, rr0, mm0, rfl, hh0⟩
   refine W.keepR _ _ _ _ _ _ _ hh0 rfl ?_
   refine W.seq ?_
   refine W.region ?_
   refine S.pure tOk zOk rfl rfl rfl ?_
   refine thenK_n ?_
   refine W.seq ?_
   refine W.cond rfl (fun c3 => ?_) (fun c3 => ?_)
   ·skip
    have hi := row_lt c3
    have hri := hrb _ (mem_getD (d := Rul.z) hi)
    have hz : stepE tab (rs.getD i Rul.z) = 0 := f0_1.at.trans (steps_at hse hi)
    refine W.skip ?_
    refine thenK_n ?_
    refine W.seq ?_
    refine W.block ?_
    refine W.seq ?_
    refine W.region ?_
    refine S.pureE tOk zOk rfl (row_ok hi) (row_at Rul.z hi) rfl ?_
    refine S.pure tOk zOk rfl rfl rfl ?_
    refine S.alloc tOk rfl rfl rfl rfl ?_
    refine S.store tOk rfl rfl rfl rfl rfl rfl rfl rfl ?_
    refine thenK_n ?_
    refine W.seq ?_
    refine W.region ?_
    refine S.pure tOk zOk rfl rfl rfl ?_
    refine S.pure tOk zOk rfl rfl rfl ?_
    refine S.hcallD rfl rfl rfl rfl ((pc_loses tab (rs.getD i Rul.z) hri f0_1.eq.l f0_1.key).frameD [] [] [0] rfl rfl rfl rfl rfl rfl rfl rfl rfl) ?_
    refine S.pure tOk zOk rfl rfl rfl ?_
    refine S.pureG tOk zOk rfl rfl tg (fun _ => rfl) rfl ?_
    refine S.pureG tOk zOk rfl rfl tg (fun _ => rfl) rfl ?_
    refine S.hcallXG rfl rfl rfl rfl tg rfl (fun hgd => (pc_do tab (rs.getD i Rul.z) hri f0_1.eq.l f0_1.key (by have := f0_1.len; omega)).frameX [] [] [0] rfl rfl rfl rfl rfl (fun _ => rfl) (fun _ => rfl) (fun _ => rfl) (fun _ => rfl)) (tab) rfl rfl rfl ?_
    rintro tab1 hg1 hg0
    refine S.pureG tOk zOk rfl rfl tg (fun _ => rfl) rfl ?_
    refine S.pickOr tOk zOk rfl rfl tg ?_
    refine thenK_n ?_
    refine W.cond rfl (fun c4 => ?_) (fun c4 => ?_)
    ·skip
     have hlo : losesT tab (rs.getD i Rul.z) = true := by rw [hz] at c4; simpa using c4
     refine W.seq ?_
     refine W.region ?_
     refine S.pure tOk zOk rfl rfl rfl ?_
     refine S.pure tOk zOk rfl rfl rfl ?_
     refine thenK_n ?_
     refine W.ret ?_
     refine blockK_r ?_
     refine thenK_r ?_
     refine thenK_r ?_
     refine blockK_r ?_
     refine thenK_r ?_
     exact ⟨_, rfl, rfl, LeV.of_force rfl (by rw [cp_c c1 c2, cl_hit hi ((f0_1.eq.loses _).symm.trans hlo)]; rfl)⟩
    ·skip
     have hlo : losesT tab (rs.getD i Rul.z) = false := by rw [hz] at c4; simpa using c4
     have h2 : EqT tab1 (doT tab (rs.getD i Rul.z)) := by have hq := hg1 (by rw [hlo]; rfl); rw [doX_f (step_bad hz)] at hq; exact hq
     refine W.skip ?_
     refine blockK_n ?_
     refine thenK_n ?_
     refine W.region ?_
     refine S.pure tOk zOk rfl rfl rfl ?_
     refine S.pure tOk zOk rfl rfl rfl ?_
     refine loop_n (rs.length - (i + 1)) (by omega) ⟨i + 1, tab1, hi, way_next f0_1 (hok.ok _ (mem_getD hi)) hz h2, cl_next f0_2 ((f0_1.eq.loses _).symm.trans hlo), rfl, _, _, _, _, rfl, rfl, rfl, rfl, inc_i64 (by omega), trivial⟩
   ·skip
    have hi := row_ge c3
    obtain rfl : i = rs.length := by omega
    refine W.exit ?_
    refine thenK_e ?_
    refine thenK_e ?_
    refine blockK_x ?_
    refine thenK_n ?_
    refine W.seq ?_
    refine W.region ?_
    refine S.pure tOk zOk rfl rfl rfl ?_
    refine S.pure tOk zOk rfl rfl rfl ?_
    refine thenK_n ?_
    refine W.ret ?_
    exact ⟨_, rfl, rfl, LeV.of_force rfl (by rw [cp_c c1 c2, cl_end f0_2]; rfl)⟩
theorem pc_outref2_CleanOf (ss : List Stg) (rs : List Rul) (hn : ss.length ≤ 2000000) (hs : ∀ s ∈ ss, s.k.length < 4294967000 ∧ s.v.length < 4294967000) (hm : rs.length ≤ 2000000) (hrb : ∀ r ∈ rs, RulB r) (hrf : (runF ss rs != 0) = false) (hse : stepsE ss rs = 0) :
  PureCall Tryz.prog J 28 [.one (.d (.vec 2 (ss.map stgD))), .one (.d (.vec 5 (rs.map rulD)))] (.one (.d (.bool (cleanT ss rs)))) := by
 have hok := run_ok hrf
 refine PureCall.of_body tOk (fn := Tryz.f28) Tryz.func28 (by kernel_rfl) rfl (Nat.le_of_ble_eq_true rfl) (fun E => ?_)
 refine W.seq ?_
 refine W.region ?_
 refine S.pure tOk zOk rfl rfl rfl ?_
 refine thenK_n ?_
 refine W.seq ?_
 refine W.region ?_
 refine S.pure tOk zOk rfl rfl rfl ?_
 refine S.hcallD rfl rfl rfl rfl ((pc_Facts ss (by omega)).frameD [] [] [] rfl rfl rfl rfl rfl rfl rfl rfl rfl) ?_
 refine S.pure tOk zOk rfl rfl rfl ?_
 refine thenK_n ?_
 refine W.seq ?_
 refine W.seq ?_
 refine W.region ?_
 refine S.pure tOk zOk rfl rfl rfl ?_
 refine S.pure tOk zOk rfl rfl rfl ?_
 refine S.pure tOk zOk rfl rfl rfl ?_
 refine thenK_n ?_
 refine W.block ?_
 refine W.loop (fun k st => ∃ i : Nat, ∃ tab : Tab, i ≤ rs.length ∧ Way ss rs i tab ∧ cleanTo ss rs i = true ∧ k = rs.length - i ∧ ∃ t b2 r2 m2, st = ⟨t, [] ++ b2, [] ++ r2, [tabD tab] ++ m2⟩ ∧ holdsL t [(5, .one (.map 0)), (17, .one (.d (.vec 5 (rs.map rulD)))), (18, .one (.d (.int .i64 ((rs.map rulD).length : Int)))), (19, .one (.d (.int .i64 (i : Int))))]) (rs.length) ⟨0, _, Nat.zero_le _, way_0 hok, cl_0 _ _, rfl, _, _, _, _, rfl, rfl, rfl, rfl, rfl, trivial⟩ ?_
 rintro k0 _ ⟨i, tab, f0_0, f0_1, f0_2, rfl, t0, bb0, rr0, mm0, rfl, hh0⟩
 refine W.keepR _ _ _ _ _ _ _ hh0 rfl ?_
 refine W.seq ?_
 refine W.region ?_
 refine S.pure tOk zOk rfl rfl rfl ?_
 refine thenK_n ?_
 refine W.seq ?_
 refine W.cond rfl (fun c1 => ?_) (fun c1 => ?_)
 ·skip
  have hi := row_lt c1
  have hri := hrb _ (mem_getD (d := Rul.z) hi)
  have hoi := hok.ok _ (mem_getD (d := Rul.z) hi)
  have hz : stepE tab (rs.getD i Rul.z) = 0 := f0_1.at.trans (steps_at hse hi)
  refine W.skip ?_
  refine thenK_n ?_
  refine W.seq ?_
  refine W.block ?_
  refine W.seq ?_
  refine W.region ?_
  refine S.pureE tOk zOk rfl (row_ok hi) (row_at Rul.z hi) rfl ?_
  refine S.pure tOk zOk rfl rfl rfl ?_
  refine S.alloc tOk rfl rfl rfl rfl ?_
  refine S.store tOk rfl rfl rfl rfl rfl rfl rfl rfl ?_
  refine thenK_n ?_
  refine W.seq ?_
  refine W.seq ?_
  refine W.region ?_
  refine S.pure tOk zOk rfl rfl rfl ?_
  refine S.pure tOk zOk rfl rfl rfl ?_
  refine thenK_n ?_
  refine W.block ?_
  refine W.seq ?_
  refine W.region ?_
  refine S.pure tOk zOk rfl rfl rfl ?_
  refine S.pure tOk zOk rfl rfl rfl ?_
  refine thenK_n ?_
  refine W.cond rfl (fun c2 => ?_) (fun c2 => ?_)
  ·skip
   refine W.seq ?_
   refine W.region ?_
   refine S.pure tOk zOk rfl rfl rfl ?_
   refine S.pure tOk zOk rfl rfl rfl ?_
   refine S.pure tOk zOk rfl rfl rfl ?_
   refine S.lookup tOk keyS (fD := fun v : List UInt8 => DV.one (.str v)) [] (tab) rfl rfl rfl rfl rfl rfl rfl rfl rfl rfl (show mapV true _ _ = V.tup [_, _] from rfl) ?_
   refine S.pure tOk zOk rfl rfl rfl ?_
   refine S.pure tOk zOk rfl rfl rfl ?_
   refine S.pure tOk zOk rfl rfl rfl ?_
   refine S.pure tOk zOk rfl rfl rfl ?_
   refine S.pure tOk zOk rfl rfl rfl ?_
   refine thenK_n ?_
   refine W.seq ?_
   refine W.region ?_
   refine S.pure tOk zOk rfl rfl rfl ?_
   refine thenK_n ?_
   refine W.cond rfl (fun c3 => ?_) (fun c3 => ?_)
   ·skip
    have hlo := (los_1 c2).trans c3
    refine W.seq ?_
    refine W.region ?_
    refine S.pure tOk zOk rfl rfl rfl ?_
    refine thenK_n ?_
    refine W.ret ?_
    refine blockK_r ?_
    refine thenK_r ?_
    refine blockK_r ?_
    refine thenK_r ?_
    refine thenK_r ?_
    refine blockK_r ?_
    refine thenK_r ?_
    exact ⟨_, rfl, rfl, LeV.of_force rfl (by rw [cl_hit hi ((f0_1.eq.loses _).symm.trans hlo)]; rfl)⟩
   ·skip
    have hlo := (los_1 c2).trans c3
    refine W.skip ?_
    refine blockK_n ?_
    refine thenK_n ?_
    refine W.region ?_
    refine S.pure tOk zOk rfl rfl rfl ?_
    refine S.pure tOk zOk rfl rfl rfl ?_
    refine S.hcallX rfl rfl rfl rfl ((pc_one tab (rs.getD i Rul.z) hri hoi f0_1.eq.l f0_1.key (by have := f0_1.len; omega)).frameX [] [] [0] rfl rfl rfl rfl rfl (fun _ => rfl) (fun _ => rfl) (fun _ => rfl) (fun _ => rfl)) ?_
    rintro tab1 h1
    refine blockK_n ?_
    refine thenK_n ?_
    refine W.region ?_
    refine S.pure tOk zOk rfl rfl rfl ?_
    refine S.pure tOk zOk rfl rfl rfl ?_
    refine loop_n (rs.length - (i + 1)) (by omega) ⟨i + 1, tab1, hi, way_next f0_1 hoi hz h1, cl_next f0_2 ((f0_1.eq.loses _).symm.trans hlo), rfl, _, _, _, _, rfl, rfl, rfl, rfl, inc_i64 (by omega), trivial⟩
  ·skip
   refine W.seq ?_
   refine W.region ?_
   refine S.pure tOk zOk rfl rfl rfl ?_
   refine S.pure tOk zOk rfl rfl rfl ?_
   refine thenK_n ?_
   refine W.cond rfl (fun c4 => ?_) (fun c4 => ?_)
   ·skip
    refine W.forMap (enc := D.str) (fD := fun v : List UInt8 => DV.one (.str v)) (l0 := tab) (mi := 0) tOk (fun q M dn st => dn.any (fun x => (tailOf x.1 (rs.getD i Rul.z).tu).isSome) = false ∧ st = ⟨ofL [(38, .one (.d (.raw q))), (5, .one (.map 0)), (7, .one (.ptr 0 0)), (17, .one (.d (.vec 5 (rs.map rulD)))), (18, .one (.d (.int .i64 ((rs.map rulD).length : Int)))), (19, .one (.d (.int .i64 (i : Int))))], [[.d (.int .i64 (rs.getD i Rul.z).kd), .d (.str (rs.getD i Rul.z).k), .d (.str (rs.getD i Rul.z).tu), .d (.str (rs.getD i Rul.z).old), .d (.str (rs.getD i Rul.z).nu)]], [], [M]⟩) 1 rfl rfl rfl (by rintro q M dn _ ⟨f3_0, rfl⟩; exact ⟨rfl, rfl⟩) ⟨rfl, rfl, rfl, rfl⟩ ?_ ?_ ?_
    ·skip
     refine S.pure tOk zOk rfl rfl rfl ?_
     refine WL.nil ?_
     exact ⟨rfl, rfl, fun q M => ⟨_, ⟨rfl, rfl⟩, Wk.keep rfl ⟨rfl, rfl, rfl, rfl, rfl, rfl, trivial⟩ rfl⟩⟩
    ·skip
     rintro q M dn _ j3 c1003 born3 y rest E1 ⟨f3_0, rfl⟩ hE3 hst3 hp un3
     refine W.keep [(38, .one (.d (.raw q))), (5, .one (.map 0)), (7, .one (.ptr 0 0)), (17, .one (.d (.vec 5 (rs.map rulD)))), (18, .one (.d (.int .i64 ((rs.map rulD).length : Int)))), (19, .one (.d (.int .i64 (i : Int))))] ⟨rfl, rfl, rfl, rfl, rfl, rfl, trivial⟩ ?_
     refine W.block ?_
     refine W.seq ?_
     refine W.region ?_
     refine S.entry hE3 rfl rfl hst3.at ?_
     refine S.pure tOk zOk rfl rfl rfl ?_
     refine S.pure tOk zOk rfl rfl rfl ?_
     refine thenK_n ?_
     refine W.seq ?_
     refine W.region ?_
     refine S.pure tOk zOk rfl rfl rfl ?_
     refine S.pure tOk zOk rfl rfl rfl ?_
     refine S.pure tOk zOk rfl rfl rfl ?_
     refine S.call rfl rfl rfl rfl rfl (pc_below y.1 (rs.getD i Rul.z).tu (f0_1.key y (hp.mem_iff.2 (by simp))) hri.tu) ?_
     refine S.pure tOk zOk rfl rfl rfl ?_
     refine S.pure tOk zOk rfl rfl rfl ?_
     refine S.pure tOk zOk rfl rfl rfl ?_
     refine S.pure tOk zOk rfl rfl rfl ?_
     refine S.pure tOk zOk rfl rfl rfl ?_
     refine thenK_n ?_
     refine W.seq ?_
     refine W.region ?_
     refine S.pure tOk zOk rfl rfl rfl ?_
     refine thenK_n ?_
     refine W.cond rfl (fun c5 => ?_) (fun c5 => ?_)
     ·skip
      have hs : (tailOf y.1 (rs.getD i Rul.z).tu).isSome = true := by rw [belowR_t c5]; rfl
      have ha := anyp_hit (p := fun x : L8 × L8 => (tailOf x.1 (rs.getD i Rul.z).tu).isSome) hp hs
      have hlo := (los_2 (u := tab) c2 c4).trans ha
      refine W.seq ?_
      refine W.region ?_
      refine S.pure tOk zOk rfl rfl rfl ?_
      refine thenK_n ?_
      refine un3 _ _ _ _ _ _ _ rfl rfl ?_
      refine W.ret ?_
      refine blockK_r ?_
      refine thenK_r ?_
      refine blockK_r ?_
      refine blockK_r ?_
      refine thenK_r ?_
      refine blockK_r ?_
      refine thenK_r ?_
      refine thenK_r ?_
      refine blockK_r ?_
      refine thenK_r ?_
      exact ⟨_, rfl, rfl, LeV.of_force rfl (by rw [cl_hit hi ((f0_1.eq.loses _).symm.trans hlo)]; rfl)⟩
     ·skip
      have hs : (tailOf y.1 (rs.getD i Rul.z).tu).isSome = false := by rw [belowR_f c5]; rfl
      refine W.skip ?_
      refine blockK_n ?_
      exact thenK_n ⟨_, ⟨any_snoc f3_0 hs, rfl⟩, Wk.keep rfl ⟨rfl, rfl, rfl, rfl, rfl, rfl, trivial⟩ rfl⟩
    ·skip
     rintro q M dn _ ⟨f3_0, rfl⟩ hp
     have ha := anyp_end hp f3_0
     have hlo := (los_2 (u := tab) c2 c4).trans ha
     refine ⟨_, Wk.keep (l := [(38, .one (.d (.raw q))), (5, .one (.map 0)), (7, .one (.ptr 0 0)), (17, .one (.d (.vec 5 (rs.map rulD)))), (18, .one (.d (.int .i64 ((rs.map rulD).length : Int)))), (19, .one (.d (.int .i64 (i : Int))))]) (b1 := [[.d (.int .i64 (rs.getD i Rul.z).kd), .d (.str (rs.getD i Rul.z).k), .d (.str (rs.getD i Rul.z).tu), .d (.str (rs.getD i Rul.z).old), .d (.str (rs.getD i Rul.z).nu)]]) (b2 := []) (r1 := []) (r2 := []) (m1 := [mapOf D.str (fun v : List UInt8 => DV.one (.str v)) (tab)]) (m2 := []) rfl ⟨rfl, rfl, rfl, rfl, rfl, rfl, trivial⟩ rfl, ?_⟩
     refine blockK_n ?_
     refine thenK_n ?_
     refine W.region ?_
     refine S.pure tOk zOk rfl rfl rfl ?_
     refine S.pure tOk zOk rfl rfl rfl ?_
     refine S.hcallX rfl rfl rfl rfl ((pc_one tab (rs.getD i Rul.z) hri hoi f0_1.eq.l f0_1.key (by have := f0_1.len; omega)).frameX [] [] [0] rfl rfl rfl rfl rfl (fun _ => rfl) (fun _ => rfl) (fun _ => rfl) (fun _ => rfl)) ?_
     rintro tab1 h1
     refine blockK_n ?_
     refine thenK_n ?_
     refine W.region ?_
     refine S.pure tOk zOk rfl rfl rfl ?_
     refine S.pure tOk zOk rfl rfl rfl ?_
     refine loop_n (rs.length - (i + 1)) (by omega) ⟨i + 1, tab1, hi, way_next f0_1 hoi hz h1, cl_next f0_2 ((f0_1.eq.loses _).symm.trans hlo), rfl, _, _, _, _, rfl, rfl, rfl, rfl, inc_i64 (by omega), trivial⟩
   ·skip
    refine W.seq ?_
    refine W.region ?_
    refine S.pure tOk zOk rfl rfl rfl ?_
    refine S.pure tOk zOk rfl rfl rfl ?_
    refine thenK_n ?_
    refine W.cond rfl (fun c6 => ?_) (fun c6 => ?_)
    ·skip
     refine W.seq ?_
     refine W.region ?_
     refine S.pure tOk zOk rfl rfl rfl ?_
     refine S.pure tOk zOk rfl rfl rfl ?_
     refine S.pure tOk zOk rfl rfl rfl ?_
     refine S.lookup tOk keyS (fD := fun v : List UInt8 => DV.one (.str v)) [] (tab) rfl rfl rfl rfl rfl rfl rfl rfl rfl rfl (show mapV true _ _ = V.tup [_, _] from rfl) ?_
     refine S.pure tOk zOk rfl rfl rfl ?_
     refine S.pure tOk zOk rfl rfl rfl ?_
     refine S.pure tOk zOk rfl rfl rfl ?_
     refine S.pure tOk zOk rfl rfl rfl ?_
     refine S.pure tOk zOk rfl rfl rfl ?_
     refine thenK_n ?_
     refine W.seq ?_
     refine W.region ?_
     refine S.pure tOk zOk rfl rfl rfl ?_
     refine S.pure tOk zOk rfl rfl rfl ?_
     refine S.pureG tOk zOk rfl rfl tg (fun _ => rfl) rfl ?_
     refine S.pureG tOk zOk rfl rfl tg (fun _ => rfl) rfl ?_
     refine S.pureG tOk zOk rfl rfl tg (fun _ => rfl) rfl ?_
     refine S.pureG tOk zOk rfl rfl tg (fun _ => rfl) rfl ?_
     refine S.pickAnd tOk zOk rfl rfl tg ?_
     refine thenK_n ?_
     refine W.cond rfl (fun c7 => ?_) (fun c7 => ?_)
     ·skip
      have hlo := (los_7 c2 c4 c6).trans c7
      refine W.seq ?_
      refine W.region ?_
      refine S.pure tOk zOk rfl rfl rfl ?_
      refine thenK_n ?_
      refine W.ret ?_
      refine blockK_r ?_
      refine thenK_r ?_
      refine blockK_r ?_
      refine thenK_r ?_
      refine thenK_r ?_
      refine blockK_r ?_
      refine thenK_r ?_
      exact ⟨_, rfl, rfl, LeV.of_force rfl (by rw [cl_hit hi ((f0_1.eq.loses _).symm.trans hlo)]; rfl)⟩
     ·skip
      have hlo := (los_7 c2 c4 c6).trans c7
      refine W.skip ?_
      refine blockK_n ?_
      refine thenK_n ?_
      refine W.region ?_
      refine S.pure tOk zOk rfl rfl rfl ?_
      refine S.pure tOk zOk rfl rfl rfl ?_
      refine S.hcallX rfl rfl rfl rfl ((pc_one tab (rs.getD i Rul.z) hri hoi f0_1.eq.l f0_1.key (by have := f0_1.len; omega)).frameX [] [] [0] rfl rfl rfl rfl rfl (fun _ => rfl) (fun _ => rfl) (fun _ => rfl) (fun _ => rfl)) ?_
      rintro tab1 h1
      refine blockK_n ?_
      refine thenK_n ?_
      refine W.region ?_
      refine S.pure tOk zOk rfl rfl rfl ?_
      refine S.pure tOk zOk rfl rfl rfl ?_
      refine loop_n (rs.length - (i + 1)) (by omega) ⟨i + 1, tab1, hi, way_next f0_1 hoi hz h1, cl_next f0_2 ((f0_1.eq.loses _).symm.trans hlo), rfl, _, _, _, _, rfl, rfl, rfl, rfl, inc_i64 (by omega), trivial⟩
    ·skip
     have hlo := los_0 (u := tab) c2 c4 c6
     refine W.skip ?_
     refine blockK_n ?_
     refine thenK_n ?_
     refine W.region ?_
     refine S.pure tOk zOk rfl rfl rfl ?_
     refine S.pure tOk zOk rfl rfl rfl ?_
     refine S.hcallX rfl rfl rfl rfl ((pc_one tab (rs.getD i Rul.z) hri hoi f0_1.eq.l f0_1.key (by have := f0_1.len; omega)).frameX [] [] [0] rfl rfl rfl rfl rfl (fun _ => rfl) (fun _ => rfl) (fun _ => rfl) (fun _ => rfl)) ?_
     rintro tab1 h1
     refine blockK_n ?_
     refine thenK_n ?_
     refine W.region ?_
     refine S.pure tOk zOk rfl rfl rfl ?_
     refine S.pure tOk zOk rfl rfl rfl ?_
     refine loop_n (rs.length - (i + 1)) (by omega) ⟨i + 1, tab1, hi, way_next f0_1 hoi hz h1, cl_next f0_2 ((f0_1.eq.loses _).symm.trans hlo), rfl, _, _, _, _, rfl, rfl, rfl, rfl, inc_i64 (by omega), trivial⟩
 ·skip
  have hi := row_ge c1
  obtain rfl : i = rs.length := by omega
  refine W.exit ?_
  refine thenK_e ?_
  refine thenK_e ?_
  refine blockK_x ?_
  refine thenK_n ?_
  refine W.seq ?_
  refine W.region ?_
  refine S.pure tOk zOk rfl rfl rfl ?_
  refine thenK_n ?_
  refine W.ret ?_
  exact ⟨_, rfl, rfl, LeV.of_force rfl (by rw [cl_end f0_2]; rfl)⟩
end Go.Proofs.YtcchfmilleffjaaGreatDoor

set_option linter.unusedVariables false
set_option linter.unusedSimpArgs false
set_option maxRecDepth 100000
set_option maxHeartbeats 4000000
namespace Go.Proofs.YtcchfmilleffjaaGreatDoor
open Go
open Go.RowKit
attribute [local irreducible] rangeB pathB nameB valueB firstNe tailOf listT ndT badP sortS prefT stepE stepR listE ruleC doT runT invR revTo losesT cleanT stepsE runF changesP changesL runP invAll cleanP wantR
theorem grd_run {ss : List Stg} {rs : List Rul} {a : Bool} (h : (a && wantR ss rs == 0) = true) : (runF ss rs != 0) = false ∧ stepsE ss rs = 0 := by
  rw [Bool.and_eq_true] at h; exact run_zero (want_0 h.2).1
theorem pc_wantR (ss : List Stg) (rs : List Rul) : PureCall Tryz.prog J 27 [.one (.d (.vec 1 ([(runP ss rs).2, (invAll rs).2].map fun x => [.int .i64 x])))] (.one (.d (.int .i64 (wantR ss rs)))) := by
  unfold wantR; exact pc_outref2_First [(runP ss rs).2, (invAll rs).2] (by simp)
theorem chg_ok {ss : List Stg} {rs : List Rul} (h : ((runP ss rs).2 != 0) = false) : changesP ss (runP ss rs).1 = (changesL ss (runP ss rs).1, 0) := by
  obtain ⟨h1, h2⟩ := law_chg h
  exact cp_3 (by rw [h1]; rfl) (by rw [h2]; rfl)
theorem chg_len {ss : List Stg} {rs : List Rul} (hn : ss.length ≤ 2000000) : (changesL ss (runP ss rs).1).length ≤ 1000000000 := by
  have h := chgTo_le ss (runP ss rs).1 (runP ss rs).1.length
  have h2 := (runP_len ss rs).1
  rw [changes_end] at h
  omega
theorem pc_chgR (ss : List Stg) (rs : List Rul) (hn : ss.length ≤ 2000000) (hs : ∀ s ∈ ss, s.k.length < 4294967000 ∧ s.v.length < 4294967000) (hm : rs.length ≤ 2000000) (hrb : ∀ r ∈ rs, RulB r) (h : ((runP ss rs).2 != 0) = false) : PureCall Tryz.prog J 29 [.one (.d (.vec 2 (ss.map stgD))), .one (.d (.vec 2 ((runP ss rs).1.map stgD)))] (.tup [.one (.d (.vec 10 ((changesL ss (runP ss rs).1).map chgD))), .one (.d (.int .i64 0))]) := by
  have hl := runP_len ss rs
  have h2 := pc_migrate_Changes ss (runP ss rs).1 hn hs (by omega) hl.2
  rw [chg_ok h] at h2
  exact h2
theorem pc_outlaw2_RunsMatch (ss : List Stg) (rs : List Rul) (hn : ss.length ≤ 2000000) (hs : ∀ s ∈ ss, s.k.length < 4294967000 ∧ s.v.length < 4294967000) (hm : rs.length ≤ 2000000) (hrb : ∀ r ∈ rs, RulB r) :
  PureCall Tryz.prog J 5 [.one (.d (.vec 2 (ss.map stgD))), .one (.d (.vec 5 (rs.map rulD)))] (.one (.d (.bool true))) := by
 obtain ⟨hl1, hl2⟩ := runP_len ss rs
 have hil := inv_len (rs := rs)
 have hlc := law_clean ss rs
 refine PureCall.of_body tOk (fn := Tryz.f5) Tryz.func5 (by kernel_rfl) rfl (Nat.le_of_ble_eq_true rfl) (fun E => ?_)
 refine W.seq ?_
 refine W.region ?_
 refine S.pure tOk zOk rfl rfl rfl ?_
 refine thenK_n ?_
 refine W.seq ?_
 refine W.region ?_
 refine S.pure tOk zOk rfl rfl rfl ?_
 refine S.pure tOk zOk rfl rfl rfl ?_
 refine S.call rfl rfl rfl rfl rfl (pc_migrate_Run ss rs hn hs hm hrb) ?_
 refine S.pure tOk zOk rfl rfl rfl ?_
 refine S.pure tOk zOk rfl rfl rfl ?_
 refine S.pure tOk zOk rfl rfl rfl ?_
 refine S.pure tOk zOk rfl rfl rfl ?_
 refine S.pure tOk zOk rfl rfl rfl ?_
 refine thenK_n ?_
 refine W.seq ?_
 refine W.region ?_
 refine S.pure tOk zOk rfl rfl rfl ?_
 refine S.pure tOk zOk rfl rfl rfl ?_
 refine S.call rfl rfl rfl rfl rfl (pc_outref2_RunOf ss rs hn hs hm hrb) ?_
 refine S.pure tOk zOk rfl rfl rfl ?_
 refine S.pure tOk zOk rfl rfl rfl ?_
 refine S.pure tOk zOk rfl rfl rfl ?_
 refine S.pure tOk zOk rfl rfl rfl ?_
 refine S.pure tOk zOk rfl rfl rfl ?_
 refine thenK_n ?_
 refine W.seq ?_
 refine W.seq ?_
 refine W.region ?_
 refine S.call rfl rfl rfl rfl rfl (pc_outlaw2_migrates) ?_
 refine S.pure tOk zOk rfl rfl rfl ?_
 refine S.pure tOk zOk rfl rfl rfl ?_
 refine S.pureG tOk zOk rfl rfl tg (fun _ => rfl) rfl ?_
 refine S.pureG tOk zOk rfl rfl tg (fun _ => rfl) rfl ?_
 refine S.pureG tOk zOk rfl rfl tg (fun _ => rfl) rfl ?_
 refine S.pickOr tOk zOk rfl rfl tg ?_
 refine S.pure tOk zOk rfl rfl rfl ?_
 refine S.pureG tOk zOk rfl rfl tg (fun _ => rfl) rfl ?_
 refine S.pureG tOk zOk rfl rfl tg (fun _ => rfl) rfl ?_
 refine S.callG rfl rfl rfl rfl tg rfl rfl (fun _ => pc_EqualS (runP ss rs).1 (by omega)) ?_
 refine S.pureG tOk zOk rfl rfl tg (fun _ => rfl) rfl ?_
 refine S.pickOr tOk zOk rfl rfl tg ?_
 refine thenK_n ?_
 refine W.cond rfl (fun c1 => ?_) (fun c1 => ?_)
 ·skip
  exact absurd c1 (by simp)
 ·skip
  refine W.skip ?_
  refine thenK_n ?_
  refine W.seq ?_
  refine W.region ?_
  refine S.pure tOk zOk rfl rfl rfl ?_
  refine S.call rfl rfl rfl rfl rfl (pc_InverseAll rs hm hrb) ?_
  refine S.pure tOk zOk rfl rfl rfl ?_
  refine S.pure tOk zOk rfl rfl rfl ?_
  refine S.pure tOk zOk rfl rfl rfl ?_
  refine S.pure tOk zOk rfl rfl rfl ?_
  refine S.pure tOk zOk rfl rfl rfl ?_
  refine thenK_n ?_
  refine W.seq ?_
  refine W.region ?_
  refine S.pure tOk zOk rfl rfl rfl ?_
  refine S.call rfl rfl rfl rfl rfl (pc_InverseAllOf rs hm hrb) ?_
  refine S.pure tOk zOk rfl rfl rfl ?_
  refine S.pure tOk zOk rfl rfl rfl ?_
  refine S.pure tOk zOk rfl rfl rfl ?_
  refine S.pure tOk zOk rfl rfl rfl ?_
  refine S.pure tOk zOk rfl rfl rfl ?_
  refine thenK_n ?_
  refine W.seq ?_
  refine W.seq ?_
  refine W.region ?_
  refine S.pure tOk zOk rfl rfl rfl ?_
  refine S.pure tOk zOk rfl rfl rfl ?_
  refine S.pure tOk zOk rfl rfl rfl ?_
  refine S.pure tOk zOk rfl rfl rfl ?_
  refine S.pureG tOk zOk rfl rfl tg (fun _ => rfl) rfl ?_
  refine S.pureG tOk zOk rfl rfl tg (fun _ => rfl) rfl ?_
  refine S.callG rfl rfl rfl rfl tg rfl rfl (fun _ => pc_EqualRu (invAll rs).1 (by omega)) ?_
  refine S.pureG tOk zOk rfl rfl tg (fun _ => rfl) rfl ?_
  refine S.pickOr tOk zOk rfl rfl tg ?_
  refine thenK_n ?_
  refine W.cond rfl (fun c2 => ?_) (fun c2 => ?_)
  ·skip
   exact absurd c2 (by simp)
  ·skip
   refine W.skip ?_
   refine thenK_n ?_
   refine W.seq ?_
   refine W.region ?_
   refine S.pure tOk zOk rfl rfl rfl ?_
   refine S.pure tOk zOk rfl rfl rfl ?_
   refine S.call rfl rfl rfl rfl rfl (pc_migrate_Clean ss rs hn hs hm hrb) ?_
   refine S.pure tOk zOk rfl rfl rfl ?_
   refine S.pure tOk zOk rfl rfl rfl ?_
   refine S.pure tOk zOk rfl rfl rfl ?_
   refine S.pure tOk zOk rfl rfl rfl ?_
   refine S.pure tOk zOk rfl rfl rfl ?_
   refine thenK_n ?_
   refine W.seq ?_
   refine W.region ?_
   refine S.pure tOk zOk rfl rfl rfl ?_
   refine S.pure tOk zOk rfl rfl rfl ?_
   refine S.slice tOk rfl rfl ?_
   refine S.call rfl rfl rfl rfl rfl (pc_wantR ss rs) ?_
   refine S.pure tOk zOk rfl rfl rfl ?_
   refine thenK_n ?_
   refine W.seq ?_
   refine W.seq ?_
   refine W.region ?_
   refine S.pure tOk zOk rfl rfl rfl ?_
   refine S.pure tOk zOk rfl rfl rfl ?_
   refine S.pure tOk zOk rfl rfl rfl ?_
   refine S.pure tOk zOk rfl rfl rfl ?_
   refine S.pureG tOk zOk rfl rfl tg (fun _ => rfl) rfl ?_
   refine S.pureG tOk zOk rfl rfl tg (fun _ => rfl) rfl ?_
   refine S.pureG tOk zOk rfl rfl tg (fun _ => rfl) rfl ?_
   refine S.pureG tOk zOk rfl rfl tg (fun _ => rfl) rfl ?_
   refine S.pickAndG tOk zOk rfl rfl rfl tg tg ?_
   refine S.pickOr tOk zOk rfl rfl tg ?_
   refine S.pure tOk zOk rfl rfl rfl ?_
   refine S.pureG tOk zOk rfl rfl tg (fun _ => rfl) rfl ?_
   refine S.pureG tOk zOk rfl rfl tg (fun _ => rfl) rfl ?_
   refine S.pureG tOk zOk rfl rfl tg (fun _ => rfl) rfl ?_
   refine S.pureG tOk zOk rfl rfl tg (fun _ => rfl) rfl ?_
   refine S.pureG tOk zOk rfl rfl tg (fun _ => rfl) rfl ?_
   refine S.pureG tOk zOk rfl rfl tg (fun _ => rfl) rfl ?_
   refine S.callG rfl rfl rfl rfl tg rfl rfl (fun hgd => pc_outref2_CleanOf ss rs hn hs hm hrb (grd_run hgd).1 (grd_run hgd).2) ?_
   refine S.pureG tOk zOk rfl rfl tg (fun _ => rfl) rfl ?_
   refine S.pickAndG tOk zOk rfl rfl rfl tg tg ?_
   refine S.pickOr tOk zOk rfl rfl tg ?_
   refine thenK_n ?_
   refine W.cond rfl (fun c3 => ?_) (fun c3 => ?_)
   ·skip
    exact absurd (c3.symm.trans hlc) (by decide)
   ·skip
    refine W.skip ?_
    refine thenK_n ?_
    refine W.seq ?_
    refine W.seq ?_
    refine W.region ?_
    refine S.pure tOk zOk rfl rfl rfl ?_
    refine S.pure tOk zOk rfl rfl rfl ?_
    refine thenK_n ?_
    refine W.cond rfl (fun c4 => ?_) (fun c4 => ?_)
    ·skip
     refine W.seq ?_
     refine W.region ?_
     refine S.pure tOk zOk rfl rfl rfl ?_
     refine thenK_n ?_
     refine W.ret ?_
     refine thenK_r ?_
     exact ⟨_, rfl, rfl, LeV.of_force rfl (by simp)⟩
    ·skip
     refine W.skip ?_
     refine thenK_n ?_
     refine W.seq ?_
     refine W.region ?_
     refine S.pure tOk zOk rfl rfl rfl ?_
     refine S.pure tOk zOk rfl rfl rfl ?_
     refine S.call rfl rfl rfl rfl rfl (pc_chgR ss rs hn hs hm hrb c4) ?_
     refine S.pure tOk zOk rfl rfl rfl ?_
     refine S.pure tOk zOk rfl rfl rfl ?_
     refine S.pure tOk zOk rfl rfl rfl ?_
     refine S.pure tOk zOk rfl rfl rfl ?_
     refine S.pure tOk zOk rfl rfl rfl ?_
     refine thenK_n ?_
     refine W.seq ?_
     refine W.region ?_
     refine S.pure tOk zOk rfl rfl rfl ?_
     refine S.pure tOk zOk rfl rfl rfl ?_
     refine S.pure tOk zOk rfl rfl rfl ?_
     refine S.pureG tOk zOk rfl rfl tg (fun _ => rfl) rfl ?_
     refine S.pureG tOk zOk rfl rfl tg (fun _ => rfl) rfl ?_
     refine S.pureG tOk zOk rfl rfl tg (fun _ => rfl) rfl ?_
     refine S.callG rfl rfl rfl rfl tg rfl rfl (fun _ => pc_outref2_ChangesOf ss (runP ss rs).1 hn hs (by omega) hl2) ?_
     refine S.callG rfl rfl rfl rfl tg rfl rfl (fun _ => pc_EqualC (changesL ss (runP ss rs).1) (chg_len hn)) ?_
     refine S.pickAnd tOk zOk rfl rfl tg ?_
     refine S.pure tOk zOk rfl rfl rfl ?_
     refine thenK_n ?_
     refine W.ret ?_
     exact ⟨_, rfl, rfl, LeV.of_force rfl (by simp)⟩
end Go.Proofs.YtcchfmilleffjaaGreatDoor

/- From a row's argument to pure data: decoders, put together type by type. -/
set_option linter.unusedVariables false
set_option linter.unusedSimpArgs false
namespace Go.Proofs.YtcchfmilleffjaaGreatDoor
open Go Go.RowKit Go.ChangeShapes
/-- Cells that hold these data, all blocks of the world being left as they are. -/
def RDs (w : World) (cs : List Value) (ds : List D) : Prop :=
  cs.length = ds.length ∧ ∀ (i : Nat) (c : Value) (d : D), cs[i]? = some c → ds[i]? = some d → RD (fun b => b < w.heap.size) w d c
theorem RDs.one {w : World} {c : Value} {d : D} (h : RD (fun b => b < w.heap.size) w d c) : RDs w [c] [d] :=
  ⟨rfl, fun i a b h1 h2 => by
    match i with
    | 0 => simp at h1 h2; subst h1; subst h2; exact h
    | i + 1 => simp at h1⟩
theorem RDs.append {w : World} {a b : List Value} {x y : List D} (h1 : RDs w a x) (h2 : RDs w b y) : RDs w (a ++ b) (x ++ y) := by
  refine ⟨by simp [h1.1, h2.1], fun i c d hc hd => ?_⟩
  by_cases hi : i < a.length
  · rw [List.getElem?_append_left hi] at hc
    rw [List.getElem?_append_left (by rw [← h1.1]; exact hi)] at hd
    exact h1.2 i c d hc hd
  · rw [List.getElem?_append_right (by omega)] at hc
    rw [List.getElem?_append_right (by rw [← h1.1]; omega)] at hd
    rw [← h1.1] at hd
    exact h2.2 _ c d hc hd
/-- A decoder of a type: the data that its cells hold; what is known of it, where the reading's bulk is N. -/
structure Dec (P : Program) (t : TypeId) (α : Type) where
  ds : α → List D
  wf : Nat → α → Prop
  up : ∀ (m n : Nat) (x : α), m ≤ n → wf m x → wf n x
  lim : Nat → Bool
  wt : α → Nat
  ok : ∀ {H : Type} {enc : TypeId × Value → H} {w : World} {fuel : Nat} {cs : List Value} {d : DataW H} {ps : List MemPlace}, lim fuel = true → DataW.trod enc P w 0 (fun _ => true) true fuel t cs = some (d, ps) →
    ∃ x : α, RDs w cs (ds x) ∧ wf (Rows.uptoBulk d) x ∧ wt x ≤ Rows.uptoBulk d
theorem trod_int {H : Type} {enc : TypeId × Value → H} {P : Program} {w : World} {fuel : Nat} {t : TypeId} {cs : List Value} {x : DataW H × List MemPlace} {k : IntKind} (ht : P.underlying t = some (.int k)) (h : DataW.trod enc P w 0 (fun _ => true) true fuel t cs = some x) :
    ∃ n, cs = [.int k n] ∧ (Lit.int k n).wf = true := by
  cases fuel with
  | zero => simp [DataW.trod] at h
  | succ fuel =>
    unfold DataW.trod at h
    rw [ht] at h
    split at h <;> first
      | (rename_i k1 k2 n he1 he2
         simp only [Option.some.injEq, TypeDesc.int.injEq] at he1
         subst he1
         split at h
         · rename_i hk; exact ⟨n, by rw [hk.1], hk.2⟩
         · cases h)
      | (simp_all; done)
theorem trod_str {H : Type} {enc : TypeId × Value → H} {P : Program} {w : World} {fuel : Nat} {t : TypeId} {cs : List Value} {x : DataW H × List MemPlace} (ht : P.underlying t = some .string) (h : DataW.trod enc P w 0 (fun _ => true) true fuel t cs = some x) :
    ∃ s : ByteArray, cs = [.string s] ∧ x.1 = .lit (.string s.data.toList) := by
  cases fuel with
  | zero => simp [DataW.trod] at h
  | succ fuel =>
    unfold DataW.trod at h
    rw [ht] at h
    split at h <;> first
      | (split at h
         · cases h; exact ⟨_, rfl, rfl⟩
         · cases h)
      | (simp_all; done)
def Dec.int {P : Program} {t : TypeId} (k : IntKind) (ht : P.underlying t = some (.int k)) : Dec P t Int where
  ds n := [.int k n]
  wf _ n := (Lit.int k n).wf = true
  up _ _ _ _ h := h
  lim _ := true
  wt _ := 0
  ok _ h := by
    obtain ⟨n, rfl, hw⟩ := trod_int ht h
    exact ⟨n, .one (.int _ _), hw, Nat.zero_le _⟩
def Dec.str {P : Program} {t : TypeId} (ht : P.underlying t = some .string) : Dec P t (List UInt8) where
  ds s := [.str s]
  wf N s := s.length < N
  up _ _ _ h1 h := Nat.lt_of_lt_of_le h h1
  lim _ := true
  wt _ := 0
  ok _ h := by
    obtain ⟨s, rfl, hx⟩ := trod_str ht h
    refine ⟨s.data.toList, .one (.str s.data.toList), ?_, Nat.zero_le _⟩
    simp only at hx
    rw [hx]
    simp [Rows.uptoBulk]
theorem mapM_len {α β : Type} {f : α → Option β} : ∀ {l : List α} {r : List β}, l.mapM f = some r → r.length = l.length
  | [], r, h => by simp at h; subst h; rfl
  | a :: l, r, h => by
    simp only [List.mapM_cons, Option.bind_eq_bind, Option.bind_eq_some_iff, Option.pure_def, Option.some.injEq] at h
    obtain ⟨b, hb, r', hr', rfl⟩ := h
    simp [mapM_len hr']
/-- The fields of a struct, one behind the other. -/
structure DecF (P : Program) (fs : List Field) (off tot : Nat) (α : Type) where
  ds : α → List D
  wf : Nat → α → Prop
  up : ∀ (m n : Nat) (x : α), m ≤ n → wf m x → wf n x
  lim : Nat → Bool
  wt : α → Nat
  ok : ∀ {H : Type} {enc : TypeId × Value → H} {w : World} {fuel : Nat} {cs : List Value} {xs : List (DataW H × List MemPlace)}, lim fuel = true → cs.length = tot →
    fs.mapM (fun f => DataW.trod enc P w 0 (fun _ => true) true fuel f.type ((cs.drop f.offset).take (P.cellsOf f.type))) = some xs →
    ∃ x : α, RDs w (cs.drop off) (ds x) ∧ wf (Rows.uptoBulkAll (xs.map (·.1))) x ∧ wt x ≤ Rows.uptoBulkAll (xs.map (·.1))
def DecF.nil {P : Program} (tot : Nat) : DecF P [] tot tot Unit where
  ds _ := []
  wf _ _ := True
  up _ _ _ _ h := h
  lim _ := true
  wt _ := 0
  ok _ hl h := ⟨(), ⟨by simp [hl], fun i c d h1 h2 => by simp at h2⟩, trivial, Nat.zero_le _⟩
def DecF.cons {P : Program} {f : Field} {fs : List Field} {off tot n : Nat} {α β : Type} (de : Dec P f.type α) (ho : f.offset = off) (hn : P.cellsOf f.type = n) (r : DecF P fs (off + n) tot β) : DecF P (f :: fs) off tot (α × β) where
  ds x := de.ds x.1 ++ r.ds x.2
  wf N x := de.wf N x.1 ∧ r.wf N x.2
  up m n x h hx := ⟨de.up m n x.1 h hx.1, r.up m n x.2 h hx.2⟩
  lim f := de.lim f && r.lim f
  wt x := de.wt x.1 + r.wt x.2
  ok {H enc w fuel cs xs} hq hl h := by
    have hq := Bool.and_eq_true_iff.1 hq
    simp only [List.mapM_cons, Option.bind_eq_bind, Option.bind_eq_some_iff, Option.pure_def, Option.some.injEq] at h
    obtain ⟨b, hb, r', hr', rfl⟩ := h
    obtain ⟨x, h1, h2, h5⟩ := de.ok (d := b.1) (ps := b.2) hq.1 hb
    obtain ⟨y, h3, h4, h6⟩ := r.ok hq.2 hl hr'
    refine ⟨(x, y), ?_, ⟨de.up _ _ _ ?_ h2, r.up _ _ _ ?_ h4⟩, ?_⟩
    · have e : cs.drop off = (cs.drop f.offset).take (P.cellsOf f.type) ++ cs.drop (off + n) := by
        rw [ho, hn, ← List.drop_drop, List.take_append_drop]
      rw [e]; exact h1.append h3
    · simp only [List.map_cons, Rows.uptoBulkAll]; omega
    · simp only [List.map_cons, Rows.uptoBulkAll]; omega
    · simp only [List.map_cons, Rows.uptoBulkAll]; omega
def Dec.struct {P : Program} {t : TypeId} {fs : Array Field} {tot : Nat} {α : Type} (ht : P.underlying t = some (.struct fs)) (hc : P.cellsOf t = tot) (r : DecF P fs.toList 0 tot α) : Dec P t α where
  ds := r.ds
  wf := r.wf
  up := r.up
  lim f := r.lim (f - 1)
  wt x := r.wt x + 1
  ok {H enc w fuel cs d ps} hq h := by
    cases fuel with
    | zero => simp [DataW.trod] at h
    | succ fuel =>
      unfold DataW.trod at h
      rw [ht] at h
      split at h <;> first
        | (rename_i he1
           simp only [Option.some.injEq, TypeDesc.struct.injEq] at he1
           subst he1
           split at h
           · rename_i hl
             simp only [Option.map_eq_some_iff] at h
             obtain ⟨xs, hx, he⟩ := h
             obtain ⟨x, h1, h2, h3⟩ := r.ok hq (hl.trans hc) hx
             cases he
             exact ⟨x, h1, r.up _ _ _ (by simp only [Rows.uptoBulk]; omega) h2, by simp only [Rows.uptoBulk]; omega⟩
           · cases h)
        | (simp_all; done)
def Dec.iso {P : Program} {t : TypeId} {α β : Type} (d : Dec P t α) (f : α → β) (ds : β → List D) (wf : Nat → β → Prop) (up : ∀ (m n : Nat) (x : β), m ≤ n → wf m x → wf n x) (hd : ∀ a, d.ds a = ds (f a)) (hw : ∀ N a, d.wf N a → d.wt a ≤ N → wf N (f a)) (wt : β → Nat := fun _ => 0) (hwt : ∀ a, wt (f a) ≤ d.wt a := by intro _; exact Nat.zero_le _) : Dec P t β where
  ds := ds
  wf := wf
  up := up
  lim := d.lim
  wt := wt
  ok hq h := by
    obtain ⟨x, h1, h2, h3⟩ := d.ok hq h
    exact ⟨f x, hd x ▸ h1, hw _ _ h2 h3, Nat.le_trans (hwt x) h3⟩
theorem choose_list {α : Type} {Q : Nat → α → Prop} : ∀ (n : Nat), (∀ i, i < n → ∃ x, Q i x) → ∃ xs : List α, xs.length = n ∧ ∀ i x, xs[i]? = some x → Q i x
  | 0, _ => ⟨[], rfl, fun i x h => by simp at h⟩
  | n + 1, h => by
    obtain ⟨xs, h1, h2⟩ := choose_list n (fun i hi => h i (by omega))
    obtain ⟨x, hx⟩ := h n (by omega)
    refine ⟨xs ++ [x], by simp [h1], fun i y hy => ?_⟩
    by_cases hi : i < xs.length
    · rw [List.getElem?_append_left hi] at hy; exact h2 i y hy
    · rw [List.getElem?_append_right (by omega)] at hy
      have e : i = n := by
        apply Decidable.byContradiction; intro hne
        rw [List.getElem?_eq_none (by simp; omega)] at hy; cases hy
      subst e
      rw [h1] at hy
      simp at hy; subst hy; exact hx
theorem cells_at {w : World} {a : Addr} {n : Nat} {cs : List Value} (h : w.cells? 0 a n = some cs) : cs.length = n ∧ ∀ j, j < n → w.cell? (a.add j) = cs[j]? := by
  unfold World.cells? at h
  rw [if_pos (Nat.zero_le _)] at h
  have hl := mapM_len h
  simp at hl
  refine ⟨hl, fun j hj => ?_⟩
  obtain ⟨b, h1, h2⟩ := Lib.mapM_at h j j (by simp [hj])
  rw [h1, h2]
theorem spot_none {w : World} {a : Addr} {v : Value} (h : w.cell? a = some v) : a.spot = none := by
  unfold World.cell? at h
  split at h
  · split at h
    · cases h
    · rename_i hs; simpa using hs
  · cases h
theorem bulk_mem {H : Type} {x : DataW H} : ∀ {l : List (DataW H)}, x ∈ l → Rows.uptoBulk x ≤ Rows.uptoBulkAll l
  | [], h => by cases h
  | a :: l, h => by
    simp only [Rows.uptoBulkAll]
    rcases List.mem_cons.1 h with rfl | h
    · omega
    · have := bulk_mem h; omega
theorem bulk_pos {H : Type} (d : DataW H) : 1 ≤ Rows.uptoBulk d := by
  cases d with
  | lit l => cases l <;> simp [Rows.uptoBulk]
  | _ => simp [Rows.uptoBulk]
theorem bulk_len {H : Type} : ∀ (l : List (DataW H)), l.length ≤ Rows.uptoBulkAll l
  | [] => by simp
  | a :: l => by
    have h1 := bulk_pos a
    have h2 := bulk_len l
    simp only [Rows.uptoBulkAll, List.length_cons]; omega
theorem bulk_sum {H : Type} {α : Type} {f : α → Nat} : ∀ {xs : List α} {l : List (DataW H)}, xs.length = l.length → (∀ (i : Nat) (x : α) (d : DataW H), xs[i]? = some x → l[i]? = some d → f x ≤ Rows.uptoBulk d) → (xs.map f).sum ≤ Rows.uptoBulkAll l
  | [], l, _, _ => Nat.zero_le _
  | x :: xs, [], h, _ => by simp at h
  | x :: xs, d :: l, h, hx => by
    have h1 := hx 0 x d rfl rfl
    have h2 := bulk_sum (f := f) (xs := xs) (l := l) (by simpa using h) (fun i y e h3 h4 => hx (i + 1) y e h3 h4)
    simp only [List.map_cons, List.sum_cons, Rows.uptoBulkAll]; omega
def Dec.slice {P : Program} {t e : TypeId} {sz : Nat} {α : Type} (ht : P.underlying t = some (.slice e)) (hc : P.cellsOf e = sz) (h0 : 0 < sz) (de : Dec P e α) : Dec P t (List α) where
  ds xs := [.vec sz (xs.map de.ds)]
  wf N xs := xs.length < N ∧ ∀ x ∈ xs, de.wf N x
  up m n xs h hx := ⟨by omega, fun x hm => de.up m n x h (hx.2 x hm)⟩
  lim f := de.lim (f - 1)
  wt xs := (xs.map de.wt).sum
  ok {H enc w fuel cs d ps} hq h := by
    rcases DataW.trod_slice ht h with h1 | ⟨a, len, cap, elems, rest, n, hfu, rfl, hx, hb, hl, hm, hlen, hel, hsp, hns⟩
    · obtain ⟨rfl, h2⟩ := h1
      cases h2
      exact ⟨[], .one (.empty _ _ _), ⟨by simp [Rows.uptoBulk], by simp⟩, Nat.zero_le _⟩
    · have key : ∀ i, i < len → ∃ x, ∃ cs' : List Value, ∃ y, elems[i]? = some y ∧ w.cells? 0 (a.add (i * sz)) sz = some cs' ∧ RDs w cs' (de.ds x) ∧ de.wf (Rows.uptoBulk y.1) x ∧ de.wt x ≤ Rows.uptoBulk y.1 := fun i hi => by
        have h1 := hel i hi
        have h2 : elems[i]? = some (elems[i]'(by omega)) := List.getElem?_eq_getElem _
        rw [h2, hc, Option.bind_eq_some_iff] at h1
        obtain ⟨cs', h3, h4⟩ := h1
        obtain ⟨x, h5, h6, h7⟩ := de.ok (d := (elems[i]'(by omega)).1) (ps := (elems[i]'(by omega)).2) (by have := hq; rw [hfu] at this; exact this) h4
        exact ⟨x, cs', _, h2, h3, h5, h6, h7⟩
      obtain ⟨xs, hxl, hxs⟩ := choose_list len key
      cases hx
      refine ⟨xs, .one ?_, ⟨?_, fun x hx => ?_⟩, ?_⟩
      · by_cases hne : xs = []
        · subst hne
          simp at hxl
          rw [← hxl]
          exact .empty _ _ _
        · have hpos : 0 < len := by
            cases xs with
            | nil => exact absurd rfl hne
            | cons x l => rw [← hxl]; simp
          have hs : a.spot = none := by
            obtain ⟨x, cs', y, _, h3, _⟩ := key 0 hpos
            obtain ⟨h4, h5⟩ := cells_at h3
            have h6 := h5 0 h0
            have h7 : cs'[0]? = some (cs'[0]'(by omega)) := List.getElem?_eq_getElem _
            rw [h7] at h6
            simp only [Addr.add, Nat.zero_mul, if_true] at h6
            exact spot_none h6
          have hadd : ∀ i j, (a.add (i * sz)).add j = ⟨a.block, a.off + i * sz + j, none⟩ := fun i j => by
            cases a with
            | mk b o s =>
              simp only at hs; subst hs
              unfold Addr.add
              by_cases h1 : i * sz = 0 <;> by_cases h2 : j = 0 <;> simp [h1, h2]
          have hat : ∀ (i j : Nat) (x : List D) (d : D), (xs.map de.ds)[i]? = some x → x[j]? = some d → ∃ v, w.cell? ⟨a.block, a.off + i * sz + j, none⟩ = some v ∧ RD (fun b => b < w.heap.size) w d v := fun i j x d h1 h2 => by
            simp only [List.getElem?_map, Option.map_eq_some_iff] at h1
            obtain ⟨x', h1, rfl⟩ := h1
            obtain ⟨cs', y, _, h3, h4, _⟩ := hxs i x' h1
            obtain ⟨h5, h6⟩ := cells_at h3
            have hj : j < sz := by
              have := (List.getElem?_eq_some_iff.1 h2).1
              rw [← h4.1, h5] at this; exact this
            have h7 : cs'[j]? = some (cs'[j]'(by omega)) := List.getElem?_eq_getElem _
            have h8 := h6 j hj
            rw [hadd, h7] at h8
            exact ⟨_, h8, h4.2 j _ d h7 h2⟩
          have hal : a = ⟨a.block, a.off, none⟩ := by cases a; simp only at hs; subst hs; rfl
          have hlen' : len = (xs.map de.ds).length := by simp [hxl]
          rw [hal, hlen']
          refine RD.vec sz (xs.map de.ds) a.block a.off cap (fun i j => (w.cell? ⟨a.block, a.off + i * sz + j, none⟩).getD undef) (by simpa using hne) (by rw [← hlen']; exact hl) ?_ ?_ ?_ ?_
          · obtain ⟨x, cs', y, _, h3, _⟩ := key 0 hpos
            obtain ⟨h4, h5⟩ := cells_at h3
            have h6 := h5 0 h0
            have h7 : cs'[0]? = some (cs'[0]'(by omega)) := List.getElem?_eq_getElem _
            rw [h7, hadd] at h6
            apply Decidable.byContradiction; intro hn
            unfold World.cell? at h6
            rw [Array.getElem?_eq_none (by simp only at hn ⊢; omega)] at h6
            cases h6
          · intro x hx
            simp only [List.mem_map] at hx
            obtain ⟨x', hx', rfl⟩ := hx
            obtain ⟨i, hi⟩ := List.getElem?_of_mem hx'
            obtain ⟨cs', y, _, h3, h4, _⟩ := hxs i x' hi
            rw [← h4.1]; exact (cells_at h3).1
          · intro i j x d h1 h2
            obtain ⟨v, h3, _⟩ := hat i j x d h1 h2
            rw [h3]; rfl
          · intro i j x d h1 h2
            obtain ⟨v, h3, h4⟩ := hat i j x d h1 h2
            simp only [h3, Option.getD_some]; exact h4
      · have h1 := bulk_len (elems.map (·.1))
        simp only [Rows.uptoBulk, List.length_map] at h1 ⊢; omega
      · obtain ⟨i, hi⟩ := List.getElem?_of_mem hx
        obtain ⟨cs', y, h2, _, _, h4, _⟩ := hxs i x hi
        refine de.up _ _ _ ?_ h4
        have := bulk_mem (x := y.1) (l := elems.map (·.1)) (List.mem_map.2 ⟨y, List.mem_of_getElem? h2, rfl⟩)
        simp only [Rows.uptoBulk]; omega
      · have := bulk_sum (f := de.wt) (xs := xs) (l := elems.map (·.1)) (by simp; omega) (fun i x d h1 h2 => by
          obtain ⟨cs', y, h3, _, _, _, h4⟩ := hxs i x h1
          rw [List.getElem?_map, h3] at h2
          cases h2; exact h4)
        simp only [Rows.uptoBulk]; omega
end Go.Proofs.YtcchfmilleffjaaGreatDoor

/- From a pure call to a row's statement. -/
set_option linter.unusedVariables false
set_option linter.unusedSimpArgs false
namespace Go.Proofs.YtcchfmilleffjaaGreatDoor
open Go Go.RowKit Go.ChangeShapes Go.WideShapes Go.ChangeAt
theorem Below.trodAll {H : Type} {enc : TypeId × Value → H} {P : Program} (hl : laidOutB P = true) {W W' : World} (hb : Below W.heap.size W W') : ∀ {ts : List TypeId} {vs : List Value} {ds : List (DataW H)} {ps : List MemPlace},
    ts.all (fun t => P.readableRec t && decide (t < P.types.size)) = true → DataW.TrodAll enc P W 0 (fun _ => true) true ts vs ds ps → (∀ x ∈ ps, x.block < W.heap.size) → DataW.TrodAll enc P W' 0 (fun b => decide (b < W.heap.size)) true ts vs ds ps
  | [], [], [], _, _, h, _ => h
  | [], [], _ :: _, _, _, h, _ => h.elim
  | [], _ :: _, _, _, _, h, _ => h.elim
  | _ :: _, [], _, _, _, h, _ => h.elim
  | _ :: _, _ :: _, [], _, _, h, _ => h.elim
  | t :: ts, v :: vs, d :: ds, ps, ha, h, hp => by
    simp only [List.all_cons, Bool.and_eq_true, decide_eq_true_eq] at ha
    obtain ⟨p, q, h1, h2, rfl⟩ := h
    exact ⟨p, q, Below.trod hl ha.1.1 ha.1.2 h1 hb (fun x hx => hp x (List.mem_append.2 (.inl hx))), Below.trodAll hl hb (by simpa using ha.2) h2 (fun x hx => hp x (List.mem_append.2 (.inr hx))), rfl⟩
theorem law_post {P : Program} {J : Inv} {f : FuncId} {fn : Func} {s : ChangeSpec} {tb : TypeId} (hl : laidOutB P = true) (hts : fn.params.toList.all (fun t => P.readableRec t && decide (t < P.types.size)) = true)
    (hv : s.vars = []) (hres : fn.resultTypes = #[tb]) (htb : P.underlying tb = some .bool) {H : Type} {enc : TypeId × Value → H} {W : World} {args : Array Value} {ds gs : List (DataW H)} {before : List MemPlace}
    (hW : DataW.Whole enc P fn.params.toList s.vars false W args.toList ds gs before) (hs : (s.fn H (ds ++ gs)).results = [.lit (.bool true)] ∧ (s.fn H (ds ++ gs)).args = ds ∧ (s.fn H (ds ++ gs)).vars = [])
    {us : List V} (pc : PureCall P J f us (.one (.d (.bool true)))) (hJ : J.I W) (hn : args.size = us.length) (hx : ∀ (i : Nat) (u : V) (v : Value), us[i]? = some u → args[i]? = some v → RV (noGh fun b => b < W.heap.size) noSh W u v) :
    Calls P f args W fun e W' => ∃ v, e = .returned v ∧ s.post enc P fn false true false false W args v W' := by
  have h := pc.calls (fun b => b < W.heap.size) W args.toList hJ (fun b hb => hb) (by simpa using hn) (fun i u v h1 h2 => hx i u v h1 (by simpa using h2))
  have h' : Calls P f args W _ := h
  refine h'.mono fun e W' ⟨v, im', he, hB, _, _, _, hr⟩ => ⟨v, he, ?_⟩
  obtain rfl : v = .bool true := by
    cases hr with | one _ _ h => cases h with | d _ _ h => cases h with | bool => rfl
  have hlt : ∀ x ∈ before, x.block < W.heap.size := fun x hx => by simpa using hW.lt x hx
  have hW' := hW
  obtain ⟨p, q, hA, hV, rfl, _, _⟩ := hW
  rw [hv] at hV
  have hgs : gs = [] ∧ q = [] := by
    cases gs with
    | nil => exact ⟨rfl, hV⟩
    | cons g gs => exact hV.elim
  obtain ⟨rfl, rfl⟩ := hgs
  refine ⟨ds, [], p ++ [], [], p, [], hW', ?_, ?_, ?_, hB.frame _, fun h => by cases h⟩
  · rw [hs.1, hres]
    exact trodAll_cons_mk (shut_bool htb true) trodAll_mk0
  · rw [hs.2.1]
    exact Below.trodAll hl hB hts hA (fun x hx => hlt x (by simp [hx]))
  · rw [hs.2.2, hv]; rfl
/-- An argument that is a struct or an array; one that is not. -/
theorem arg_agg {P : Program} {t : TypeId} {α : Type} (de : Dec P t α) {W : World} {r : Reach} {base : Nat} {v : Value} (ht : (match P.underlying t with | some (.struct _) | some (.array _ _) => true | _ => false) = true) (hv : Value.okWide P W r base t v)
    {H : Type} {enc : TypeId × Value → H} {d : DataW H} {ps : List MemPlace} (h : DataW.Trod enc P W 0 (fun _ => true) true t v d ps) (hlim : ∀ f, de.lim f = true := by intro _; rfl) : ∃ x : α, RV (noGh fun b => b < W.heap.size) noSh W (.agg ((de.ds x).map .d)) v ∧ de.wf (Rows.uptoBulk d) x := by
  obtain ⟨fuel, h⟩ := h
  obtain ⟨x, h1, h2, _⟩ := de.ok (hlim _) h
  refine ⟨x, ?_, h2⟩
  have hc : ∃ cs, v = .agg cs := by
    unfold Value.okWide at hv
    split at hv
    · exact ⟨_, hv.choose_spec.1⟩
    · exact ⟨_, hv.choose_spec.1⟩
    · rename_i h3 h4
      split at ht
      · rename_i fs h5; exact absurd h5 (h3 _)
      · rename_i n e h5; exact absurd h5 (h4 _ _)
      · cases ht
  obtain ⟨cs, rfl⟩ := hc
  have h3 : RDs W cs.toList (de.ds x) := h1
  have := RV.agg (g := noGh fun b => b < W.heap.size) (h := noSh) (w := W) ((de.ds x).map .d) cs.toList (by simp [h3.1]) (fun i c v hc hv => by
    simp only [List.getElem?_map, Option.map_eq_some_iff] at hc
    obtain ⟨d, hd, rfl⟩ := hc
    exact .d _ _ (h3.2 i v d hv hd))
  simpa using this
theorem arg_one {P : Program} {t : TypeId} {α : Type} (de : Dec P t α) {W : World} {r : Reach} {base : Nat} {v : Value} (ht : (match P.underlying t with | some .bool | some (.int _) | some .string | some (.slice _) | some (.pointer _) | some (.map _ _) => true | _ => false) = true) (hv : Value.okWide P W r base t v)
    {H : Type} {enc : TypeId × Value → H} {d : DataW H} {ps : List MemPlace} (h : DataW.Trod enc P W 0 (fun _ => true) true t v d ps) (hlim : ∀ f, de.lim f = true := by intro _; rfl) : ∃ x : α, (∀ e, de.ds x = [e] → RV (noGh fun b => b < W.heap.size) noSh W (.one (.d e)) v) ∧ de.wf (Rows.uptoBulk d) x := by
  obtain ⟨fuel, h⟩ := h
  obtain ⟨x, h1, h2, _⟩ := de.ok (hlim _) h
  refine ⟨x, fun e he => ?_, h2⟩
  have hc : v.cells.toList = [v] := by
    cases v with
    | agg cs =>
      exfalso
      unfold Value.okWide Cell.okWide Cell.ok at hv
      split at ht <;> simp_all
    | _ => rfl
  rw [hc, he] at h1
  exact .one _ _ (.d _ _ (h1.2 0 v e rfl rfl))
end Go.Proofs.YtcchfmilleffjaaGreatDoor

/- The world in which a row's call begins: what the listed variables give; a world for the witness. -/
set_option linter.unusedVariables false
set_option linter.unusedSimpArgs false
set_option maxRecDepth 100000
namespace Go.Proofs.YtcchfmilleffjaaGreatDoor
open Go Go.RowKit Go.ChangeShapes Go.WideShapes Go.ChangeAt
theorem trod_iface {H : Type} {enc : TypeId × Value → H} {P : Program} {w : World} {fuel : Nat} {t : TypeId} {cs : List Value} {nm : String} {x : DataW H} {p : List MemPlace} {ms : Array (String × TypeId)} (ht : P.underlying t = some (.interface ms))
    (h : DataW.trod enc P w 0 (fun _ => true) false fuel t cs = some (.iface nm x, p)) : ∃ u v, cs = [.iface u v] := by
  cases fuel with
  | zero => simp [DataW.trod] at h
  | succ fuel =>
    unfold DataW.trod at h
    rw [ht] at h
    split at h <;> first
      | exact ⟨_, _, rfl⟩
      | (simp_all; done)
theorem err_of {P : Program} {W : World} {n : String} {nm : String} {d : DataW Unit} {g : Nat} {t : TypeId} {ms : Array (String × TypeId)} (hg : P.globalNamed n = some g) (hty : (P.globals[g]?).map (·.type) = some t) (ht : P.underlying t = some (.interface ms))
    (h : Lib.VarReads P W n (.iface nm d)) : ∃ t p, W.var? P n = some #[.iface t p] := by
  obtain ⟨g', t', cs, fuel, p, hg', ht', hvar, hd⟩ := h
  obtain rfl := Option.some.inj (hg.symm.trans hg')
  obtain rfl := Option.some.inj (hty.symm.trans ht')
  obtain ⟨u, v, hc⟩ := trod_iface ht hd
  exact ⟨u, v, by rw [hvar]; congr 1; exact Array.ext' (by simpa using hc)⟩
theorem pow_of {W : World} (h : Lib.VarReads Tryz.prog W "internal/strconv.uint64pow10" Rows.laid_internal_strconv_uint64pow10) : Lib.TabIs Tryz.prog W "internal/strconv.uint64pow10" .u64 Lib.pow10Tab := by
  obtain ⟨g', t', cs, fuel, p, hg', ht', hvar, hd⟩ := h
  obtain rfl := Option.some.inj ((show Tryz.prog.globalNamed "internal/strconv.uint64pow10" = some 5 by kernel_rfl).symm.trans hg')
  obtain rfl := Option.some.inj ((show (Tryz.prog.globals[5]?).map (·.type) = some 350 by kernel_rfl).symm.trans ht')
  unfold Lib.TabIs
  rw [hvar, ← Lib.cells_of_tab (k := .u64) (zs := Lib.pow10Tab) Tryz.underlying350 Tryz.underlying297 (by kernel_rfl) (by kernel_rfl) hd]
theorem db_of {W : World} (h : Lib.VarReads Tryz.prog W "math/bits.deBruijn64tab" Rows.laid_math_bits_deBruijn64tab) : Lib.TabIs Tryz.prog W "math/bits.deBruijn64tab" .u8 (List.map (fun n : Nat => (n : Int)) Lib.deBruijn64tab) := by
  obtain ⟨g', t', cs, fuel, p, hg', ht', hvar, hd⟩ := h
  obtain rfl := Option.some.inj ((show Tryz.prog.globalNamed "math/bits.deBruijn64tab" = some 7 by kernel_rfl).symm.trans hg')
  obtain rfl := Option.some.inj ((show (Tryz.prog.globals[7]?).map (·.type) = some 353 by kernel_rfl).symm.trans ht')
  unfold Lib.TabIs
  rw [hvar, ← Lib.cells_of_tab (k := .u8) (zs := List.map (fun n : Nat => (n : Int)) Lib.deBruijn64tab) Tryz.underlying353 Tryz.underlying5 (by kernel_rfl) (by kernel_rfl) hd]
theorem base_of {W : World} {l : List (String × DataW Unit)} (hl : laidMet Tryz.prog l W) (h1 : ("internal/strconv.uint64pow10", Rows.laid_internal_strconv_uint64pow10) ∈ l) (h2 : ("strconv.ErrSyntax", Rows.laid_strconv_ErrSyntax) ∈ l)
    (h3 : ("strconv.ErrRange", Rows.laid_strconv_ErrRange) ∈ l) (h4 : ("math/bits.deBruijn64tab", Rows.laid_math_bits_deBruijn64tab) ∈ l) (hS : W.ShapedOpen Tryz.prog) : J.I W where
  max := cell_of_shapedOpen_int (t := 3) (zero := #[.int .i64 0]) hS (of_decide_eq_true (by kernel_rfl)) (by kernel_rfl) rfl (by kernel_rfl) (by kernel_rfl) Tryz.underlying3
  pow := pow_of (Lib.laidMet.reads hl h1)
  esyn := err_of (g := 1) (by kernel_rfl) (by kernel_rfl) Tryz.underlying189 (Lib.laidMet.reads hl h2)
  eran := err_of (g := 2) (by kernel_rfl) (by kernel_rfl) Tryz.underlying189 (Lib.laidMet.reads hl h3)
  db := db_of (Lib.laidMet.reads hl h4)
mutual
def dcells : DataW Unit → List Value
  | .lit (.int k n) => [.int k n]
  | .agg ds => dcellsL ds
  | _ => []
def dcellsL : List (DataW Unit) → List Value
  | [] => []
  | d :: ds => dcells d ++ dcellsL ds
end
def putCs (cs : List Value) : Obj → Obj
  | .cells _ t fr => .cells cs.toArray t fr
  | o => o
def errText : DataW Unit → ByteArray
  | .iface _ (.ptr (.agg [.lit (.string s)])) => ⟨s.toArray⟩
  | _ => ByteArray.empty
def errCell (b : Nat) : List Value := [.iface 329 (.pointer (some ⟨b, 0, none⟩))]
/-- The settled world, the listed variables holding what their initialisers lay. -/
noncomputable def laidWorld (os : Os) : World :=
  { World.holding Tryz.prog os ⟨#[], #[], []⟩ with heap :=
    let h := (World.holding Tryz.prog os ⟨#[], #[], []⟩).heap
    let h := h.modify 5 (putCs (dcells Rows.laid_internal_strconv_uint64pow10))
    let h := h.modify 3 (putCs (dcells Rows.laid_unicode_utf8_first))
    let h := h.modify 4 (putCs (dcells Rows.laid_unicode_utf8_acceptRanges))
    let h := h.modify 6 (putCs (dcells Rows.laid_math_bits_deBruijn32tab))
    let h := h.modify 7 (putCs (dcells Rows.laid_math_bits_deBruijn64tab))
    let n := h.size
    let h := h.modify 1 (putCs (errCell n))
    let h := h.modify 2 (putCs (errCell (n + 1)))
    (h.push (.cells #[.string (errText Rows.laid_strconv_ErrSyntax)] 331 (0, 0))).push (.cells #[.string (errText Rows.laid_strconv_ErrRange)] 331 (0, 0)) }
end Go.Proofs.YtcchfmilleffjaaGreatDoor

/- Decoders of settings. -/
set_option linter.unusedVariables false
namespace Go.Proofs.YtcchfmilleffjaaGreatDoor
open Go Go.RowKit
noncomputable def decStg : Dec Tryz.prog 40 Stg :=
  Dec.iso (Dec.struct Tryz.underlying40 (tot := 2) (by kernel_rfl)
    (DecF.cons (Dec.str Tryz.underlying9) rfl (n := 1) (by kernel_rfl) (DecF.cons (Dec.str Tryz.underlying9) rfl (n := 1) (by kernel_rfl) (DecF.nil 2))))
    (fun x => (⟨x.1, x.2.1⟩ : Stg)) stgD (fun N s => s.k.length < N ∧ s.v.length < N) (fun m n v h hv => ⟨Nat.lt_of_lt_of_le hv.1 h, Nat.lt_of_lt_of_le hv.2 h⟩) (fun _ => rfl)
    (fun N x hx _ => ⟨hx.1, hx.2.1⟩)
end Go.Proofs.YtcchfmilleffjaaGreatDoor

/- Decoders of rules. -/
set_option linter.unusedVariables false
namespace Go.Proofs.YtcchfmilleffjaaGreatDoor
open Go Go.RowKit
noncomputable def decRul : Dec Tryz.prog 79 Rul :=
  Dec.iso (Dec.struct Tryz.underlying79 (tot := 5) (by kernel_rfl)
    (DecF.cons (Dec.int .i64 Tryz.underlying3) rfl (n := 1) (by kernel_rfl) (DecF.cons (Dec.str Tryz.underlying9) rfl (n := 1) (by kernel_rfl) (DecF.cons (Dec.str Tryz.underlying9) rfl (n := 1) (by kernel_rfl) (DecF.cons (Dec.str Tryz.underlying9) rfl (n := 1) (by kernel_rfl) (DecF.cons (Dec.str Tryz.underlying9) rfl (n := 1) (by kernel_rfl) (DecF.nil 5)))))))
    (fun x => (⟨x.1, x.2.1, x.2.2.1, x.2.2.2.1, x.2.2.2.2.1⟩ : Rul)) rulD (fun N r => r.k.length < N ∧ r.tu.length < N ∧ r.old.length < N ∧ r.nu.length < N)
    (fun m n r h hv => ⟨Nat.lt_of_lt_of_le hv.1 h, Nat.lt_of_lt_of_le hv.2.1 h, Nat.lt_of_lt_of_le hv.2.2.1 h, Nat.lt_of_lt_of_le hv.2.2.2 h⟩) (fun _ => rfl)
    (fun N x hx _ => ⟨hx.2.1, hx.2.2.1, hx.2.2.2.1, hx.2.2.2.2.1⟩)
end Go.Proofs.YtcchfmilleffjaaGreatDoor

/- RunsMatch: the contract of its row. -/
set_option linter.unusedVariables false
set_option linter.unusedSimpArgs false
set_option maxRecDepth 100000
set_option maxHeartbeats 4000000
namespace Go.Proofs.YtcchfmilleffjaaGreatDoor.fnRunsMatch
open Go Go.RowKit Go.ChangeShapes Go.WideShapes Go.ChangeAt
theorem contract (H : Type) (enc : TypeId × Value → H) (W : World) (base : Nat) (args : Array Value) (ds gs : List (DataW H)) (before : List MemPlace)
    (hval : ∀ (j : Nat) t v, Tryz.f5.params[j]? = some t → args[j]? = some v → Value.okWide Tryz.prog W .any base t v)
    (hW : DataW.Whole enc Tryz.prog Tryz.f5.params.toList Rows.runsMatchSpec.vars false W args.toList ds gs before) (hc : Rows.uptoSmall H (ds ++ gs) = true)
    (hL : laidMetH Tryz.prog Rows.runsMatchUptoRow.laid W) (hS : W.ShapedOpen Tryz.prog) :
    Calls Tryz.prog 5 args W fun e W' => ∃ v, e = .returned v ∧ Rows.runsMatchSpec.post enc Tryz.prog Tryz.f5 false true false false W args v W' := by
  have hW' := hW
  obtain ⟨p, q, hA0, hV, rfl, hfz, hnd⟩ := hW
  have hA : DataW.TrodAll enc Tryz.prog W 0 (fun _ => true) true Tryz.f5.params.toList args.toList ds p := hA0
  rw [Tryz.params5] at hA hval
  obtain ⟨v0, vs0, d0, ds0, p0, q0, hargs, rfl, rfl, h0, r0⟩ := trodAll_cons hA
  obtain ⟨v1, vs1, d1, ds1, p1, q1, rfl, rfl, rfl, h1, r1⟩ := trodAll_cons r0
  obtain ⟨rfl, rfl, rfl⟩ := trodAll_nil r1
  obtain rfl : args = #[v0, v1] := Array.ext' (by simpa using hargs)
  obtain ⟨rfl, rfl⟩ := trodVars_none hV
  obtain ⟨ss, e0, w0⟩ := arg_one (Dec.slice Tryz.underlying22 (sz := 2) (by kernel_rfl) (by decide) decStg) (by kernel_rfl) (hval 0 22 v0 rfl rfl) h0
  obtain ⟨rs, e1, w1⟩ := arg_one (Dec.slice Tryz.underlying53 (sz := 5) (by kernel_rfl) (by decide) decRul) (by kernel_rfl) (hval 1 53 v1 rfl rfl) h1
  have hbulk : Rows.uptoBulkAll ([d0, d1] ++ []) ≤ 1048576 := of_decide_eq_true hc
  simp only [List.append_nil, Rows.uptoBulkAll] at hbulk
  have h0 : ss.length < Rows.uptoBulk d0 ∧ ∀ u ∈ ss, u.k.length < Rows.uptoBulk d0 ∧ u.v.length < Rows.uptoBulk d0 := w0
  have h1 : rs.length < Rows.uptoBulk d1 ∧ ∀ u ∈ rs, u.k.length < Rows.uptoBulk d1 ∧ u.tu.length < Rows.uptoBulk d1 ∧ u.old.length < Rows.uptoBulk d1 ∧ u.nu.length < Rows.uptoBulk d1 := w1
  have pc := pc_outlaw2_RunsMatch ss rs (by omega) (fun u hu => by have := h0.2 u hu; omega) (by omega) (fun u hu => by have := h1.2 u hu; exact ⟨by omega, by omega, by omega, by omega⟩)
  refine law_post (by kernel_rfl) (by kernel_rfl) rfl rfl Tryz.underlying4 hW' ⟨rfl, rfl, rfl⟩ pc (base_of (l := Rows.runsMatchUptoRow.laid) hL (.tail _ (.tail _ (.head _))) (.tail _ (.tail _ (.tail _ (.tail _ (.tail _ (.head _)))))) (.tail _ (.tail _ (.tail _ (.tail _ (.head _))))) (.tail _ (.head _)) hS) rfl (fun i u v hu hv => ?_)
  match i with
  | 0 => simp at hu hv; subst hu; subst hv; exact e0 _ rfl
  | 1 => simp at hu hv; subst hu; subst hv; exact e1 _ rfl
  | i + 2 => simp at hu
end Go.Proofs.YtcchfmilleffjaaGreatDoor.fnRunsMatch

/- RunsMatch: where what it reads is of bulk at most 1048576, it returns true, and what it was given reads as it did. -/
set_option linter.unusedVariables false
set_option linter.unusedSimpArgs false
set_option maxHeartbeats 4000000
namespace Go.Proofs.YtcchfmilleffjaaGreatDoor.fnRunsMatch
open Go Go.RowKit Go.ChangeShapes Go.WideShapes Go.ChangeAt
def zargs : Array Value := #[.slice none 0 0, .slice none 0 0]
set_option maxRecDepth 100000 in
theorem laid_met (os : Os) : laidMet Tryz.prog Rows.runsMatchUptoRow.laid ((laidWorld os).forCall (fun _ _ => 0) ⟨#[], zargs, []⟩).memory :=
  laidMet_of_run' 8 (by kernel_rfl) (by kernel_rfl)
set_option maxRecDepth 100000 in
theorem reads (os : Os) {H : Type} (enc : TypeId × Value → H) : ∃ ds places, DataW.whole enc Tryz.prog ((laidWorld os).forCall (fun _ _ => 0) ⟨#[], zargs, []⟩).memory Tryz.f5.params.toList Rows.runsMatchSpec.vars false zargs.toList 8 = some (ds, [], places) ∧ Rows.uptoSmall H (ds ++ []) = true :=
  ⟨[.nil, .nil], [], by kernel_rfl, by kernel_rfl⟩
theorem own : ownKnob Tryz.prog.godebug = none := by kernel_rfl
set_option maxRecDepth 100000 in
theorem liftedUpto (os : Os) (started : os.Started) (H : Type) (enc : TypeId × Value → H) (F : Stop.Interp) :
    ReturnsInHanded {} Tryz.checked os 5 .any ((Rows.OpenSpec.upto Rows.runsMatchSpec).preRow enc Tryz.prog Tryz.f5 Rows.runsMatchUptoRow.domain false Rows.runsMatchUptoRow.laid) (((Rows.OpenSpec.upto Rows.runsMatchSpec).at F).post enc Tryz.prog Tryz.f5 false true false false) := by
  obtain ⟨ds, places, hx, hsm⟩ := reads os enc
  refine returnsInHanded_of_row (C := Tryz.checked) (s := Rows.OpenSpec.upto Rows.runsMatchSpec) own started (by kernel_rfl) Tryz.func5
    (witness_row_at (enc := enc) (C := Tryz.checked) false (laidWorld os) zargs rfl (by kernel_rfl) (by kernel_rfl) (by kernel_rfl)
      (OpenSpec.preRow_of_cond 8 hx (by kernel_rfl) (fun k hk => by cases hk; exact hsm) (by kernel_rfl) (laid_met os))) ?_
  intro W base args ds gs before hval hW _ hcond _ hL hS _
  exact contract H enc W base args ds gs before hval hW (hcond _ rfl) hL hS
theorem band {a b : Bool} (ha : a = true) (hb : b = true) : (a && b) = true := by rw [ha, hb]; rfl
set_option maxRecDepth 100000 in
theorem closed : joinedFacts Tryz.pinned.checked.prog 5 Tryz.f5 (Rows.OpenSpec.upto Rows.runsMatchSpec).bare Rows.runsMatchUptoRow = true := by
  unfold joinedFacts
  refine band (band (band (band (band (band (band (band (band (band (band (band (band (band (band (band (band (band (band (band (band (band (band (band (band (band (band (band (band (band (band ?_ ?_) ?_) ?_) ?_) ?_) ?_) ?_) ?_) ?_) ?_) ?_) ?_) ?_) ?_) ?_) ?_) ?_) ?_) ?_) ?_) ?_) ?_) ?_) ?_) ?_) ?_) ?_) ?_) ?_) ?_) ?_
  all_goals (as_aux_lemma => kernel_rfl)
theorem saidUpto : Rows.RunsMatchUptoSaid :=
  OpenClaim.holds_of_cond 5 Tryz.f5 rfl rfl rfl rfl rfl rfl rfl ⟨rfl, rfl, rfl, rfl, rfl⟩ rfl rfl rfl rfl rfl (by as_aux_lemma => kernel_rfl) Tryz.func5 closed
    (of_decide_eq_true (by kernel_rfl)) (by unfold Func.isWrapper; first | (rw [if_pos (by decide +kernel)]; kernel_rfl) | (rw [if_neg (by decide +kernel)]; exact ⟨rfl, rfl⟩))
    (fun os started H enc _ F => by rw [OpenClaim.pre_eq_preRow]; exact liftedUpto os started H enc F)
theorem plain (f : FuncId) (fn : Func) (hf : Tryz.pinned.checked.prog.funcNamed "outfitter/outlaw2.RunsMatch" = some f) (hfn : Tryz.pinned.checked.prog.funcs[f]? = some fn) :
    true = Tryz.pinned.checked.prog.looks [] ∧ ∀ (j : Nat) t, fn.params[j]? = some t → Tryz.pinned.checked.prog.wantsStandIn t = false := by
  obtain rfl : f = 5 := Option.some.inj ((show Tryz.prog.funcNamed "outfitter/outlaw2.RunsMatch" = some 5 by kernel_rfl).symm.trans hf) |>.symm
  obtain rfl : fn = Tryz.f5 := (Option.some.inj (Tryz.func5.symm.trans hfn)).symm
  refine ⟨by kernel_rfl, fun j t ht => ?_⟩
  rw [Tryz.params5] at ht
  have hm : t = 53 ∨ t = 22 := by
    have h1 := Array.mem_of_getElem? ht
    have h2 : t = 22 ∨ t = 53 := by simpa using h1
    rcases h2 with h | h <;> rw [h] <;> simp
  rcases hm with rfl | rfl
  · exact (show Tryz.prog.wantsStandIn 53 = false by kernel_rfl)
  · exact (show Tryz.prog.wantsStandIn 22 = false by kernel_rfl)
theorem cardUpto : Rows.RunsMatchUptoCardSaid :=
  Claim7.holds_tied_plain_at .later [] _ _ _ _ saidUpto (fun _ h => by cases h) (by kernel_rfl) (fun _ h => by cases h) runsMatchUpto_row_tie rfl ⟨rfl, rfl⟩ (by kernel_rfl) rfl plain (by kernel_rfl)
end Go.Proofs.YtcchfmilleffjaaGreatDoor.fnRunsMatch
