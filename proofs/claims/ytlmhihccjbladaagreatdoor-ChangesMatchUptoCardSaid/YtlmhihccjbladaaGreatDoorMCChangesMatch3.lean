/- ChangesMatch: where what it reads is of bulk at most 1048576, it returns true, and what it was given reads as it did. -/
import Derived.Test.YtlmhihccjbladaaGreatDoorRows
import Derived.Lib.LaidTab
import Derived.Carry
import Derived.ChangeSame
import Derived.OpenVars
import Derived.OpenShut
import Derived.WalkKit
import Derived.ProofKit
import Derived.Deep.DeepHandedRow
import Derived.Test.YtlmhihccjbladaaGreatDoorCards
import Derived.Test.YtlmhihccjbladaaGreatDoorTie
import Derived.Lib.LaidU8
import Derived.Shelf.Vars
import Derived.Deep.DeepLaidRun
import Derived.Test.YtlmhihccjbladaaGreatDoorMCChangesMatch2
set_option linter.unusedVariables false
set_option linter.unusedSimpArgs false
set_option maxRecDepth 100000
set_option maxHeartbeats 4000000
namespace Go.Proofs.YtlmhihccjbladaaGreatDoor
open Go
open Go.RowKit
attribute [local irreducible] rangeB nameB valueB visit visits checkP listE firstNe
def ruleWs : List (List UInt8) := [[], [114, 101, 110, 97, 109, 101], [112, 114, 101, 102, 105, 120], [99, 111, 112, 121], [115, 101, 116], [100, 101, 102, 97, 117, 108, 116], [100, 114, 111, 112], [109, 97, 112], [115, 119, 97, 112]]
theorem le_chgNil {n : Int} {x : List Chg × Int} (h : x = ([], n)) : LeV (.tup [.one (.d .nilsl), .one (.d (.int .i64 n))]) (.tup [.one (.d (.vec 10 (x.1.map chgD))), .one (.d (.int .i64 x.2))]) := by
  subst h; exact LeV.tup2 (LeV.nil 10) (LeV.refl _)
theorem chg_row {l : List Chg} {x : Chg} : l.map chgD ++ [chgD x] = (l ++ [x]).map chgD := by simp
theorem unset_row {t : Tab} {l : List Stg} {i : Nat} (hi : i < l.length) (h : goneB t (l.getD i Stg.z) = true) : (unsetTo t l i).map chgD ++ [chgD ⟨4, (l.getD i Stg.z).k, []⟩] = (unsetTo t l (i + 1)).map chgD := by rw [chg_row, unset_t hi h]
def chgTo (ys zs : List Stg) (i : Nat) : List Chg := unsetTo (tabOf zs) ys ys.length ++ setTo (tabOf ys) zs i
theorem chgTo_0 (ys zs : List Stg) : unsetTo (tabOf zs) ys ys.length = chgTo ys zs 0 := (List.append_nil _).symm
theorem set_row {ys zs : List Stg} {i : Nat} (hi : i < zs.length) (h : newB (tabOf ys) (zs.getD i Stg.z) = true) : (chgTo ys zs i).map chgD ++ [chgD ⟨3, (zs.getD i Stg.z).k, (zs.getD i Stg.z).v⟩] = (chgTo ys zs (i + 1)).map chgD := by
  rw [chg_row]; unfold chgTo; rw [List.append_assoc, set_t hi h]
theorem set_skip {ys zs : List Stg} {i : Nat} (hi : i < zs.length) (h : newB (tabOf ys) (zs.getD i Stg.z) = false) : chgTo ys zs i = chgTo ys zs (i + 1) := by
  unfold chgTo; rw [set_f hi h]
theorem chgTo_le (ys zs : List Stg) (i : Nat) : (chgTo ys zs i).length ≤ ys.length + zs.length := by
  unfold chgTo
  have h1 := unset_le (tabOf zs) ys ys.length
  have h2 := set_le (tabOf ys) zs i
  simp; omega
def changesP (ys zs : List Stg) : List Chg × Int := if listE pathB ys != 0 then ([], listE pathB ys) else if listE pathB zs != 0 then ([], listE pathB zs) else (changesL ys zs, 0)
theorem changes_end (ys zs : List Stg) : chgTo ys zs zs.length = changesL ys zs := rfl
theorem cp_1 {ys zs : List Stg} (h : (listE pathB ys != 0) = true) : changesP ys zs = ([], listE pathB ys) := if_pos h
theorem cp_2 {ys zs : List Stg} (h : (listE pathB ys != 0) = false) (h2 : (listE pathB zs != 0) = true) : changesP ys zs = ([], listE pathB zs) := by unfold changesP; rw [if_neg (by rw [h]; simp), if_pos h2]
theorem cp_3 {ys zs : List Stg} (h : (listE pathB ys != 0) = false) (h2 : (listE pathB zs != 0) = false) : changesP ys zs = (changesL ys zs, 0) := by unfold changesP; rw [if_neg (by rw [h]; simp), if_neg (by rw [h2]; simp)]
def wantC (ys zs : List Stg) : Int := firstNe [listE pathB ys, listE pathB zs]
theorem wantC_eq (ys zs : List Stg) : wantC ys zs = if listE pathB ys != 0 then listE pathB ys else listE pathB zs := first2 _ _
theorem law_chg1 {ys zs : List Stg} (h : (wantC ys zs != 0) = true) : changesP ys zs = ([], wantC ys zs) := by
  rw [wantC_eq] at h ⊢
  cases h1 : (listE pathB ys != 0)
  · rw [h1, if_neg (by simp)] at h; rw [if_neg (by simp)]; exact cp_2 h1 h
  · rw [if_pos rfl]; exact cp_1 h1
theorem law_chg2 {ys zs : List Stg} (h : (wantC ys zs != 0) = false) : changesP ys zs = (changesL ys zs, 0) := by
  rw [wantC_eq] at h
  cases h1 : (listE pathB ys != 0)
  · rw [h1, if_neg (by simp)] at h; exact cp_3 h1 h
  · rw [h1, if_pos rfl, h1] at h; cases h
theorem pc_pathAB : PureCall Tryz.prog J 31 [.one (.d (.str [97, 47, 98]))] (.one (.d (.bool true))) := by
  have h := pc_ver_IsPath [97, 47, 98] (by decide)
  rw [path_ab] at h; exact h
theorem pc_valE : PureCall Tryz.prog J 42 [.one (.d (.str []))] (.one (.d (.bool true))) := by
  have h := pc_ver_IsValue [] (by decide)
  rw [val_e] at h; exact h
theorem pc_migrate_settingsFault (l : List Stg) (hn : l.length ≤ 2000000) (hs : ∀ s ∈ l, s.k.length < 4294967000 ∧ s.v.length < 4294967000) :
  PureCall Tryz.prog J 10 [.one (.d (.vec 2 (l.map stgD)))] (.one (.d (.int .i64 (listE pathB l)))) := by
 refine PureCall.of_body tOk (fn := Tryz.f10) Tryz.func10 (by kernel_rfl) rfl (Nat.le_of_ble_eq_true rfl) (fun E => ?_)
 refine W.seq ?_
 refine W.region ?_
 refine S.pure tOk zOk rfl rfl rfl ?_
 refine thenK_n ?_
 refine W.seq ?_
 refine W.region ?_
 refine S.pure tOk zOk rfl rfl rfl ?_
 refine S.pure tOk zOk rfl rfl rfl ?_
 refine S.call rfl rfl rfl rfl rfl (pc_Holds0 l (by omega) hs) ?_
 refine S.pure tOk zOk rfl rfl rfl ?_
 refine S.pure tOk zOk rfl rfl rfl ?_
 refine S.pure tOk zOk rfl rfl rfl ?_
 refine S.pure tOk zOk rfl rfl rfl ?_
 refine S.pure tOk zOk rfl rfl rfl ?_
 refine thenK_n ?_
 refine W.seq ?_
 refine W.region ?_
 refine S.pure tOk zOk rfl rfl rfl ?_
 refine S.pure tOk zOk rfl rfl rfl ?_
 refine thenK_n ?_
 refine W.ret ?_
 exact ⟨_, rfl, rfl, LeV.refl _⟩
theorem pc_tableOf (l : List Stg) (hn : l.length ≤ 4294967000) :
  HCall Tryz.prog J 11 ([.one (.d (.vec 2 (l.map stgD)))]) ([]) ([]) ([]) (isH (.one (.map 0)) ([]) ([]) ([tabD (tabOf l)])) := by
 refine HCall.ofD tOk ⟨0, 0, 1⟩ (fn := Tryz.f11) Tryz.func11 (by kernel_rfl) rfl (Nat.le_of_ble_eq_true rfl) (fun E => ?_)
 refine W.seq ?_
 refine W.region ?_
 refine S.pure tOk zOk rfl rfl rfl ?_
 refine thenK_n ?_
 refine W.seq ?_
 refine W.region ?_
 refine S.makeMap rfl ?_
 refine S.pure tOk zOk rfl rfl rfl ?_
 refine thenK_n ?_
 refine W.seq ?_
 refine W.seq ?_
 refine W.region ?_
 refine S.pure tOk zOk rfl rfl rfl ?_
 refine S.pure tOk zOk rfl rfl rfl ?_
 refine S.pure tOk zOk rfl rfl rfl ?_
 refine thenK_n ?_
 refine W.block ?_
 refine W.loop (fun k st => ∃ i : Nat, i ≤ l.length ∧ k = l.length - i ∧ ∃ t b2 r2 m2, st = ⟨t, [] ++ b2, [] ++ r2, [tabD (tabTo l i)] ++ m2⟩ ∧ holdsL t [(3, .one (.map 0)), (7, .one (.d (.vec 2 (l.map stgD)))), (8, .one (.d (.int .i64 ((l.map stgD).length : Int)))), (9, .one (.d (.int .i64 (i : Int))))]) (l.length) ⟨0, Nat.zero_le _, rfl, _, _, _, _, rfl, rfl, rfl, rfl, rfl, trivial⟩ ?_
 rintro k0 _ ⟨i, f0_0, rfl, t0, bb0, rr0, mm0, rfl, hh0⟩
 refine W.keepR _ _ _ _ _ _ _ hh0 rfl ?_
 refine W.seq ?_
 refine W.region ?_
 refine S.pure tOk zOk rfl rfl rfl ?_
 refine thenK_n ?_
 refine W.seq ?_
 refine W.cond rfl (fun c1 => ?_) (fun c1 => ?_)
 ·skip
  have hi := row_lt c1
  refine W.skip ?_
  refine thenK_n ?_
  refine W.seq ?_
  refine W.block ?_
  refine W.seq ?_
  refine W.region ?_
  refine S.pureE tOk zOk rfl (row_ok hi) (row_at Stg.z hi) rfl ?_
  refine S.pure tOk zOk rfl rfl rfl ?_
  refine S.alloc tOk rfl rfl rfl rfl ?_
  refine S.store tOk rfl rfl rfl rfl rfl rfl rfl rfl ?_
  refine thenK_n ?_
  refine W.region ?_
  refine S.pure tOk zOk rfl rfl rfl ?_
  refine S.pure tOk zOk rfl rfl rfl ?_
  refine S.pure tOk zOk rfl rfl rfl ?_
  refine S.pure tOk zOk rfl rfl rfl ?_
  refine S.pure tOk zOk rfl rfl rfl ?_
  refine S.mapUpdate tOk keyS (fD := fun v : List UInt8 => DV.one (.str v)) (l.getD i Stg.z).v (tabTo l i) rfl rfl rfl rfl rfl rfl rfl rfl (show _ = [tabD (tabTo l (i + 1))] from rfl) ?_
  refine blockK_n ?_
  refine thenK_n ?_
  refine W.region ?_
  refine S.pure tOk zOk rfl rfl rfl ?_
  refine S.pure tOk zOk rfl rfl rfl ?_
  refine loop_n (l.length - (i + 1)) (by omega) ⟨i + 1, hi, rfl, _, _, _, _, rfl, rfl, rfl, rfl, inc_i64 (by omega), trivial⟩
 ·skip
  have hi := row_ge c1
  obtain rfl : i = l.length := by omega
  refine W.exit ?_
  refine thenK_e ?_
  refine thenK_e ?_
  refine blockK_x ?_
  refine thenK_n ?_
  refine W.seq ?_
  refine W.region ?_
  refine S.pure tOk zOk rfl rfl rfl ?_
  refine S.pure tOk zOk rfl rfl rfl ?_
  refine thenK_n ?_
  refine W.ret ?_
  exact ⟨_, rfl, rfl, LeG.refl _, rfl, rfl, rfl⟩
theorem pc_migrate_Changes (ys zs : List Stg) (hn : ys.length ≤ 2000000) (hs : ∀ s ∈ ys, s.k.length < 4294967000 ∧ s.v.length < 4294967000) (hm : zs.length ≤ 2000000) (ht : ∀ s ∈ zs, s.k.length < 4294967000 ∧ s.v.length < 4294967000) :
  PureCall Tryz.prog J 4 [.one (.d (.vec 2 (ys.map stgD))), .one (.d (.vec 2 (zs.map stgD)))] (.tup [.one (.d (.vec 10 ((changesP ys zs).1.map chgD))), .one (.d (.int .i64 (changesP ys zs).2))]) := by
 refine PureCall.of_body tOk (fn := Tryz.f4) Tryz.func4 (by kernel_rfl) rfl (Nat.le_of_ble_eq_true rfl) (fun E => ?_)
 refine W.seq ?_
 refine W.region ?_
 refine S.pure tOk zOk rfl rfl rfl ?_
 refine S.pure tOk zOk rfl rfl rfl ?_
 refine thenK_n ?_
 refine W.seq ?_
 refine W.seq ?_
 refine W.region ?_
 refine S.pure tOk zOk rfl rfl rfl ?_
 refine S.pure tOk zOk rfl rfl rfl ?_
 refine S.pure tOk zOk rfl rfl rfl ?_
 refine S.pure tOk zOk rfl rfl rfl ?_
 refine thenK_n ?_
 refine W.block ?_
 refine W.rounds 3 ?_
 refine WR.succ ?_
 refine W.seq ?_
 refine W.region ?_
 refine S.pure tOk zOk rfl rfl rfl ?_
 refine thenK_n ?_
 refine W.seq ?_
 refine W.condT rfl rfl ?_
 refine W.skip ?_
 refine thenK_n ?_
 refine W.seq ?_
 refine W.block ?_
 refine W.seq ?_
 refine W.region ?_
 refine S.pure tOk zOk rfl (by first | rfl | exact idx_ok (by omega) (by omega)) rfl ?_
 refine S.pure tOk zOk rfl rfl rfl ?_
 refine thenK_n ?_
 refine W.seq ?_
 refine W.region ?_
 refine S.pure tOk zOk rfl rfl rfl ?_
 refine S.call rfl rfl rfl rfl rfl (pc_migrate_settingsFault ys hn hs) ?_
 refine S.pure tOk zOk rfl rfl rfl ?_
 refine thenK_n ?_
 refine W.seq ?_
 refine W.region ?_
 refine S.pure tOk zOk rfl rfl rfl ?_
 refine S.pure tOk zOk rfl rfl rfl ?_
 refine thenK_n ?_
 refine W.cond rfl (fun c2 => ?_) (fun c2 => ?_)
 ·skip
  refine W.seq ?_
  refine W.region ?_
  refine S.pure tOk zOk rfl rfl rfl ?_
  refine S.pure tOk zOk rfl rfl rfl ?_
  refine S.pure tOk zOk rfl rfl rfl ?_
  refine thenK_n ?_
  refine W.ret ?_
  refine blockK_r ?_
  refine thenK_r ?_
  refine thenK_r ?_
  refine blockK_r ?_
  refine thenK_r ?_
  exact ⟨_, rfl, rfl, le_chgNil (cp_1 c2)⟩
 ·skip
  refine W.skip ?_
  refine blockK_n ?_
  refine thenK_n ?_
  refine W.region ?_
  refine S.pure tOk zOk rfl rfl rfl ?_
  refine S.pure tOk zOk rfl rfl rfl ?_
  refine thenK_n ?_
  refine WR.succ ?_
  refine W.seq ?_
  refine W.region ?_
  refine S.pure tOk zOk rfl rfl rfl ?_
  refine thenK_n ?_
  refine W.seq ?_
  refine W.condT rfl rfl ?_
  refine W.skip ?_
  refine thenK_n ?_
  refine W.seq ?_
  refine W.block ?_
  refine W.seq ?_
  refine W.region ?_
  refine S.pure tOk zOk rfl (by first | rfl | exact idx_ok (by omega) (by omega)) rfl ?_
  refine S.pure tOk zOk rfl rfl rfl ?_
  refine thenK_n ?_
  refine W.seq ?_
  refine W.region ?_
  refine S.pure tOk zOk rfl rfl rfl ?_
  refine S.call rfl rfl rfl rfl rfl (pc_migrate_settingsFault zs hm ht) ?_
  refine S.pure tOk zOk rfl rfl rfl ?_
  refine thenK_n ?_
  refine W.seq ?_
  refine W.region ?_
  refine S.pure tOk zOk rfl rfl rfl ?_
  refine S.pure tOk zOk rfl rfl rfl ?_
  refine thenK_n ?_
  refine W.cond rfl (fun c4 => ?_) (fun c4 => ?_)
  ·skip
   refine W.seq ?_
   refine W.region ?_
   refine S.pure tOk zOk rfl rfl rfl ?_
   refine S.pure tOk zOk rfl rfl rfl ?_
   refine S.pure tOk zOk rfl rfl rfl ?_
   refine thenK_n ?_
   refine W.ret ?_
   refine blockK_r ?_
   refine thenK_r ?_
   refine thenK_r ?_
   refine blockK_r ?_
   refine thenK_r ?_
   exact ⟨_, rfl, rfl, le_chgNil (cp_2 c2 c4)⟩
  ·skip
   refine W.skip ?_
   refine blockK_n ?_
   refine thenK_n ?_
   refine W.region ?_
   refine S.pure tOk zOk rfl rfl rfl ?_
   refine S.pure tOk zOk rfl rfl rfl ?_
   refine thenK_n ?_
   refine WR.succ ?_
   refine W.seq ?_
   refine W.region ?_
   refine S.pure tOk zOk rfl rfl rfl ?_
   refine thenK_n ?_
   refine W.seq ?_
   refine W.condF rfl rfl ?_
   refine W.exit ?_
   refine thenK_e ?_
   refine thenK_e ?_
   refine blockK_x ?_
   refine thenK_n ?_
   refine W.seq ?_
   refine W.region ?_
   refine S.pure tOk zOk rfl rfl rfl ?_
   refine S.hcallD rfl rfl rfl rfl ((pc_tableOf ys (by omega)).frameD [] [] [] rfl rfl rfl rfl rfl rfl rfl rfl rfl) ?_
   refine S.pure tOk zOk rfl rfl rfl ?_
   refine S.hcallD rfl rfl rfl rfl ((pc_tableOf zs (by omega)).frameD [] [] [] rfl rfl rfl rfl rfl rfl rfl rfl rfl) ?_
   refine S.pure tOk zOk rfl rfl rfl ?_
   refine S.pure tOk zOk rfl rfl rfl ?_
   refine thenK_n ?_
   refine W.seq ?_
   refine W.region ?_
   refine S.pure tOk zOk rfl rfl rfl ?_
   refine thenK_n ?_
   refine W.seq ?_
   refine W.seq ?_
   refine W.region ?_
   refine S.pure tOk zOk rfl rfl rfl ?_
   refine S.pure tOk zOk rfl rfl rfl ?_
   refine S.pure tOk zOk rfl rfl rfl ?_
   refine thenK_n ?_
   refine W.newRow 11 10 38 rfl ?_
   refine W.block ?_
   refine W.loop (fun k st => ∃ i : Nat, ∃ v : Nat, ∃ al : Bool, i ≤ ys.length ∧ k = ys.length - i ∧ ∃ t b2 r2 m2, st = ⟨t, [] ++ b2, [some ⟨al, v, 10, 38, ((unsetTo (tabOf zs) ys i).map chgD)⟩] ++ r2, [tabD (tabOf ys), tabD (tabOf zs)] ++ m2⟩ ∧ holdsL t [(1, .one (.d (.vec 2 (zs.map stgD)))), (9, .one (.map 0)), (10, .one (.map 1)), (11, .one (.row 0 v 0 ((unsetTo (tabOf zs) ys i).map chgD).length)), (36, .one (.d (.vec 2 (ys.map stgD)))), (37, .one (.d (.int .i64 ((ys.map stgD).length : Int)))), (38, .one (.d (.int .i64 (i : Int))))]) (ys.length) ⟨0, _, _, Nat.zero_le _, rfl, _, _, _, _, rfl, rfl, rfl, rfl, rfl, rfl, rfl, rfl, trivial⟩ ?_
   rintro k2 _ ⟨i, v, al, f2_0, rfl, t2, bb2, rr2, mm2, rfl, hh2⟩
   refine W.keepR _ _ _ _ _ _ _ hh2 rfl ?_
   refine W.seq ?_
   refine W.region ?_
   refine S.pure tOk zOk rfl rfl rfl ?_
   refine thenK_n ?_
   refine W.seq ?_
   refine W.cond rfl (fun c6 => ?_) (fun c6 => ?_)
   ·skip
    have hi := row_lt c6
    refine W.skip ?_
    refine thenK_n ?_
    refine W.seq ?_
    refine W.block ?_
    refine W.seq ?_
    refine W.region ?_
    refine S.pureE tOk zOk rfl (row_ok hi) (row_at Stg.z hi) rfl ?_
    refine S.pure tOk zOk rfl rfl rfl ?_
    refine S.alloc tOk rfl rfl rfl rfl ?_
    refine S.store tOk rfl rfl rfl rfl rfl rfl rfl rfl ?_
    refine thenK_n ?_
    refine W.seq ?_
    refine W.region ?_
    refine S.pure tOk zOk rfl rfl rfl ?_
    refine S.pure tOk zOk rfl rfl rfl ?_
    refine S.pure tOk zOk rfl rfl rfl ?_
    refine S.lookup tOk keyS (fD := fun v : List UInt8 => DV.one (.str v)) [] (tabOf zs) rfl rfl rfl rfl rfl rfl rfl rfl rfl rfl (show mapV true _ _ = V.tup [_, _] from rfl) ?_
    refine S.pure tOk zOk rfl rfl rfl ?_
    refine S.pure tOk zOk rfl rfl rfl ?_
    refine S.pure tOk zOk rfl rfl rfl ?_
    refine S.pure tOk zOk rfl rfl rfl ?_
    refine S.pure tOk zOk rfl rfl rfl ?_
    refine thenK_n ?_
    refine W.seq ?_
    refine W.region ?_
    refine S.pure tOk zOk rfl rfl rfl ?_
    refine S.pure tOk zOk rfl rfl rfl ?_
    refine thenK_n ?_
    refine W.cond rfl (fun c7 => ?_) (fun c7 => ?_)
    ·skip
     have hg : goneB (tabOf zs) (ys.getD i Stg.z) = true := c7
     refine W.region ?_
     refine S.pure tOk zOk rfl rfl rfl ?_
     refine S.pure tOk zOk rfl rfl rfl ?_
     refine S.pure tOk zOk rfl rfl rfl ?_
     refine S.pure tOk zOk rfl rfl rfl ?_
     refine S.pure tOk zOk rfl rfl rfl ?_
     refine S.slice tOk rfl rfl ?_
     refine S.append tOk rfl rfl rfl rfl rfl rfl rfl rfl rfl rfl rfl rfl (by have hq := unset_le (tabOf zs) ys i; show _ + 1 ≤ _; rw [List.length_map]; omega) rfl (unset_row hi hg) rfl ?_
     refine S.pure tOk zOk rfl rfl rfl ?_
     refine blockK_n ?_
     refine thenK_n ?_
     refine W.region ?_
     refine S.pure tOk zOk rfl rfl rfl ?_
     refine S.pure tOk zOk rfl rfl rfl ?_
     refine loop_n (ys.length - (i + 1)) (by omega) ⟨i + 1, _, _, hi, rfl, _, _, _, _, rfl, rfl, rfl, rfl, rfl, rfl, rfl, inc_i64 (by omega), trivial⟩
    ·skip
     have hg : goneB (tabOf zs) (ys.getD i Stg.z) = false := c7
     rw [unset_f hi hg]
     refine W.skip ?_
     refine blockK_n ?_
     refine thenK_n ?_
     refine W.region ?_
     refine S.pure tOk zOk rfl rfl rfl ?_
     refine S.pure tOk zOk rfl rfl rfl ?_
     refine loop_n (ys.length - (i + 1)) (by omega) ⟨i + 1, _, _, hi, rfl, _, _, _, _, rfl, rfl, rfl, rfl, rfl, rfl, rfl, inc_i64 (by omega), trivial⟩
   ·skip
    have hi := row_ge c6
    obtain rfl : i = ys.length := by omega
    refine W.exit ?_
    refine thenK_e ?_
    refine thenK_e ?_
    refine blockK_x ?_
    refine thenK_n ?_
    refine W.seq ?_
    refine W.seq ?_
    refine W.region ?_
    refine S.pure tOk zOk rfl rfl rfl ?_
    refine S.pure tOk zOk rfl rfl rfl ?_
    refine S.pure tOk zOk rfl rfl rfl ?_
    refine thenK_n ?_
    rw [chgTo_0]
    refine W.block ?_
    refine W.loop (fun k st => ∃ i : Nat, ∃ v : Nat, ∃ al : Bool, i ≤ zs.length ∧ k = zs.length - i ∧ ∃ t b2 r2 m2, st = ⟨t, [] ++ b2, [some ⟨al, v, 10, 38, ((chgTo ys zs i).map chgD)⟩] ++ r2, [tabD (tabOf ys), tabD (tabOf zs)] ++ m2⟩ ∧ holdsL t [(9, .one (.map 0)), (10, .one (.map 1)), (11, .one (.row 0 v 0 ((chgTo ys zs i).map chgD).length)), (59, .one (.d (.vec 2 (zs.map stgD)))), (60, .one (.d (.int .i64 ((zs.map stgD).length : Int)))), (61, .one (.d (.int .i64 (i : Int))))]) (zs.length) ⟨0, _, _, Nat.zero_le _, rfl, _, _, _, _, rfl, rfl, rfl, rfl, rfl, rfl, rfl, trivial⟩ ?_
    rintro k4 _ ⟨i, v, al, f4_0, rfl, t4, bb4, rr4, mm4, rfl, hh4⟩
    refine W.keepR _ _ _ _ _ _ _ hh4 rfl ?_
    refine W.seq ?_
    refine W.region ?_
    refine S.pure tOk zOk rfl rfl rfl ?_
    refine thenK_n ?_
    refine W.seq ?_
    refine W.cond rfl (fun c8 => ?_) (fun c8 => ?_)
    ·skip
     have hi := row_lt c8
     refine W.skip ?_
     refine thenK_n ?_
     refine W.seq ?_
     refine W.block ?_
     refine W.seq ?_
     refine W.region ?_
     refine S.pureE tOk zOk rfl (row_ok hi) (row_at Stg.z hi) rfl ?_
     refine S.pure tOk zOk rfl rfl rfl ?_
     refine S.alloc tOk rfl rfl rfl rfl ?_
     refine S.store tOk rfl rfl rfl rfl rfl rfl rfl rfl ?_
     refine thenK_n ?_
     refine W.seq ?_
     refine W.region ?_
     refine S.pure tOk zOk rfl rfl rfl ?_
     refine S.pure tOk zOk rfl rfl rfl ?_
     refine S.pure tOk zOk rfl rfl rfl ?_
     refine S.lookup tOk keyS (fD := fun v : List UInt8 => DV.one (.str v)) [] (tabOf ys) rfl rfl rfl rfl rfl rfl rfl rfl rfl rfl (show mapV true _ _ = V.tup [_, _] from rfl) ?_
     refine S.pure tOk zOk rfl rfl rfl ?_
     refine S.pure tOk zOk rfl rfl rfl ?_
     refine S.pure tOk zOk rfl rfl rfl ?_
     refine S.pure tOk zOk rfl rfl rfl ?_
     refine S.pure tOk zOk rfl rfl rfl ?_
     refine thenK_n ?_
     refine W.seq ?_
     refine W.region ?_
     refine S.pure tOk zOk rfl rfl rfl ?_
     refine S.pure tOk zOk rfl rfl rfl ?_
     refine S.pure tOk zOk rfl rfl rfl ?_
     refine S.pureG tOk zOk rfl rfl (by repeat first | exact allT_nil | refine allT_cons (fun h => h) ?_ | refine allT_cons (fun h => andl h) ?_ | refine allT_cons (fun h => andl (andl h)) ?_ | refine allT_cons (fun _ => rfl) ?_) (fun _ => rfl) rfl ?_
     refine S.pureG tOk zOk rfl rfl (by repeat first | exact allT_nil | refine allT_cons (fun h => h) ?_ | refine allT_cons (fun h => andl h) ?_ | refine allT_cons (fun h => andl (andl h)) ?_ | refine allT_cons (fun _ => rfl) ?_) (fun _ => rfl) rfl ?_
     refine S.pureG tOk zOk rfl rfl (by repeat first | exact allT_nil | refine allT_cons (fun h => h) ?_ | refine allT_cons (fun h => andl h) ?_ | refine allT_cons (fun h => andl (andl h)) ?_ | refine allT_cons (fun _ => rfl) ?_) (fun _ => rfl) rfl ?_
     refine S.pureG tOk zOk rfl rfl (by repeat first | exact allT_nil | refine allT_cons (fun h => h) ?_ | refine allT_cons (fun h => andl h) ?_ | refine allT_cons (fun h => andl (andl h)) ?_ | refine allT_cons (fun _ => rfl) ?_) (fun _ => rfl) rfl ?_
     refine S.pickOr tOk zOk rfl rfl (by repeat first | exact allT_nil | refine allT_cons (fun h => h) ?_ | refine allT_cons (fun h => andl h) ?_ | refine allT_cons (fun h => andl (andl h)) ?_ | refine allT_cons (fun _ => rfl) ?_) ?_
     refine thenK_n ?_
     refine W.cond rfl (fun c9 => ?_) (fun c9 => ?_)
     ·skip
      have hg : newB (tabOf ys) (zs.getD i Stg.z) = true := c9
      refine W.region ?_
      refine S.pure tOk zOk rfl rfl rfl ?_
      refine S.pure tOk zOk rfl rfl rfl ?_
      refine S.pure tOk zOk rfl rfl rfl ?_
      refine S.slice tOk rfl rfl ?_
      refine S.append tOk rfl rfl rfl rfl rfl rfl rfl rfl rfl rfl rfl rfl (by have hq := chgTo_le ys zs i; show _ + 1 ≤ _; rw [List.length_map]; omega) rfl (set_row hi hg) rfl ?_
      refine S.pure tOk zOk rfl rfl rfl ?_
      refine blockK_n ?_
      refine thenK_n ?_
      refine W.region ?_
      refine S.pure tOk zOk rfl rfl rfl ?_
      refine S.pure tOk zOk rfl rfl rfl ?_
      refine loop_n (zs.length - (i + 1)) (by omega) ⟨i + 1, _, _, hi, rfl, _, _, _, _, rfl, rfl, rfl, rfl, rfl, rfl, inc_i64 (by omega), trivial⟩
     ·skip
      have hg : newB (tabOf ys) (zs.getD i Stg.z) = false := c9
      rw [set_skip hi hg]
      refine W.skip ?_
      refine blockK_n ?_
      refine thenK_n ?_
      refine W.region ?_
      refine S.pure tOk zOk rfl rfl rfl ?_
      refine S.pure tOk zOk rfl rfl rfl ?_
      refine loop_n (zs.length - (i + 1)) (by omega) ⟨i + 1, _, _, hi, rfl, _, _, _, _, rfl, rfl, rfl, rfl, rfl, rfl, inc_i64 (by omega), trivial⟩
    ·skip
     have hi := row_ge c8
     obtain rfl : i = zs.length := by omega
     refine W.exit ?_
     refine thenK_e ?_
     refine thenK_e ?_
     refine blockK_x ?_
     refine thenK_n ?_
     refine W.seq ?_
     refine W.freeze (ri := 0) (q := ⟨_, _, _, _, _⟩) [11] rfl (by intro k hk; simp at hk; subst hk; rfl) ?_
     refine W.region ?_
     refine S.pure tOk zOk rfl rfl rfl ?_
     refine S.pure tOk zOk rfl rfl rfl ?_
     refine S.pure tOk zOk rfl rfl rfl ?_
     refine thenK_n ?_
     refine W.ret ?_
     exact ⟨_, rfl, rfl, LeV.of_force rfl (by rw [cp_3 c2 c4]; rfl)⟩
theorem pc_outref2_ChangesOf (ys zs : List Stg) (hn : ys.length ≤ 2000000) (hs : ∀ s ∈ ys, s.k.length < 4294967000 ∧ s.v.length < 4294967000) (hm : zs.length ≤ 2000000) (ht : ∀ s ∈ zs, s.k.length < 4294967000 ∧ s.v.length < 4294967000) :
  PureCall Tryz.prog J 9 [.one (.d (.vec 2 (ys.map stgD))), .one (.d (.vec 2 (zs.map stgD)))] (.one (.d (.vec 10 ((changesL ys zs).map chgD)))) := by
 refine PureCall.of_body tOk (fn := Tryz.f9) Tryz.func9 (by kernel_rfl) rfl (Nat.le_of_ble_eq_true rfl) (fun E => ?_)
 refine W.seq ?_
 refine W.region ?_
 refine S.pure tOk zOk rfl rfl rfl ?_
 refine thenK_n ?_
 refine W.seq ?_
 refine W.region ?_
 refine S.pure tOk zOk rfl rfl rfl ?_
 refine S.hcallD rfl rfl rfl rfl ((pc_Facts ys (by omega)).frameD [] [] [] rfl rfl rfl rfl rfl rfl rfl rfl rfl) ?_
 refine S.pure tOk zOk rfl rfl rfl ?_
 refine S.hcallD rfl rfl rfl rfl ((pc_Facts zs (by omega)).frameD [] [] [] rfl rfl rfl rfl rfl rfl rfl rfl rfl) ?_
 refine S.pure tOk zOk rfl rfl rfl ?_
 refine S.pure tOk zOk rfl rfl rfl ?_
 refine thenK_n ?_
 refine W.seq ?_
 refine W.region ?_
 refine S.pure tOk zOk rfl rfl rfl ?_
 refine thenK_n ?_
 refine W.seq ?_
 refine W.seq ?_
 refine W.region ?_
 refine S.pure tOk zOk rfl rfl rfl ?_
 refine S.pure tOk zOk rfl rfl rfl ?_
 refine S.pure tOk zOk rfl rfl rfl ?_
 refine thenK_n ?_
 refine W.newRow 7 10 38 rfl ?_
 refine W.block ?_
 refine W.loop (fun k st => ∃ i : Nat, ∃ v : Nat, ∃ al : Bool, i ≤ ys.length ∧ k = ys.length - i ∧ ∃ t b2 r2 m2, st = ⟨t, [] ++ b2, [some ⟨al, v, 10, 38, ((unsetTo (tabOf zs) ys i).map chgD)⟩] ++ r2, [tabD (tabOf ys), tabD (tabOf zs)] ++ m2⟩ ∧ holdsL t [(1, .one (.d (.vec 2 (zs.map stgD)))), (5, .one (.map 0)), (6, .one (.map 1)), (7, .one (.row 0 v 0 ((unsetTo (tabOf zs) ys i).map chgD).length)), (20, .one (.d (.vec 2 (ys.map stgD)))), (21, .one (.d (.int .i64 ((ys.map stgD).length : Int)))), (22, .one (.d (.int .i64 (i : Int))))]) (ys.length) ⟨0, _, _, Nat.zero_le _, rfl, _, _, _, _, rfl, rfl, rfl, rfl, rfl, rfl, rfl, rfl, trivial⟩ ?_
 rintro k0 _ ⟨i, v, al, f0_0, rfl, t0, bb0, rr0, mm0, rfl, hh0⟩
 refine W.keepR _ _ _ _ _ _ _ hh0 rfl ?_
 refine W.seq ?_
 refine W.region ?_
 refine S.pure tOk zOk rfl rfl rfl ?_
 refine thenK_n ?_
 refine W.seq ?_
 refine W.cond rfl (fun c1 => ?_) (fun c1 => ?_)
 ·skip
  have hi := row_lt c1
  refine W.skip ?_
  refine thenK_n ?_
  refine W.seq ?_
  refine W.block ?_
  refine W.seq ?_
  refine W.region ?_
  refine S.pureE tOk zOk rfl (row_ok hi) (row_at Stg.z hi) rfl ?_
  refine S.pure tOk zOk rfl rfl rfl ?_
  refine S.alloc tOk rfl rfl rfl rfl ?_
  refine S.store tOk rfl rfl rfl rfl rfl rfl rfl rfl ?_
  refine thenK_n ?_
  refine W.seq ?_
  refine W.region ?_
  refine S.pure tOk zOk rfl rfl rfl ?_
  refine S.pure tOk zOk rfl rfl rfl ?_
  refine S.pure tOk zOk rfl rfl rfl ?_
  refine S.lookup tOk keyS (fD := fun v : List UInt8 => DV.one (.str v)) [] (tabOf zs) rfl rfl rfl rfl rfl rfl rfl rfl rfl rfl (show mapV true _ _ = V.tup [_, _] from rfl) ?_
  refine S.pure tOk zOk rfl rfl rfl ?_
  refine S.pure tOk zOk rfl rfl rfl ?_
  refine S.pure tOk zOk rfl rfl rfl ?_
  refine S.pure tOk zOk rfl rfl rfl ?_
  refine S.pure tOk zOk rfl rfl rfl ?_
  refine thenK_n ?_
  refine W.seq ?_
  refine W.region ?_
  refine S.pure tOk zOk rfl rfl rfl ?_
  refine S.pure tOk zOk rfl rfl rfl ?_
  refine thenK_n ?_
  refine W.cond rfl (fun c2 => ?_) (fun c2 => ?_)
  ·skip
   have hg : goneB (tabOf zs) (ys.getD i Stg.z) = true := c2
   refine W.region ?_
   refine S.pure tOk zOk rfl rfl rfl ?_
   refine S.pure tOk zOk rfl rfl rfl ?_
   refine S.pure tOk zOk rfl rfl rfl ?_
   refine S.pure tOk zOk rfl rfl rfl ?_
   refine S.pure tOk zOk rfl rfl rfl ?_
   refine S.slice tOk rfl rfl ?_
   refine S.append tOk rfl rfl rfl rfl rfl rfl rfl rfl rfl rfl rfl rfl (by have hq := unset_le (tabOf zs) ys i; show _ + 1 ≤ _; rw [List.length_map]; omega) rfl (unset_row hi hg) rfl ?_
   refine S.pure tOk zOk rfl rfl rfl ?_
   refine blockK_n ?_
   refine thenK_n ?_
   refine W.region ?_
   refine S.pure tOk zOk rfl rfl rfl ?_
   refine S.pure tOk zOk rfl rfl rfl ?_
   refine loop_n (ys.length - (i + 1)) (by omega) ⟨i + 1, _, _, hi, rfl, _, _, _, _, rfl, rfl, rfl, rfl, rfl, rfl, rfl, inc_i64 (by omega), trivial⟩
  ·skip
   have hg : goneB (tabOf zs) (ys.getD i Stg.z) = false := c2
   rw [unset_f hi hg]
   refine W.skip ?_
   refine blockK_n ?_
   refine thenK_n ?_
   refine W.region ?_
   refine S.pure tOk zOk rfl rfl rfl ?_
   refine S.pure tOk zOk rfl rfl rfl ?_
   refine loop_n (ys.length - (i + 1)) (by omega) ⟨i + 1, _, _, hi, rfl, _, _, _, _, rfl, rfl, rfl, rfl, rfl, rfl, rfl, inc_i64 (by omega), trivial⟩
 ·skip
  have hi := row_ge c1
  obtain rfl : i = ys.length := by omega
  refine W.exit ?_
  refine thenK_e ?_
  refine thenK_e ?_
  refine blockK_x ?_
  refine thenK_n ?_
  refine W.seq ?_
  refine W.seq ?_
  refine W.region ?_
  refine S.pure tOk zOk rfl rfl rfl ?_
  refine S.pure tOk zOk rfl rfl rfl ?_
  refine S.pure tOk zOk rfl rfl rfl ?_
  refine thenK_n ?_
  rw [chgTo_0]
  refine W.block ?_
  refine W.loop (fun k st => ∃ i : Nat, ∃ v : Nat, ∃ al : Bool, i ≤ zs.length ∧ k = zs.length - i ∧ ∃ t b2 r2 m2, st = ⟨t, [] ++ b2, [some ⟨al, v, 10, 38, ((chgTo ys zs i).map chgD)⟩] ++ r2, [tabD (tabOf ys), tabD (tabOf zs)] ++ m2⟩ ∧ holdsL t [(5, .one (.map 0)), (6, .one (.map 1)), (7, .one (.row 0 v 0 ((chgTo ys zs i).map chgD).length)), (43, .one (.d (.vec 2 (zs.map stgD)))), (44, .one (.d (.int .i64 ((zs.map stgD).length : Int)))), (45, .one (.d (.int .i64 (i : Int))))]) (zs.length) ⟨0, _, _, Nat.zero_le _, rfl, _, _, _, _, rfl, rfl, rfl, rfl, rfl, rfl, rfl, trivial⟩ ?_
  rintro k2 _ ⟨i, v, al, f2_0, rfl, t2, bb2, rr2, mm2, rfl, hh2⟩
  refine W.keepR _ _ _ _ _ _ _ hh2 rfl ?_
  refine W.seq ?_
  refine W.region ?_
  refine S.pure tOk zOk rfl rfl rfl ?_
  refine thenK_n ?_
  refine W.seq ?_
  refine W.cond rfl (fun c3 => ?_) (fun c3 => ?_)
  ·skip
   have hi := row_lt c3
   refine W.skip ?_
   refine thenK_n ?_
   refine W.seq ?_
   refine W.block ?_
   refine W.seq ?_
   refine W.region ?_
   refine S.pureE tOk zOk rfl (row_ok hi) (row_at Stg.z hi) rfl ?_
   refine S.pure tOk zOk rfl rfl rfl ?_
   refine S.alloc tOk rfl rfl rfl rfl ?_
   refine S.store tOk rfl rfl rfl rfl rfl rfl rfl rfl ?_
   refine thenK_n ?_
   refine W.seq ?_
   refine W.region ?_
   refine S.pure tOk zOk rfl rfl rfl ?_
   refine S.pure tOk zOk rfl rfl rfl ?_
   refine S.pure tOk zOk rfl rfl rfl ?_
   refine S.lookup tOk keyS (fD := fun v : List UInt8 => DV.one (.str v)) [] (tabOf ys) rfl rfl rfl rfl rfl rfl rfl rfl rfl rfl (show mapV true _ _ = V.tup [_, _] from rfl) ?_
   refine S.pure tOk zOk rfl rfl rfl ?_
   refine S.pure tOk zOk rfl rfl rfl ?_
   refine S.pure tOk zOk rfl rfl rfl ?_
   refine S.pure tOk zOk rfl rfl rfl ?_
   refine S.pure tOk zOk rfl rfl rfl ?_
   refine thenK_n ?_
   refine W.seq ?_
   refine W.region ?_
   refine S.pure tOk zOk rfl rfl rfl ?_
   refine S.pure tOk zOk rfl rfl rfl ?_
   refine S.pure tOk zOk rfl rfl rfl ?_
   refine S.pureG tOk zOk rfl rfl (by repeat first | exact allT_nil | refine allT_cons (fun h => h) ?_ | refine allT_cons (fun h => andl h) ?_ | refine allT_cons (fun h => andl (andl h)) ?_ | refine allT_cons (fun _ => rfl) ?_) (fun _ => rfl) rfl ?_
   refine S.pureG tOk zOk rfl rfl (by repeat first | exact allT_nil | refine allT_cons (fun h => h) ?_ | refine allT_cons (fun h => andl h) ?_ | refine allT_cons (fun h => andl (andl h)) ?_ | refine allT_cons (fun _ => rfl) ?_) (fun _ => rfl) rfl ?_
   refine S.pureG tOk zOk rfl rfl (by repeat first | exact allT_nil | refine allT_cons (fun h => h) ?_ | refine allT_cons (fun h => andl h) ?_ | refine allT_cons (fun h => andl (andl h)) ?_ | refine allT_cons (fun _ => rfl) ?_) (fun _ => rfl) rfl ?_
   refine S.pureG tOk zOk rfl rfl (by repeat first | exact allT_nil | refine allT_cons (fun h => h) ?_ | refine allT_cons (fun h => andl h) ?_ | refine allT_cons (fun h => andl (andl h)) ?_ | refine allT_cons (fun _ => rfl) ?_) (fun _ => rfl) rfl ?_
   refine S.pickOr tOk zOk rfl rfl (by repeat first | exact allT_nil | refine allT_cons (fun h => h) ?_ | refine allT_cons (fun h => andl h) ?_ | refine allT_cons (fun h => andl (andl h)) ?_ | refine allT_cons (fun _ => rfl) ?_) ?_
   refine thenK_n ?_
   refine W.cond rfl (fun c4 => ?_) (fun c4 => ?_)
   ·skip
    have hg : newB (tabOf ys) (zs.getD i Stg.z) = true := c4
    refine W.region ?_
    refine S.pure tOk zOk rfl rfl rfl ?_
    refine S.pure tOk zOk rfl rfl rfl ?_
    refine S.pure tOk zOk rfl rfl rfl ?_
    refine S.slice tOk rfl rfl ?_
    refine S.append tOk rfl rfl rfl rfl rfl rfl rfl rfl rfl rfl rfl rfl (by have hq := chgTo_le ys zs i; show _ + 1 ≤ _; rw [List.length_map]; omega) rfl (set_row hi hg) rfl ?_
    refine S.pure tOk zOk rfl rfl rfl ?_
    refine blockK_n ?_
    refine thenK_n ?_
    refine W.region ?_
    refine S.pure tOk zOk rfl rfl rfl ?_
    refine S.pure tOk zOk rfl rfl rfl ?_
    refine loop_n (zs.length - (i + 1)) (by omega) ⟨i + 1, _, _, hi, rfl, _, _, _, _, rfl, rfl, rfl, rfl, rfl, rfl, inc_i64 (by omega), trivial⟩
   ·skip
    have hg : newB (tabOf ys) (zs.getD i Stg.z) = false := c4
    rw [set_skip hi hg]
    refine W.skip ?_
    refine blockK_n ?_
    refine thenK_n ?_
    refine W.region ?_
    refine S.pure tOk zOk rfl rfl rfl ?_
    refine S.pure tOk zOk rfl rfl rfl ?_
    refine loop_n (zs.length - (i + 1)) (by omega) ⟨i + 1, _, _, hi, rfl, _, _, _, _, rfl, rfl, rfl, rfl, rfl, rfl, inc_i64 (by omega), trivial⟩
  ·skip
   have hi := row_ge c3
   obtain rfl : i = zs.length := by omega
   refine W.exit ?_
   refine thenK_e ?_
   refine thenK_e ?_
   refine blockK_x ?_
   refine thenK_n ?_
   refine W.seq ?_
   refine W.freeze (ri := 0) (q := ⟨_, _, _, _, _⟩) [7] rfl (by intro k hk; simp at hk; subst hk; rfl) ?_
   refine W.region ?_
   refine S.pure tOk zOk rfl rfl rfl ?_
   refine S.pure tOk zOk rfl rfl rfl ?_
   refine thenK_n ?_
   refine W.ret ?_
   exact ⟨_, rfl, rfl, LeV.refl _⟩
theorem chg_at {l : List Chg} {i : Nat} (h : i < l.length) : V.one (.eptr ((l.map chgD).getD ((i : Int)).toNat [])) = V.one (.eptr (chgD (l.getD i ⟨0, [], []⟩))) := row_at (f := chgD) ⟨0, [], []⟩ h
theorem pc_EqualC (l : List Chg) (hl : l.length ≤ 1000000000) :
  PureCall Tryz.prog J 8 [.one (.d (.vec 10 (l.map chgD))), .one (.d (.vec 10 (l.map chgD)))] (.one (.d (.bool true))) := by
 refine PureCall.of_body tOk (fn := Tryz.f8) Tryz.func8 (by kernel_rfl) rfl (Nat.le_of_ble_eq_true rfl) (fun E => ?_)
 refine W.seq ?_
 refine W.region ?_
 refine S.pure tOk zOk rfl rfl rfl ?_
 refine thenK_n ?_
 refine W.seq ?_
 refine W.seq ?_
 refine W.region ?_
 refine S.pure tOk zOk rfl rfl rfl ?_
 refine S.pure tOk zOk rfl rfl rfl ?_
 refine S.pure tOk zOk rfl rfl rfl ?_
 refine S.pure tOk zOk rfl rfl rfl ?_
 refine S.pure tOk zOk rfl rfl rfl ?_
 refine thenK_n ?_
 refine W.cond rfl (fun c1 => ?_) (fun c1 => ?_)
 · exact absurd c1 (by simp)
 ·skip
  refine W.skip ?_
  refine thenK_n ?_
  refine W.seq ?_
  refine W.seq ?_
  refine W.region ?_
  refine S.pure tOk zOk rfl rfl rfl ?_
  refine S.pure tOk zOk rfl rfl rfl ?_
  refine S.pure tOk zOk rfl rfl rfl ?_
  refine thenK_n ?_
  refine W.block ?_
  refine W.loop (fun k st => ∃ i : Nat, i ≤ l.length ∧ k = l.length - i ∧ ∃ t b2 r2 m2, st = ⟨t, [] ++ b2, [] ++ r2, [] ++ m2⟩ ∧ holdsL t [(0, .one (.d (.vec 10 (l.map chgD)))), (1, .one (.d (.vec 10 (l.map chgD)))), (12, .one (.d (.int .i64 ((l.map chgD).length : Int)))), (13, .one (.d (.int .i64 (i : Int))))]) (l.length) ⟨0, Nat.zero_le _, rfl, _, _, _, _, rfl, rfl, rfl, rfl, rfl, trivial⟩ ?_
  rintro k0 _ ⟨i, f0_0, rfl, t0, bb0, rr0, mm0, rfl, hh0⟩
  refine W.keepR _ _ _ _ _ _ _ hh0 rfl ?_
  refine W.seq ?_
  refine W.region ?_
  refine S.pure tOk zOk rfl rfl rfl ?_
  refine thenK_n ?_
  refine W.seq ?_
  refine W.cond rfl (fun c2 => ?_) (fun c2 => ?_)
  ·skip
   have hi := row_lt c2
   refine W.skip ?_
   refine thenK_n ?_
   refine W.seq ?_
   refine W.block ?_
   refine W.seq ?_
   refine W.region ?_
   refine S.pure tOk zOk rfl rfl rfl ?_
   refine S.pure tOk zOk rfl rfl rfl ?_
   refine thenK_n ?_
   refine W.seq ?_
   refine W.regionD mixed (by kernel_rfl) ?_
   refine D.pure tOk zOk rfl rfl rfl rfl ?_
   refine D.pure tOk zOk rfl rfl rfl rfl ?_
   refine D.pureE tOk zOk rfl rfl (row_ok hi) (chg_at hi) rfl ?_
   refine D.pure tOk zOk rfl rfl rfl rfl ?_
   refine D.pure tOk zOk rfl rfl rfl rfl ?_
   refine D.pure tOk zOk rfl rfl rfl rfl ?_
   refine D.pureE tOk zOk rfl rfl (row_ok hi) (chg_at hi) rfl ?_
   refine D.pure tOk zOk rfl rfl rfl rfl ?_
   refine D.pure tOk zOk rfl rfl rfl rfl ?_
   refine thenK_n ?_
   refine W.cond rfl (fun c3 => ?_) (fun c3 => ?_)
   · exact absurd c3 (by simp)
   ·skip
    refine W.skip ?_
    refine blockK_n ?_
    refine thenK_n ?_
    refine W.region ?_
    refine S.pure tOk zOk rfl rfl rfl ?_
    refine S.pure tOk zOk rfl rfl rfl ?_
    refine loop_n (l.length - (i + 1)) (by omega) ⟨i + 1, hi, rfl, _, _, _, _, rfl, rfl, rfl, rfl, inc_i64 (by omega), trivial⟩
  ·skip
   refine W.exit ?_
   refine thenK_e ?_
   refine thenK_e ?_
   refine blockK_x ?_
   refine thenK_n ?_
   refine W.seq ?_
   refine W.region ?_
   refine S.pure tOk zOk rfl rfl rfl ?_
   refine thenK_n ?_
   refine W.ret ?_
   exact ⟨_, rfl, rfl, LeV.refl _⟩
theorem pc_migrate_ruleWords  :
  PureCall Tryz.prog J 22 [] (.one (.d (.vec 1 (ruleWs.map fun x => [.str x])))) := by
 refine PureCall.of_body tOk (fn := Tryz.f22) Tryz.func22 (by kernel_rfl) rfl (Nat.le_of_ble_eq_true rfl) (fun E => ?_)
 refine W.seq ?_
 refine W.region ?_
 refine S.pure tOk zOk rfl rfl rfl ?_
 refine thenK_n ?_
 refine W.seq ?_
 refine W.region ?_
 refine S.slice tOk rfl rfl ?_
 refine S.pure tOk zOk rfl rfl rfl ?_
 refine thenK_n ?_
 refine W.ret ?_
 exact ⟨_, rfl, rfl, LeV.refl _⟩
theorem pc_IndexS (l : List (List UInt8)) (x : List UInt8) (hl : l.length ≤ 1000000000) :
  PureCall Tryz.prog J 21 [.one (.d (.vec 1 (l.map fun x => [.str x]))), .one (.d (.str x))] (.one (.d (.int .i64 (idxOf (fun y => x == y) l)))) := by
 refine PureCall.of_body tOk (fn := Tryz.f21) Tryz.func21 (by kernel_rfl) rfl (Nat.le_of_ble_eq_true rfl) (fun E => ?_)
 refine W.seq ?_
 refine W.region ?_
 refine S.pure tOk zOk rfl rfl rfl ?_
 refine thenK_n ?_
 refine W.seq ?_
 refine W.seq ?_
 refine W.region ?_
 refine S.pure tOk zOk rfl rfl rfl ?_
 refine S.pure tOk zOk rfl rfl rfl ?_
 refine S.pure tOk zOk rfl rfl rfl ?_
 refine thenK_n ?_
 refine W.block ?_
 refine W.loop (fun k st => ∃ i : Nat, i ≤ l.length ∧ (l.take i).any (fun y => x == y) = false ∧ k = l.length - i ∧ ∃ t b2 r2 m2, st = ⟨t, [] ++ b2, [] ++ r2, [] ++ m2⟩ ∧ holdsL t [(0, .one (.d (.vec 1 (l.map fun x => [.str x])))), (1, .one (.d (.str x))), (7, .one (.d (.int .i64 ((l.map fun x => ([.str x] : List D)).length : Int)))), (8, .one (.d (.int .i64 (i : Int))))]) (l.length) ⟨0, Nat.zero_le _, by simp, rfl, _, _, _, _, rfl, rfl, rfl, rfl, rfl, trivial⟩ ?_
 rintro k0 _ ⟨i, f0_0, f0_1, rfl, t0, bb0, rr0, mm0, rfl, hh0⟩
 refine W.keepR _ _ _ _ _ _ _ hh0 rfl ?_
 refine W.seq ?_
 refine W.region ?_
 refine S.pure tOk zOk rfl rfl rfl ?_
 refine thenK_n ?_
 refine W.seq ?_
 refine W.cond rfl (fun c1 => ?_) (fun c1 => ?_)
 ·skip
  have hi := row_lt c1
  refine W.skip ?_
  refine thenK_n ?_
  refine W.seq ?_
  refine W.block ?_
  refine W.seq ?_
  refine W.region ?_
  refine S.pure tOk zOk rfl rfl rfl ?_
  refine S.pure tOk zOk rfl rfl rfl ?_
  refine thenK_n ?_
  refine W.seq ?_
  refine W.region ?_
  refine S.pure tOk zOk rfl rfl rfl ?_
  refine S.pure tOk zOk rfl rfl rfl ?_
  refine S.pure tOk zOk rfl rfl rfl ?_
  refine S.pureE tOk zOk rfl (row_ok hi) (row_at [] hi) rfl ?_
  refine S.pure tOk zOk rfl rfl rfl ?_
  refine S.pure tOk zOk rfl rfl rfl ?_
  refine thenK_n ?_
  refine W.cond rfl (fun c2 => ?_) (fun c2 => ?_)
  ·skip
   refine W.seq ?_
   refine W.region ?_
   refine S.pure tOk zOk rfl rfl rfl ?_
   refine S.pure tOk zOk rfl rfl rfl ?_
   refine thenK_n ?_
   refine W.ret ?_
   refine blockK_r ?_
   refine thenK_r ?_
   refine thenK_r ?_
   refine blockK_r ?_
   refine thenK_r ?_
   exact ⟨_, rfl, rfl, LeV.of_eq (congrArg (fun x => V.one (C.d (D.int .i64 x))) (idxOf_at (d := []) hi f0_1 c2).symm)⟩
  ·skip
   refine W.skip ?_
   refine blockK_n ?_
   refine thenK_n ?_
   refine W.region ?_
   refine S.pure tOk zOk rfl rfl rfl ?_
   refine S.pure tOk zOk rfl rfl rfl ?_
   refine loop_n (l.length - (i + 1)) (by omega) ⟨i + 1, hi, any_take (d := []) hi f0_1 c2, rfl, _, _, _, _, rfl, rfl, rfl, rfl, inc_i64 (by omega), trivial⟩
 ·skip
  have hi := row_ge c1
  refine W.exit ?_
  refine thenK_e ?_
  refine thenK_e ?_
  refine blockK_x ?_
  refine thenK_n ?_
  refine W.seq ?_
  refine W.region ?_
  refine S.pure tOk zOk rfl rfl rfl ?_
  refine thenK_n ?_
  refine W.ret ?_
  exact ⟨_, rfl, rfl, LeV.of_eq (congrArg (fun x => V.one (C.d (D.int .i64 x))) (idxOf_none (any_end hi f0_1)).symm)⟩
theorem pc_idx6 : PureCall Tryz.prog J 21 [.one (.d (.vec 1 (ruleWs.map fun x => [.str x]))), .one (.d (.str [100, 114, 111, 112]))] (.one (.d (.int .i64 6))) := by
  have h := pc_IndexS ruleWs [100, 114, 111, 112] (by decide)
  rw [show idxOf (fun y => [100, 114, 111, 112] == y) ruleWs = 6 from by decide] at h
  exact h
theorem pc_cutA : PureCall Tryz.prog J 20 [.one (.d (.str [100, 114, 111, 112, 32, 97, 47, 98])), .one (.d (.str [32]))] (.tup [.one (.d (.str [100, 114, 111, 112])), .one (.d (.str [97, 47, 98])), .one (.d (.bool true))]) := by
  have h := pc_Cut [100, 114, 111, 112, 32, 97, 47, 98] [32] (by decide)
  rw [show Lib.cut [100, 114, 111, 112, 32, 97, 47, 98] [32] = ([100, 114, 111, 112], [97, 47, 98], true) from by decide] at h
  exact h
theorem pc_cutB : PureCall Tryz.prog J 20 [.one (.d (.str [97, 47, 98])), .one (.d (.str [32]))] (.tup [.one (.d (.str [97, 47, 98])), .one (.d (.str [])), .one (.d (.bool false))]) := by
  have h := pc_Cut [97, 47, 98] [32] (by decide)
  rw [show Lib.cut [97, 47, 98] [32] = ([97, 47, 98], [], false) from by decide] at h
  exact h
theorem pc_uses6  :
  PureCall Tryz.prog J 23 [.one (.d (.int .i64 6))] (.tup [.one (.d (.bool false)), .one (.d (.bool false)), .one (.d (.bool false))]) := by
 refine PureCall.of_body tOk (fn := Tryz.f23) Tryz.func23 (by kernel_rfl) rfl (Nat.le_of_ble_eq_true rfl) (fun E => ?_)
 refine W.seq ?_
 refine W.region ?_
 refine S.pure tOk zOk rfl rfl rfl ?_
 refine S.pure tOk zOk rfl rfl rfl ?_
 refine S.pure tOk zOk rfl rfl rfl ?_
 refine thenK_n ?_
 refine W.seq ?_
 refine W.seq ?_
 refine W.region ?_
 refine S.pure tOk zOk rfl rfl rfl ?_
 refine thenK_n ?_
 refine W.block ?_
 refine W.seq ?_
 refine W.seq ?_
 refine W.region ?_
 refine S.pure tOk zOk rfl rfl rfl ?_
 refine S.pure tOk zOk rfl rfl rfl ?_
 refine thenK_n ?_
 refine W.condF rfl rfl ?_
 refine W.seq ?_
 refine W.region ?_
 refine S.pure tOk zOk rfl rfl rfl ?_
 refine S.pure tOk zOk rfl rfl rfl ?_
 refine thenK_n ?_
 refine W.condF rfl rfl ?_
 refine W.region ?_
 refine S.pure tOk zOk rfl rfl rfl ?_
 refine S.pure tOk zOk rfl rfl rfl ?_
 refine thenK_n ?_
 refine W.condF rfl rfl ?_
 refine W.seq ?_
 refine W.seq ?_
 refine W.region ?_
 refine S.pure tOk zOk rfl rfl rfl ?_
 refine S.pure tOk zOk rfl rfl rfl ?_
 refine thenK_n ?_
 refine W.condF rfl rfl ?_
 refine W.region ?_
 refine S.pure tOk zOk rfl rfl rfl ?_
 refine S.pure tOk zOk rfl rfl rfl ?_
 refine thenK_n ?_
 refine W.condF rfl rfl ?_
 refine W.seq ?_
 refine W.seq ?_
 refine W.region ?_
 refine S.pure tOk zOk rfl rfl rfl ?_
 refine S.pure tOk zOk rfl rfl rfl ?_
 refine thenK_n ?_
 refine W.condF rfl rfl ?_
 refine W.region ?_
 refine S.pure tOk zOk rfl rfl rfl ?_
 refine S.pure tOk zOk rfl rfl rfl ?_
 refine thenK_n ?_
 refine W.condF rfl rfl ?_
 refine W.skip ?_
 refine blockK_n ?_
 refine thenK_n ?_
 refine W.seq ?_
 refine W.region ?_
 refine S.pure tOk zOk rfl rfl rfl ?_
 refine S.pure tOk zOk rfl rfl rfl ?_
 refine S.pure tOk zOk rfl rfl rfl ?_
 refine thenK_n ?_
 refine W.ret ?_
 exact ⟨_, rfl, rfl, LeV.refl _⟩
theorem pc_migrate_below (a b : List UInt8) (hb : b.length ≤ 1000000000) :
  PureCall Tryz.prog J 43 [.one (.d (.str a)), .one (.d (.str b))] (.one (.d (.bool (Lib.hasPrefix a (b ++ [47]))))) := by
 refine PureCall.of_body tOk (fn := Tryz.f43) Tryz.func43 (by kernel_rfl) rfl (Nat.le_of_ble_eq_true rfl) (fun E => ?_)
 refine W.seq ?_
 refine W.region ?_
 refine S.pure tOk zOk rfl rfl rfl ?_
 refine thenK_n ?_
 refine W.seq ?_
 refine W.region ?_
 refine S.pure tOk zOk rfl rfl rfl ?_
 refine S.pure tOk zOk rfl rfl rfl ?_
 refine S.pure tOk zOk rfl (cat_ok (by simp [-List.getD_eq_getElem?_getD]; omega)) rfl ?_
 refine S.call rfl rfl rfl rfl rfl (pc_HasPrefix a (b ++ [47])) ?_
 refine S.pure tOk zOk rfl rfl rfl ?_
 refine thenK_n ?_
 refine W.ret ?_
 exact ⟨_, rfl, rfl, LeV.refl _⟩
theorem pc_CheckRule6  :
  PureCall Tryz.prog J 27 [.agg [.d (.int .i64 6), .d (.str [97, 47, 98]), .d (.str []), .d (.str []), .d (.str [])]] (.one (.d (.int .i64 0))) := by
 refine PureCall.of_body tOk (fn := Tryz.f27) Tryz.func27 (by kernel_rfl) rfl (Nat.le_of_ble_eq_true rfl) (fun E => ?_)
 refine W.seq ?_
 refine W.region ?_
 refine S.box rfl rfl rfl rfl ?_
 refine S.pure tOk zOk rfl rfl rfl ?_
 refine thenK_n ?_
 refine W.seq ?_
 refine W.seq ?_
 refine W.region ?_
 refine S.pure tOk zOk rfl rfl rfl ?_
 refine S.pure tOk zOk rfl rfl rfl ?_
 refine S.pure tOk zOk rfl rfl rfl ?_
 refine S.pure tOk zOk rfl rfl rfl ?_
 refine S.pureG tOk zOk rfl rfl (by repeat first | exact allT_nil | refine allT_cons (fun h => h) ?_ | refine allT_cons (fun h => andl h) ?_ | refine allT_cons (fun h => andl (andl h)) ?_ | refine allT_cons (fun _ => rfl) ?_) (fun _ => rfl) rfl ?_
 refine S.pureG tOk zOk rfl rfl (by repeat first | exact allT_nil | refine allT_cons (fun h => h) ?_ | refine allT_cons (fun h => andl h) ?_ | refine allT_cons (fun h => andl (andl h)) ?_ | refine allT_cons (fun _ => rfl) ?_) (fun _ => rfl) rfl ?_
 refine S.pureG tOk zOk rfl rfl (by repeat first | exact allT_nil | refine allT_cons (fun h => h) ?_ | refine allT_cons (fun h => andl h) ?_ | refine allT_cons (fun h => andl (andl h)) ?_ | refine allT_cons (fun _ => rfl) ?_) (fun _ => rfl) rfl ?_
 refine S.pickOr tOk zOk rfl rfl (by repeat first | exact allT_nil | refine allT_cons (fun h => h) ?_ | refine allT_cons (fun h => andl h) ?_ | refine allT_cons (fun h => andl (andl h)) ?_ | refine allT_cons (fun _ => rfl) ?_) ?_
 refine thenK_n ?_
 refine W.condF rfl rfl ?_
 refine W.skip ?_
 refine thenK_n ?_
 refine W.seq ?_
 refine W.region ?_
 refine S.pure tOk zOk rfl rfl rfl ?_
 refine S.pure tOk zOk rfl rfl rfl ?_
 refine S.call rfl rfl rfl rfl rfl (pc_uses6) ?_
 refine S.pure tOk zOk rfl rfl rfl ?_
 refine S.pure tOk zOk rfl rfl rfl ?_
 refine S.pure tOk zOk rfl rfl rfl ?_
 refine S.pure tOk zOk rfl rfl rfl ?_
 refine S.pure tOk zOk rfl rfl rfl ?_
 refine S.pure tOk zOk rfl rfl rfl ?_
 refine S.pure tOk zOk rfl rfl rfl ?_
 refine thenK_n ?_
 refine W.seq ?_
 refine W.block ?_
 refine W.seq ?_
 refine W.region ?_
 refine S.pure tOk zOk rfl rfl rfl ?_
 refine S.pure tOk zOk rfl rfl rfl ?_
 refine S.call rfl rfl rfl rfl rfl (pc_pathAB) ?_
 refine S.pure tOk zOk rfl rfl rfl ?_
 refine S.pure tOk zOk rfl rfl rfl ?_
 refine S.pureG tOk zOk rfl rfl (by repeat first | exact allT_nil | refine allT_cons (fun h => h) ?_ | refine allT_cons (fun h => andl h) ?_ | refine allT_cons (fun h => andl (andl h)) ?_ | refine allT_cons (fun _ => rfl) ?_) (fun _ => rfl) rfl ?_
 refine S.pureG tOk zOk rfl rfl (by repeat first | exact allT_nil | refine allT_cons (fun h => h) ?_ | refine allT_cons (fun h => andl h) ?_ | refine allT_cons (fun h => andl (andl h)) ?_ | refine allT_cons (fun _ => rfl) ?_) (fun _ => rfl) rfl ?_
 refine S.pureG tOk zOk rfl rfl (by repeat first | exact allT_nil | refine allT_cons (fun h => h) ?_ | refine allT_cons (fun h => andl h) ?_ | refine allT_cons (fun h => andl (andl h)) ?_ | refine allT_cons (fun _ => rfl) ?_) (fun _ => rfl) rfl ?_
 refine S.pureG tOk zOk rfl rfl (by repeat first | exact allT_nil | refine allT_cons (fun h => h) ?_ | refine allT_cons (fun h => andl h) ?_ | refine allT_cons (fun h => andl (andl h)) ?_ | refine allT_cons (fun _ => rfl) ?_) (fun _ => rfl) rfl ?_
 refine S.callG rfl rfl rfl rfl (by repeat first | exact allT_nil | refine allT_cons (fun h => h) ?_ | refine allT_cons (fun h => andl h) ?_ | refine allT_cons (fun h => andl (andl h)) ?_ | refine allT_cons (fun _ => rfl) ?_) rfl rfl (fun _ => pc_ver_IsPath [] (by decide)) ?_
 refine S.pureG tOk zOk rfl rfl (by repeat first | exact allT_nil | refine allT_cons (fun h => h) ?_ | refine allT_cons (fun h => andl h) ?_ | refine allT_cons (fun h => andl (andl h)) ?_ | refine allT_cons (fun _ => rfl) ?_) (fun _ => rfl) rfl ?_
 refine S.pickAndG tOk zOk rfl rfl rfl (by repeat first | exact allT_nil | refine allT_cons (fun h => h) ?_ | refine allT_cons (fun h => andl h) ?_ | refine allT_cons (fun h => andl (andl h)) ?_ | refine allT_cons (fun _ => rfl) ?_) (by repeat first | exact allT_nil | refine allT_cons (fun h => h) ?_ | refine allT_cons (fun h => andl h) ?_ | refine allT_cons (fun h => andl (andl h)) ?_ | refine allT_cons (fun _ => rfl) ?_) ?_
 refine S.pickOr tOk zOk rfl rfl (by repeat first | exact allT_nil | refine allT_cons (fun h => h) ?_ | refine allT_cons (fun h => andl h) ?_ | refine allT_cons (fun h => andl (andl h)) ?_ | refine allT_cons (fun _ => rfl) ?_) ?_
 refine S.pure tOk zOk rfl rfl rfl ?_
 refine thenK_n ?_
 refine W.condF rfl rfl ?_
 refine W.seq ?_
 refine W.region ?_
 refine S.pure tOk zOk rfl rfl rfl ?_
 refine S.pure tOk zOk rfl rfl rfl ?_
 refine S.pure tOk zOk rfl rfl rfl ?_
 refine S.pureG tOk zOk rfl rfl (by repeat first | exact allT_nil | refine allT_cons (fun h => h) ?_ | refine allT_cons (fun h => andl h) ?_ | refine allT_cons (fun h => andl (andl h)) ?_ | refine allT_cons (fun _ => rfl) ?_) (fun _ => rfl) rfl ?_
 refine S.pureG tOk zOk rfl rfl (by repeat first | exact allT_nil | refine allT_cons (fun h => h) ?_ | refine allT_cons (fun h => andl h) ?_ | refine allT_cons (fun h => andl (andl h)) ?_ | refine allT_cons (fun _ => rfl) ?_) (fun _ => rfl) rfl ?_
 refine S.pureG tOk zOk rfl rfl (by repeat first | exact allT_nil | refine allT_cons (fun h => h) ?_ | refine allT_cons (fun h => andl h) ?_ | refine allT_cons (fun h => andl (andl h)) ?_ | refine allT_cons (fun _ => rfl) ?_) (fun _ => rfl) rfl ?_
 refine S.pickAnd tOk zOk rfl rfl (by repeat first | exact allT_nil | refine allT_cons (fun h => h) ?_ | refine allT_cons (fun h => andl h) ?_ | refine allT_cons (fun h => andl (andl h)) ?_ | refine allT_cons (fun _ => rfl) ?_) ?_
 refine S.pure tOk zOk rfl rfl rfl ?_
 refine S.pureG tOk zOk rfl rfl (by repeat first | exact allT_nil | refine allT_cons (fun h => h) ?_ | refine allT_cons (fun h => andl h) ?_ | refine allT_cons (fun h => andl (andl h)) ?_ | refine allT_cons (fun _ => rfl) ?_) (fun _ => rfl) rfl ?_
 refine S.pureG tOk zOk rfl rfl (by repeat first | exact allT_nil | refine allT_cons (fun h => h) ?_ | refine allT_cons (fun h => andl h) ?_ | refine allT_cons (fun h => andl (andl h)) ?_ | refine allT_cons (fun _ => rfl) ?_) (fun _ => rfl) rfl ?_
 refine S.pureG tOk zOk rfl rfl (by repeat first | exact allT_nil | refine allT_cons (fun h => h) ?_ | refine allT_cons (fun h => andl h) ?_ | refine allT_cons (fun h => andl (andl h)) ?_ | refine allT_cons (fun _ => rfl) ?_) (fun _ => rfl) rfl ?_
 refine S.pureG tOk zOk rfl rfl (by repeat first | exact allT_nil | refine allT_cons (fun h => h) ?_ | refine allT_cons (fun h => andl h) ?_ | refine allT_cons (fun h => andl (andl h)) ?_ | refine allT_cons (fun _ => rfl) ?_) (fun _ => rfl) rfl ?_
 refine S.pureG tOk zOk rfl rfl (by repeat first | exact allT_nil | refine allT_cons (fun h => h) ?_ | refine allT_cons (fun h => andl h) ?_ | refine allT_cons (fun h => andl (andl h)) ?_ | refine allT_cons (fun _ => rfl) ?_) (fun _ => rfl) rfl ?_
 refine S.pureG tOk zOk rfl rfl (by repeat first | exact allT_nil | refine allT_cons (fun h => h) ?_ | refine allT_cons (fun h => andl h) ?_ | refine allT_cons (fun h => andl (andl h)) ?_ | refine allT_cons (fun _ => rfl) ?_) (fun _ => rfl) rfl ?_
 refine S.pickAndG tOk zOk rfl rfl rfl (by repeat first | exact allT_nil | refine allT_cons (fun h => h) ?_ | refine allT_cons (fun h => andl h) ?_ | refine allT_cons (fun h => andl (andl h)) ?_ | refine allT_cons (fun _ => rfl) ?_) (by repeat first | exact allT_nil | refine allT_cons (fun h => h) ?_ | refine allT_cons (fun h => andl h) ?_ | refine allT_cons (fun h => andl (andl h)) ?_ | refine allT_cons (fun _ => rfl) ?_) ?_
 refine S.pickOr tOk zOk rfl rfl (by repeat first | exact allT_nil | refine allT_cons (fun h => h) ?_ | refine allT_cons (fun h => andl h) ?_ | refine allT_cons (fun h => andl (andl h)) ?_ | refine allT_cons (fun _ => rfl) ?_) ?_
 refine S.pure tOk zOk rfl rfl rfl ?_
 refine S.pureG tOk zOk rfl rfl (by repeat first | exact allT_nil | refine allT_cons (fun h => h) ?_ | refine allT_cons (fun h => andl h) ?_ | refine allT_cons (fun h => andl (andl h)) ?_ | refine allT_cons (fun _ => rfl) ?_) (fun _ => rfl) rfl ?_
 refine S.pureG tOk zOk rfl rfl (by repeat first | exact allT_nil | refine allT_cons (fun h => h) ?_ | refine allT_cons (fun h => andl h) ?_ | refine allT_cons (fun h => andl (andl h)) ?_ | refine allT_cons (fun _ => rfl) ?_) (fun _ => rfl) rfl ?_
 refine S.pureG tOk zOk rfl rfl (by repeat first | exact allT_nil | refine allT_cons (fun h => h) ?_ | refine allT_cons (fun h => andl h) ?_ | refine allT_cons (fun h => andl (andl h)) ?_ | refine allT_cons (fun _ => rfl) ?_) (fun _ => rfl) rfl ?_
 refine S.pureG tOk zOk rfl rfl (by repeat first | exact allT_nil | refine allT_cons (fun h => h) ?_ | refine allT_cons (fun h => andl h) ?_ | refine allT_cons (fun h => andl (andl h)) ?_ | refine allT_cons (fun _ => rfl) ?_) (fun _ => rfl) rfl ?_
 refine S.pureG tOk zOk rfl rfl (by repeat first | exact allT_nil | refine allT_cons (fun h => h) ?_ | refine allT_cons (fun h => andl h) ?_ | refine allT_cons (fun h => andl (andl h)) ?_ | refine allT_cons (fun _ => rfl) ?_) (fun _ => rfl) rfl ?_
 refine S.pureG tOk zOk rfl rfl (by repeat first | exact allT_nil | refine allT_cons (fun h => h) ?_ | refine allT_cons (fun h => andl h) ?_ | refine allT_cons (fun h => andl (andl h)) ?_ | refine allT_cons (fun _ => rfl) ?_) (fun _ => rfl) rfl ?_
 refine S.pickAndG tOk zOk rfl rfl rfl (by repeat first | exact allT_nil | refine allT_cons (fun h => h) ?_ | refine allT_cons (fun h => andl h) ?_ | refine allT_cons (fun h => andl (andl h)) ?_ | refine allT_cons (fun _ => rfl) ?_) (by repeat first | exact allT_nil | refine allT_cons (fun h => h) ?_ | refine allT_cons (fun h => andl h) ?_ | refine allT_cons (fun h => andl (andl h)) ?_ | refine allT_cons (fun _ => rfl) ?_) ?_
 refine S.pickOr tOk zOk rfl rfl (by repeat first | exact allT_nil | refine allT_cons (fun h => h) ?_ | refine allT_cons (fun h => andl h) ?_ | refine allT_cons (fun h => andl (andl h)) ?_ | refine allT_cons (fun _ => rfl) ?_) ?_
 refine S.pure tOk zOk rfl rfl rfl ?_
 refine S.pureG tOk zOk rfl rfl (by repeat first | exact allT_nil | refine allT_cons (fun h => h) ?_ | refine allT_cons (fun h => andl h) ?_ | refine allT_cons (fun h => andl (andl h)) ?_ | refine allT_cons (fun _ => rfl) ?_) (fun _ => rfl) rfl ?_
 refine S.pureG tOk zOk rfl rfl (by repeat first | exact allT_nil | refine allT_cons (fun h => h) ?_ | refine allT_cons (fun h => andl h) ?_ | refine allT_cons (fun h => andl (andl h)) ?_ | refine allT_cons (fun _ => rfl) ?_) (fun _ => rfl) rfl ?_
 refine S.callG rfl rfl rfl rfl (by repeat first | exact allT_nil | refine allT_cons (fun h => h) ?_ | refine allT_cons (fun h => andl h) ?_ | refine allT_cons (fun h => andl (andl h)) ?_ | refine allT_cons (fun _ => rfl) ?_) rfl rfl (fun _ => pc_valE) ?_
 refine S.pureG tOk zOk rfl rfl (by repeat first | exact allT_nil | refine allT_cons (fun h => h) ?_ | refine allT_cons (fun h => andl h) ?_ | refine allT_cons (fun h => andl (andl h)) ?_ | refine allT_cons (fun _ => rfl) ?_) (fun _ => rfl) rfl ?_
 refine S.pickOr tOk zOk rfl rfl (by repeat first | exact allT_nil | refine allT_cons (fun h => h) ?_ | refine allT_cons (fun h => andl h) ?_ | refine allT_cons (fun h => andl (andl h)) ?_ | refine allT_cons (fun _ => rfl) ?_) ?_
 refine S.pure tOk zOk rfl rfl rfl ?_
 refine S.pureG tOk zOk rfl rfl (by repeat first | exact allT_nil | refine allT_cons (fun h => h) ?_ | refine allT_cons (fun h => andl h) ?_ | refine allT_cons (fun h => andl (andl h)) ?_ | refine allT_cons (fun _ => rfl) ?_) (fun _ => rfl) rfl ?_
 refine S.pureG tOk zOk rfl rfl (by repeat first | exact allT_nil | refine allT_cons (fun h => h) ?_ | refine allT_cons (fun h => andl h) ?_ | refine allT_cons (fun h => andl (andl h)) ?_ | refine allT_cons (fun _ => rfl) ?_) (fun _ => rfl) rfl ?_
 refine S.callG rfl rfl rfl rfl (by repeat first | exact allT_nil | refine allT_cons (fun h => h) ?_ | refine allT_cons (fun h => andl h) ?_ | refine allT_cons (fun h => andl (andl h)) ?_ | refine allT_cons (fun _ => rfl) ?_) rfl rfl (fun _ => pc_valE) ?_
 refine S.pureG tOk zOk rfl rfl (by repeat first | exact allT_nil | refine allT_cons (fun h => h) ?_ | refine allT_cons (fun h => andl h) ?_ | refine allT_cons (fun h => andl (andl h)) ?_ | refine allT_cons (fun _ => rfl) ?_) (fun _ => rfl) rfl ?_
 refine S.pickOr tOk zOk rfl rfl (by repeat first | exact allT_nil | refine allT_cons (fun h => h) ?_ | refine allT_cons (fun h => andl h) ?_ | refine allT_cons (fun h => andl (andl h)) ?_ | refine allT_cons (fun _ => rfl) ?_) ?_
 refine S.pure tOk zOk rfl rfl rfl ?_
 refine thenK_n ?_
 refine W.condF rfl rfl ?_
 refine W.seq ?_
 refine W.region ?_
 refine S.pure tOk zOk rfl rfl rfl ?_
 refine S.pure tOk zOk rfl rfl rfl ?_
 refine S.pureG tOk zOk rfl rfl (by repeat first | exact allT_nil | refine allT_cons (fun h => h) ?_ | refine allT_cons (fun h => andl h) ?_ | refine allT_cons (fun h => andl (andl h)) ?_ | refine allT_cons (fun _ => rfl) ?_) (fun _ => rfl) rfl ?_
 refine S.pureG tOk zOk rfl rfl (by repeat first | exact allT_nil | refine allT_cons (fun h => h) ?_ | refine allT_cons (fun h => andl h) ?_ | refine allT_cons (fun h => andl (andl h)) ?_ | refine allT_cons (fun _ => rfl) ?_) (fun _ => rfl) rfl ?_
 refine S.pureG tOk zOk rfl rfl (by repeat first | exact allT_nil | refine allT_cons (fun h => h) ?_ | refine allT_cons (fun h => andl h) ?_ | refine allT_cons (fun h => andl (andl h)) ?_ | refine allT_cons (fun _ => rfl) ?_) (fun _ => rfl) rfl ?_
 refine S.pureG tOk zOk rfl rfl (by repeat first | exact allT_nil | refine allT_cons (fun h => h) ?_ | refine allT_cons (fun h => andl h) ?_ | refine allT_cons (fun h => andl (andl h)) ?_ | refine allT_cons (fun _ => rfl) ?_) (fun _ => rfl) rfl ?_
 refine S.pureG tOk zOk rfl rfl (by repeat first | exact allT_nil | refine allT_cons (fun h => h) ?_ | refine allT_cons (fun h => andl h) ?_ | refine allT_cons (fun h => andl (andl h)) ?_ | refine allT_cons (fun _ => rfl) ?_) (fun _ => rfl) rfl ?_
 refine S.pickAnd tOk zOk rfl rfl (by repeat first | exact allT_nil | refine allT_cons (fun h => h) ?_ | refine allT_cons (fun h => andl h) ?_ | refine allT_cons (fun h => andl (andl h)) ?_ | refine allT_cons (fun _ => rfl) ?_) ?_
 refine S.pure tOk zOk rfl rfl rfl ?_
 refine thenK_n ?_
 refine W.condF rfl rfl ?_
 refine W.seq ?_
 refine W.region ?_
 refine S.pure tOk zOk rfl rfl rfl ?_
 refine S.pure tOk zOk rfl rfl rfl ?_
 refine S.pure tOk zOk rfl rfl rfl ?_
 refine S.pure tOk zOk rfl rfl rfl ?_
 refine S.pureG tOk zOk rfl rfl (by repeat first | exact allT_nil | refine allT_cons (fun h => h) ?_ | refine allT_cons (fun h => andl h) ?_ | refine allT_cons (fun h => andl (andl h)) ?_ | refine allT_cons (fun _ => rfl) ?_) (fun _ => rfl) rfl ?_
 refine S.pureG tOk zOk rfl rfl (by repeat first | exact allT_nil | refine allT_cons (fun h => h) ?_ | refine allT_cons (fun h => andl h) ?_ | refine allT_cons (fun h => andl (andl h)) ?_ | refine allT_cons (fun _ => rfl) ?_) (fun _ => rfl) rfl ?_
 refine S.pureG tOk zOk rfl rfl (by repeat first | exact allT_nil | refine allT_cons (fun h => h) ?_ | refine allT_cons (fun h => andl h) ?_ | refine allT_cons (fun h => andl (andl h)) ?_ | refine allT_cons (fun _ => rfl) ?_) (fun _ => rfl) rfl ?_
 refine S.pureG tOk zOk rfl rfl (by repeat first | exact allT_nil | refine allT_cons (fun h => h) ?_ | refine allT_cons (fun h => andl h) ?_ | refine allT_cons (fun h => andl (andl h)) ?_ | refine allT_cons (fun _ => rfl) ?_) (fun _ => rfl) rfl ?_
 refine S.callG rfl rfl rfl rfl (by repeat first | exact allT_nil | refine allT_cons (fun h => h) ?_ | refine allT_cons (fun h => andl h) ?_ | refine allT_cons (fun h => andl (andl h)) ?_ | refine allT_cons (fun _ => rfl) ?_) rfl rfl (fun _ => pc_migrate_below [97, 47, 98] [] (by decide)) ?_
 refine S.pureG tOk zOk rfl rfl (by repeat first | exact allT_nil | refine allT_cons (fun h => h) ?_ | refine allT_cons (fun h => andl h) ?_ | refine allT_cons (fun h => andl (andl h)) ?_ | refine allT_cons (fun _ => rfl) ?_) (fun _ => rfl) rfl ?_
 refine S.pureG tOk zOk rfl rfl (by repeat first | exact allT_nil | refine allT_cons (fun h => h) ?_ | refine allT_cons (fun h => andl h) ?_ | refine allT_cons (fun h => andl (andl h)) ?_ | refine allT_cons (fun _ => rfl) ?_) (fun _ => rfl) rfl ?_
 refine S.pureG tOk zOk rfl rfl (by repeat first | exact allT_nil | refine allT_cons (fun h => h) ?_ | refine allT_cons (fun h => andl h) ?_ | refine allT_cons (fun h => andl (andl h)) ?_ | refine allT_cons (fun _ => rfl) ?_) (fun _ => rfl) rfl ?_
 refine S.pureG tOk zOk rfl rfl (by repeat first | exact allT_nil | refine allT_cons (fun h => h) ?_ | refine allT_cons (fun h => andl h) ?_ | refine allT_cons (fun h => andl (andl h)) ?_ | refine allT_cons (fun _ => rfl) ?_) (fun _ => rfl) rfl ?_
 refine S.pureG tOk zOk rfl rfl (by repeat first | exact allT_nil | refine allT_cons (fun h => h) ?_ | refine allT_cons (fun h => andl h) ?_ | refine allT_cons (fun h => andl (andl h)) ?_ | refine allT_cons (fun _ => rfl) ?_) (fun _ => rfl) rfl ?_
 refine S.callG rfl rfl rfl rfl (by repeat first | exact allT_nil | refine allT_cons (fun h => h) ?_ | refine allT_cons (fun h => andl h) ?_ | refine allT_cons (fun h => andl (andl h)) ?_ | refine allT_cons (fun _ => rfl) ?_) rfl rfl (fun _ => pc_migrate_below [] [97, 47, 98] (by decide)) ?_
 refine S.pickOrG tOk zOk rfl rfl rfl (by repeat first | exact allT_nil | refine allT_cons (fun h => h) ?_ | refine allT_cons (fun h => andl h) ?_ | refine allT_cons (fun h => andl (andl h)) ?_ | refine allT_cons (fun _ => rfl) ?_) (by repeat first | exact allT_nil | refine allT_cons (fun h => h) ?_ | refine allT_cons (fun h => andl h) ?_ | refine allT_cons (fun h => andl (andl h)) ?_ | refine allT_cons (fun _ => rfl) ?_) ?_
 refine S.pickAnd tOk zOk rfl rfl (by repeat first | exact allT_nil | refine allT_cons (fun h => h) ?_ | refine allT_cons (fun h => andl h) ?_ | refine allT_cons (fun h => andl (andl h)) ?_ | refine allT_cons (fun _ => rfl) ?_) ?_
 refine S.pure tOk zOk rfl rfl rfl ?_
 refine thenK_n ?_
 refine W.condF rfl rfl ?_
 refine W.seq ?_
 refine W.region ?_
 refine S.pure tOk zOk rfl rfl rfl ?_
 refine S.pure tOk zOk rfl rfl rfl ?_
 refine S.pureG tOk zOk rfl rfl (by repeat first | exact allT_nil | refine allT_cons (fun h => h) ?_ | refine allT_cons (fun h => andl h) ?_ | refine allT_cons (fun h => andl (andl h)) ?_ | refine allT_cons (fun _ => rfl) ?_) (fun _ => rfl) rfl ?_
 refine S.pureG tOk zOk rfl rfl (by repeat first | exact allT_nil | refine allT_cons (fun h => h) ?_ | refine allT_cons (fun h => andl h) ?_ | refine allT_cons (fun h => andl (andl h)) ?_ | refine allT_cons (fun _ => rfl) ?_) (fun _ => rfl) rfl ?_
 refine S.pureG tOk zOk rfl rfl (by repeat first | exact allT_nil | refine allT_cons (fun h => h) ?_ | refine allT_cons (fun h => andl h) ?_ | refine allT_cons (fun h => andl (andl h)) ?_ | refine allT_cons (fun _ => rfl) ?_) (fun _ => rfl) rfl ?_
 refine S.pureG tOk zOk rfl rfl (by repeat first | exact allT_nil | refine allT_cons (fun h => h) ?_ | refine allT_cons (fun h => andl h) ?_ | refine allT_cons (fun h => andl (andl h)) ?_ | refine allT_cons (fun _ => rfl) ?_) (fun _ => rfl) rfl ?_
 refine S.pureG tOk zOk rfl rfl (by repeat first | exact allT_nil | refine allT_cons (fun h => h) ?_ | refine allT_cons (fun h => andl h) ?_ | refine allT_cons (fun h => andl (andl h)) ?_ | refine allT_cons (fun _ => rfl) ?_) (fun _ => rfl) rfl ?_
 refine S.pickAnd tOk zOk rfl rfl (by repeat first | exact allT_nil | refine allT_cons (fun h => h) ?_ | refine allT_cons (fun h => andl h) ?_ | refine allT_cons (fun h => andl (andl h)) ?_ | refine allT_cons (fun _ => rfl) ?_) ?_
 refine S.pure tOk zOk rfl rfl rfl ?_
 refine thenK_n ?_
 refine W.condF rfl rfl ?_
 refine W.skip ?_
 refine blockK_n ?_
 refine thenK_n ?_
 refine W.seq ?_
 refine W.region ?_
 refine S.pure tOk zOk rfl rfl rfl ?_
 refine thenK_n ?_
 refine W.ret ?_
 exact ⟨_, rfl, rfl, LeV.refl _⟩
theorem pc_ParseRule6  :
  PureCall Tryz.prog J 15 [.one (.d (.str [100, 114, 111, 112, 32, 97, 47, 98]))] (.tup [.agg [.d (.int .i64 6), .d (.str [97, 47, 98]), .d (.str []), .d (.str []), .d (.str [])], .one (.d (.int .i64 0))]) := by
 refine PureCall.of_body tOk (fn := Tryz.f15) Tryz.func15 (by kernel_rfl) rfl (Nat.le_of_ble_eq_true rfl) (fun E => ?_)
 refine W.seq ?_
 refine W.region ?_
 refine S.alloc tOk rfl rfl rfl rfl ?_
 refine S.pure tOk zOk rfl rfl rfl ?_
 refine thenK_n ?_
 refine W.seq ?_
 refine W.seq ?_
 refine W.region ?_
 refine S.pure tOk zOk rfl rfl rfl ?_
 refine S.pure tOk zOk rfl rfl rfl ?_
 refine S.pure tOk zOk rfl rfl rfl ?_
 refine thenK_n ?_
 refine W.condF rfl rfl ?_
 refine W.skip ?_
 refine thenK_n ?_
 refine W.seq ?_
 refine W.region ?_
 refine S.pure tOk zOk rfl rfl rfl ?_
 refine S.call rfl rfl rfl rfl rfl (pc_cutA) ?_
 refine S.pure tOk zOk rfl rfl rfl ?_
 refine S.pure tOk zOk rfl rfl rfl ?_
 refine S.pure tOk zOk rfl rfl rfl ?_
 refine S.pure tOk zOk rfl rfl rfl ?_
 refine S.pure tOk zOk rfl rfl rfl ?_
 refine S.pure tOk zOk rfl rfl rfl ?_
 refine S.pure tOk zOk rfl rfl rfl ?_
 refine thenK_n ?_
 refine W.seq ?_
 refine W.region ?_
 refine S.call rfl rfl rfl rfl rfl (pc_migrate_ruleWords) ?_
 refine S.pure tOk zOk rfl rfl rfl ?_
 refine S.call rfl rfl rfl rfl rfl (pc_idx6) ?_
 refine S.pure tOk zOk rfl rfl rfl ?_
 refine S.alloc tOk rfl rfl rfl rfl ?_
 refine S.store tOk rfl rfl rfl rfl rfl rfl rfl rfl ?_
 refine thenK_n ?_
 refine W.seq ?_
 refine W.seq ?_
 refine W.region ?_
 refine S.pure tOk zOk rfl rfl rfl ?_
 refine S.pure tOk zOk rfl rfl rfl ?_
 refine S.pure tOk zOk rfl rfl rfl ?_
 refine S.pureG tOk zOk rfl rfl (by repeat first | exact allT_nil | refine allT_cons (fun h => h) ?_ | refine allT_cons (fun h => andl h) ?_ | refine allT_cons (fun h => andl (andl h)) ?_ | refine allT_cons (fun _ => rfl) ?_) (fun _ => rfl) rfl ?_
 refine S.pureG tOk zOk rfl rfl (by repeat first | exact allT_nil | refine allT_cons (fun h => h) ?_ | refine allT_cons (fun h => andl h) ?_ | refine allT_cons (fun h => andl (andl h)) ?_ | refine allT_cons (fun _ => rfl) ?_) (fun _ => rfl) rfl ?_
 refine S.pureG tOk zOk rfl rfl (by repeat first | exact allT_nil | refine allT_cons (fun h => h) ?_ | refine allT_cons (fun h => andl h) ?_ | refine allT_cons (fun h => andl (andl h)) ?_ | refine allT_cons (fun _ => rfl) ?_) (fun _ => rfl) rfl ?_
 refine S.pickOr tOk zOk rfl rfl (by repeat first | exact allT_nil | refine allT_cons (fun h => h) ?_ | refine allT_cons (fun h => andl h) ?_ | refine allT_cons (fun h => andl (andl h)) ?_ | refine allT_cons (fun _ => rfl) ?_) ?_
 refine thenK_n ?_
 refine W.condF rfl rfl ?_
 refine W.skip ?_
 refine thenK_n ?_
 refine W.seq ?_
 refine W.region ?_
 refine S.pure tOk zOk rfl rfl rfl ?_
 refine S.pure tOk zOk rfl rfl rfl ?_
 refine S.call rfl rfl rfl rfl rfl (pc_uses6) ?_
 refine S.pure tOk zOk rfl rfl rfl ?_
 refine S.pure tOk zOk rfl rfl rfl ?_
 refine S.pure tOk zOk rfl rfl rfl ?_
 refine S.pure tOk zOk rfl rfl rfl ?_
 refine S.pure tOk zOk rfl rfl rfl ?_
 refine S.pure tOk zOk rfl rfl rfl ?_
 refine S.pure tOk zOk rfl rfl rfl ?_
 refine thenK_n ?_
 refine W.seq ?_
 refine W.region ?_
 refine S.pure tOk zOk rfl rfl rfl ?_
 refine thenK_n ?_
 refine W.seq ?_
 refine W.region ?_
 refine S.pure tOk zOk rfl rfl rfl ?_
 refine S.call rfl rfl rfl rfl rfl (pc_cutB) ?_
 refine S.pure tOk zOk rfl rfl rfl ?_
 refine S.pure tOk zOk rfl rfl rfl ?_
 refine S.pure tOk zOk rfl rfl rfl ?_
 refine S.pure tOk zOk rfl rfl rfl ?_
 refine S.pure tOk zOk rfl rfl rfl ?_
 refine S.store tOk rfl rfl rfl rfl rfl rfl rfl rfl ?_
 refine S.pure tOk zOk rfl rfl rfl ?_
 refine S.pure tOk zOk rfl rfl rfl ?_
 refine thenK_n ?_
 refine W.seq ?_
 refine W.seq ?_
 refine W.region ?_
 refine S.pure tOk zOk rfl rfl rfl ?_
 refine S.pure tOk zOk rfl rfl rfl ?_
 refine S.pure tOk zOk rfl rfl rfl ?_
 refine S.pure tOk zOk rfl rfl rfl ?_
 refine S.pureG tOk zOk rfl rfl (by repeat first | exact allT_nil | refine allT_cons (fun h => h) ?_ | refine allT_cons (fun h => andl h) ?_ | refine allT_cons (fun h => andl (andl h)) ?_ | refine allT_cons (fun _ => rfl) ?_) (fun _ => rfl) rfl ?_
 refine S.pureG tOk zOk rfl rfl (by repeat first | exact allT_nil | refine allT_cons (fun h => h) ?_ | refine allT_cons (fun h => andl h) ?_ | refine allT_cons (fun h => andl (andl h)) ?_ | refine allT_cons (fun _ => rfl) ?_) (fun _ => rfl) rfl ?_
 refine S.pureG tOk zOk rfl rfl (by repeat first | exact allT_nil | refine allT_cons (fun h => h) ?_ | refine allT_cons (fun h => andl h) ?_ | refine allT_cons (fun h => andl (andl h)) ?_ | refine allT_cons (fun _ => rfl) ?_) (fun _ => rfl) rfl ?_
 refine S.pureG tOk zOk rfl rfl (by repeat first | exact allT_nil | refine allT_cons (fun h => h) ?_ | refine allT_cons (fun h => andl h) ?_ | refine allT_cons (fun h => andl (andl h)) ?_ | refine allT_cons (fun _ => rfl) ?_) (fun _ => rfl) rfl ?_
 refine S.pickOrG tOk zOk rfl rfl rfl (by repeat first | exact allT_nil | refine allT_cons (fun h => h) ?_ | refine allT_cons (fun h => andl h) ?_ | refine allT_cons (fun h => andl (andl h)) ?_ | refine allT_cons (fun _ => rfl) ?_) (by repeat first | exact allT_nil | refine allT_cons (fun h => h) ?_ | refine allT_cons (fun h => andl h) ?_ | refine allT_cons (fun h => andl (andl h)) ?_ | refine allT_cons (fun _ => rfl) ?_) ?_
 refine S.pureG tOk zOk rfl rfl (by repeat first | exact allT_nil | refine allT_cons (fun h => h) ?_ | refine allT_cons (fun h => andl h) ?_ | refine allT_cons (fun h => andl (andl h)) ?_ | refine allT_cons (fun _ => rfl) ?_) (fun _ => rfl) rfl ?_
 refine S.pureG tOk zOk rfl rfl (by repeat first | exact allT_nil | refine allT_cons (fun h => h) ?_ | refine allT_cons (fun h => andl h) ?_ | refine allT_cons (fun h => andl (andl h)) ?_ | refine allT_cons (fun _ => rfl) ?_) (fun _ => rfl) rfl ?_
 refine S.pickOrG tOk zOk rfl rfl rfl (by repeat first | exact allT_nil | refine allT_cons (fun h => h) ?_ | refine allT_cons (fun h => andl h) ?_ | refine allT_cons (fun h => andl (andl h)) ?_ | refine allT_cons (fun _ => rfl) ?_) (by repeat first | exact allT_nil | refine allT_cons (fun h => h) ?_ | refine allT_cons (fun h => andl h) ?_ | refine allT_cons (fun h => andl (andl h)) ?_ | refine allT_cons (fun _ => rfl) ?_) ?_
 refine S.pureG tOk zOk rfl rfl (by repeat first | exact allT_nil | refine allT_cons (fun h => h) ?_ | refine allT_cons (fun h => andl h) ?_ | refine allT_cons (fun h => andl (andl h)) ?_ | refine allT_cons (fun _ => rfl) ?_) (fun _ => rfl) rfl ?_
 refine S.pickOr tOk zOk rfl rfl (by repeat first | exact allT_nil | refine allT_cons (fun h => h) ?_ | refine allT_cons (fun h => andl h) ?_ | refine allT_cons (fun h => andl (andl h)) ?_ | refine allT_cons (fun _ => rfl) ?_) ?_
 refine thenK_n ?_
 refine W.condF rfl rfl ?_
 refine W.skip ?_
 refine thenK_n ?_
 refine W.seq ?_
 refine W.seq ?_
 refine W.region ?_
 refine S.pure tOk zOk rfl rfl rfl ?_
 refine thenK_n ?_
 refine W.condF rfl rfl ?_
 refine W.skip ?_
 refine thenK_n ?_
 refine W.seq ?_
 refine W.seq ?_
 refine W.region ?_
 refine S.pure tOk zOk rfl rfl rfl ?_
 refine thenK_n ?_
 refine W.condF rfl rfl ?_
 refine W.skip ?_
 refine thenK_n ?_
 refine W.seq ?_
 refine W.seq ?_
 refine W.region ?_
 refine S.pure tOk zOk rfl rfl rfl ?_
 refine thenK_n ?_
 refine W.condF rfl rfl ?_
 refine W.skip ?_
 refine thenK_n ?_
 refine W.seq ?_
 refine W.seq ?_
 refine W.region ?_
 refine S.pure tOk zOk rfl rfl rfl ?_
 refine S.pure tOk zOk rfl rfl rfl ?_
 refine thenK_n ?_
 refine W.condF rfl rfl ?_
 refine W.skip ?_
 refine thenK_n ?_
 refine W.seq ?_
 refine W.seq ?_
 refine W.region ?_
 refine S.pure tOk zOk rfl rfl rfl ?_
 refine S.call rfl rfl rfl rfl rfl (pc_CheckRule6) ?_
 refine S.pure tOk zOk rfl rfl rfl ?_
 refine thenK_n ?_
 refine W.seq ?_
 refine W.region ?_
 refine S.pure tOk zOk rfl rfl rfl ?_
 refine S.pure tOk zOk rfl rfl rfl ?_
 refine thenK_n ?_
 refine W.condF rfl rfl ?_
 refine W.skip ?_
 refine thenK_n ?_
 refine W.seq ?_
 refine W.region ?_
 refine S.pure tOk zOk rfl rfl rfl ?_
 refine S.store tOk rfl rfl rfl rfl rfl rfl rfl rfl ?_
 refine S.pure tOk zOk rfl rfl rfl ?_
 refine thenK_n ?_
 refine W.ret ?_
 exact ⟨_, rfl, rfl, LeV.refl _⟩
theorem pc_outlaw2_migrates  :
  PureCall Tryz.prog J 7 [] (.one (.d (.bool true))) := by
 refine PureCall.of_body tOk (fn := Tryz.f7) Tryz.func7 (by kernel_rfl) rfl (Nat.le_of_ble_eq_true rfl) (fun E => ?_)
 refine W.seq ?_
 refine W.region ?_
 refine S.pure tOk zOk rfl rfl rfl ?_
 refine thenK_n ?_
 refine W.seq ?_
 refine W.region ?_
 refine S.call rfl rfl rfl rfl rfl (pc_ParseRule6) ?_
 refine S.pure tOk zOk rfl rfl rfl ?_
 refine S.pure tOk zOk rfl rfl rfl ?_
 refine S.pure tOk zOk rfl rfl rfl ?_
 refine S.alloc tOk rfl rfl rfl rfl ?_
 refine S.store tOk rfl rfl rfl rfl rfl rfl rfl rfl ?_
 refine S.pure tOk zOk rfl rfl rfl ?_
 refine thenK_n ?_
 refine W.seq ?_
 refine W.region ?_
 refine S.pure tOk zOk rfl rfl rfl ?_
 refine S.pure tOk zOk rfl rfl rfl ?_
 refine S.pure tOk zOk rfl rfl rfl ?_
 refine S.pureG tOk zOk rfl rfl (by repeat first | exact allT_nil | refine allT_cons (fun h => h) ?_ | refine allT_cons (fun h => andl h) ?_ | refine allT_cons (fun h => andl (andl h)) ?_ | refine allT_cons (fun _ => rfl) ?_) (fun _ => rfl) rfl ?_
 refine S.pureG tOk zOk rfl rfl (by repeat first | exact allT_nil | refine allT_cons (fun h => h) ?_ | refine allT_cons (fun h => andl h) ?_ | refine allT_cons (fun h => andl (andl h)) ?_ | refine allT_cons (fun _ => rfl) ?_) (fun _ => rfl) rfl ?_
 refine S.pureG tOk zOk rfl rfl (by repeat first | exact allT_nil | refine allT_cons (fun h => h) ?_ | refine allT_cons (fun h => andl h) ?_ | refine allT_cons (fun h => andl (andl h)) ?_ | refine allT_cons (fun _ => rfl) ?_) (fun _ => rfl) rfl ?_
 refine S.pickAnd tOk zOk rfl rfl (by repeat first | exact allT_nil | refine allT_cons (fun h => h) ?_ | refine allT_cons (fun h => andl h) ?_ | refine allT_cons (fun h => andl (andl h)) ?_ | refine allT_cons (fun _ => rfl) ?_) ?_
 refine S.pure tOk zOk rfl rfl rfl ?_
 refine thenK_n ?_
 refine W.ret ?_
 exact ⟨_, rfl, rfl, LeV.refl _⟩
theorem pc_outlaw2_ChangesMatch (ys zs : List Stg) (hn : ys.length ≤ 2000000) (hs : ∀ s ∈ ys, s.k.length < 4294967000 ∧ s.v.length < 4294967000) (hm : zs.length ≤ 2000000) (ht : ∀ s ∈ zs, s.k.length < 4294967000 ∧ s.v.length < 4294967000) :
  PureCall Tryz.prog J 3 [.one (.d (.vec 2 (ys.map stgD))), .one (.d (.vec 2 (zs.map stgD)))] (.one (.d (.bool true))) := by
 have hcl := chgTo_le ys zs zs.length
 refine PureCall.of_body tOk (fn := Tryz.f3) Tryz.func3 (by kernel_rfl) rfl (Nat.le_of_ble_eq_true rfl) (fun E => ?_)
 refine W.seq ?_
 refine W.region ?_
 refine S.pure tOk zOk rfl rfl rfl ?_
 refine thenK_n ?_
 refine W.seq ?_
 refine W.region ?_
 refine S.pure tOk zOk rfl rfl rfl ?_
 refine S.pure tOk zOk rfl rfl rfl ?_
 refine S.call rfl rfl rfl rfl rfl (pc_migrate_Changes ys zs hn hs hm ht) ?_
 refine S.pure tOk zOk rfl rfl rfl ?_
 refine S.pure tOk zOk rfl rfl rfl ?_
 refine S.pure tOk zOk rfl rfl rfl ?_
 refine S.pure tOk zOk rfl rfl rfl ?_
 refine S.pure tOk zOk rfl rfl rfl ?_
 refine thenK_n ?_
 refine W.seq ?_
 refine W.region ?_
 refine S.pure tOk zOk rfl rfl rfl ?_
 refine S.call rfl rfl rfl rfl rfl (pc_listE ys (by omega) hs) ?_
 refine S.pure tOk zOk rfl rfl rfl ?_
 refine S.call rfl rfl rfl rfl rfl (pc_listE zs (by omega) ht) ?_
 refine S.slice tOk rfl rfl ?_
 refine S.call rfl rfl rfl rfl rfl (pc_outref2_First [listE pathB ys, listE pathB zs] (by simp)) ?_
 refine S.pure tOk zOk rfl rfl rfl ?_
 refine thenK_n ?_
 refine W.seq ?_
 refine W.seq ?_
 refine W.region ?_
 refine S.call rfl rfl rfl rfl rfl (pc_outlaw2_migrates) ?_
 refine S.pure tOk zOk rfl rfl rfl ?_
 refine S.pure tOk zOk rfl rfl rfl ?_
 refine S.pureG tOk zOk rfl rfl (by repeat first | exact allT_nil | refine allT_cons (fun h => h) ?_ | refine allT_cons (fun h => andl h) ?_ | refine allT_cons (fun h => andl (andl h)) ?_ | refine allT_cons (fun _ => rfl) ?_) (fun _ => rfl) rfl ?_
 refine S.pureG tOk zOk rfl rfl (by repeat first | exact allT_nil | refine allT_cons (fun h => h) ?_ | refine allT_cons (fun h => andl h) ?_ | refine allT_cons (fun h => andl (andl h)) ?_ | refine allT_cons (fun _ => rfl) ?_) (fun _ => rfl) rfl ?_
 refine S.pickOr tOk zOk rfl rfl (by repeat first | exact allT_nil | refine allT_cons (fun h => h) ?_ | refine allT_cons (fun h => andl h) ?_ | refine allT_cons (fun h => andl (andl h)) ?_ | refine allT_cons (fun _ => rfl) ?_) ?_
 refine thenK_n ?_
 refine W.cond rfl (fun c1 => ?_) (fun c1 => ?_)
 ·skip
  have hp := law_chg1 (ys := ys) (zs := zs) c1
  rw [hp]
  refine W.seq ?_
  refine W.region ?_
  refine S.call rfl rfl rfl rfl rfl (pc_outlaw2_migrates) ?_
  refine S.pure tOk zOk rfl rfl rfl ?_
  refine S.pureG tOk zOk rfl rfl (by repeat first | exact allT_nil | refine allT_cons (fun h => h) ?_ | refine allT_cons (fun h => andl h) ?_ | refine allT_cons (fun h => andl (andl h)) ?_ | refine allT_cons (fun _ => rfl) ?_) (fun _ => rfl) rfl ?_
  refine S.pureG tOk zOk rfl rfl (by repeat first | exact allT_nil | refine allT_cons (fun h => h) ?_ | refine allT_cons (fun h => andl h) ?_ | refine allT_cons (fun h => andl (andl h)) ?_ | refine allT_cons (fun _ => rfl) ?_) (fun _ => rfl) rfl ?_
  refine S.pureG tOk zOk rfl rfl (by repeat first | exact allT_nil | refine allT_cons (fun h => h) ?_ | refine allT_cons (fun h => andl h) ?_ | refine allT_cons (fun h => andl (andl h)) ?_ | refine allT_cons (fun _ => rfl) ?_) (fun _ => rfl) rfl ?_
  refine S.pickAnd tOk zOk rfl rfl (by repeat first | exact allT_nil | refine allT_cons (fun h => h) ?_ | refine allT_cons (fun h => andl h) ?_ | refine allT_cons (fun h => andl (andl h)) ?_ | refine allT_cons (fun _ => rfl) ?_) ?_
  refine S.pure tOk zOk rfl rfl rfl ?_
  refine S.pureG tOk zOk rfl rfl (by repeat first | exact allT_nil | refine allT_cons (fun h => h) ?_ | refine allT_cons (fun h => andl h) ?_ | refine allT_cons (fun h => andl (andl h)) ?_ | refine allT_cons (fun _ => rfl) ?_) (fun _ => rfl) rfl ?_
  refine S.pureG tOk zOk rfl rfl (by repeat first | exact allT_nil | refine allT_cons (fun h => h) ?_ | refine allT_cons (fun h => andl h) ?_ | refine allT_cons (fun h => andl (andl h)) ?_ | refine allT_cons (fun _ => rfl) ?_) (fun _ => rfl) rfl ?_
  refine S.pureG tOk zOk rfl rfl (by repeat first | exact allT_nil | refine allT_cons (fun h => h) ?_ | refine allT_cons (fun h => andl h) ?_ | refine allT_cons (fun h => andl (andl h)) ?_ | refine allT_cons (fun _ => rfl) ?_) (fun _ => rfl) rfl ?_
  refine S.pickAnd tOk zOk rfl rfl (by repeat first | exact allT_nil | refine allT_cons (fun h => h) ?_ | refine allT_cons (fun h => andl h) ?_ | refine allT_cons (fun h => andl (andl h)) ?_ | refine allT_cons (fun _ => rfl) ?_) ?_
  refine S.pure tOk zOk rfl rfl rfl ?_
  refine thenK_n ?_
  refine W.ret ?_
  refine thenK_r ?_
  exact ⟨_, rfl, rfl, LeV.of_force rfl (by show V.one (C.d (D.bool ((true && (0 : Int) == 0) && wantC ys zs == wantC ys zs))) = _; simp)⟩
 ·skip
  have hp := law_chg2 (ys := ys) (zs := zs) c1
  rw [hp]
  refine W.skip ?_
  refine thenK_n ?_
  refine W.seq ?_
  refine W.region ?_
  refine S.pure tOk zOk rfl rfl rfl ?_
  refine S.pure tOk zOk rfl rfl rfl ?_
  refine S.pure tOk zOk rfl rfl rfl ?_
  refine S.pureG tOk zOk rfl rfl (by repeat first | exact allT_nil | refine allT_cons (fun h => h) ?_ | refine allT_cons (fun h => andl h) ?_ | refine allT_cons (fun h => andl (andl h)) ?_ | refine allT_cons (fun _ => rfl) ?_) (fun _ => rfl) rfl ?_
  refine S.pureG tOk zOk rfl rfl (by repeat first | exact allT_nil | refine allT_cons (fun h => h) ?_ | refine allT_cons (fun h => andl h) ?_ | refine allT_cons (fun h => andl (andl h)) ?_ | refine allT_cons (fun _ => rfl) ?_) (fun _ => rfl) rfl ?_
  refine S.pureG tOk zOk rfl rfl (by repeat first | exact allT_nil | refine allT_cons (fun h => h) ?_ | refine allT_cons (fun h => andl h) ?_ | refine allT_cons (fun h => andl (andl h)) ?_ | refine allT_cons (fun _ => rfl) ?_) (fun _ => rfl) rfl ?_
  refine S.callG rfl rfl rfl rfl (by repeat first | exact allT_nil | refine allT_cons (fun h => h) ?_ | refine allT_cons (fun h => andl h) ?_ | refine allT_cons (fun h => andl (andl h)) ?_ | refine allT_cons (fun _ => rfl) ?_) rfl rfl (fun _ => pc_outref2_ChangesOf ys zs hn hs hm ht) ?_
  refine S.callG rfl rfl rfl rfl (by repeat first | exact allT_nil | refine allT_cons (fun h => h) ?_ | refine allT_cons (fun h => andl h) ?_ | refine allT_cons (fun h => andl (andl h)) ?_ | refine allT_cons (fun _ => rfl) ?_) rfl rfl (fun _ => pc_EqualC (changesL ys zs) (by rw [← changes_end]; omega)) ?_
  refine S.pickAnd tOk zOk rfl rfl (by repeat first | exact allT_nil | refine allT_cons (fun h => h) ?_ | refine allT_cons (fun h => andl h) ?_ | refine allT_cons (fun h => andl (andl h)) ?_ | refine allT_cons (fun _ => rfl) ?_) ?_
  refine S.pure tOk zOk rfl rfl rfl ?_
  refine thenK_n ?_
  refine W.ret ?_
  exact ⟨_, rfl, rfl, LeV.of_force rfl (by simp)⟩
end Go.Proofs.YtlmhihccjbladaaGreatDoor

/- From a row's argument to pure data: decoders, put together type by type. -/
set_option linter.unusedVariables false
set_option linter.unusedSimpArgs false
namespace Go.Proofs.YtlmhihccjbladaaGreatDoor
open Go Go.RowKit Go.ChangeShapes
/-- Cells that hold these data, all blocks of the world being left as they are. -/
def RDs (w : World) (cs : List Value) (ds : List D) : Prop :=
  cs.length = ds.length ∧ ∀ (i : Nat) (c : Value) (d : D), cs[i]? = some c → ds[i]? = some d → RD (fun b => b < w.heap.size) w d c
theorem RDs.one {w : World} {c : Value} {d : D} (h : RD (fun b => b < w.heap.size) w d c) : RDs w [c] [d] :=
  ⟨rfl, fun i a b h1 h2 => by
    match i with
    | 0 => simp at h1 h2; subst h1; subst h2; exact h
    | i + 1 => simp at h1⟩
theorem RDs.append {w : World} {a b : List Value} {x y : List D} (h1 : RDs w a x) (h2 : RDs w b y) : RDs w (a ++ b) (x ++ y) := by
  refine ⟨by simp [h1.1, h2.1], fun i c d hc hd => ?_⟩
  by_cases hi : i < a.length
  · rw [List.getElem?_append_left hi] at hc
    rw [List.getElem?_append_left (by rw [← h1.1]; exact hi)] at hd
    exact h1.2 i c d hc hd
  · rw [List.getElem?_append_right (by omega)] at hc
    rw [List.getElem?_append_right (by rw [← h1.1]; omega)] at hd
    rw [← h1.1] at hd
    exact h2.2 _ c d hc hd
/-- A decoder of a type: the data that its cells hold; what is known of it, where the reading's bulk is N. -/
structure Dec (P : Program) (t : TypeId) (α : Type) where
  ds : α → List D
  wf : Nat → α → Prop
  up : ∀ (m n : Nat) (x : α), m ≤ n → wf m x → wf n x
  ok : ∀ {H : Type} {enc : TypeId × Value → H} {w : World} {fuel : Nat} {cs : List Value} {d : DataW H} {ps : List MemPlace}, DataW.trod enc P w 0 (fun _ => true) true fuel t cs = some (d, ps) →
    ∃ x : α, RDs w cs (ds x) ∧ wf (Rows.uptoBulk d) x
theorem trod_str {H : Type} {enc : TypeId × Value → H} {P : Program} {w : World} {fuel : Nat} {t : TypeId} {cs : List Value} {x : DataW H × List MemPlace} (ht : P.underlying t = some .string) (h : DataW.trod enc P w 0 (fun _ => true) true fuel t cs = some x) :
    ∃ s : ByteArray, cs = [.string s] ∧ x.1 = .lit (.string s.data.toList) := by
  cases fuel with
  | zero => simp [DataW.trod] at h
  | succ fuel =>
    unfold DataW.trod at h
    rw [ht] at h
    split at h <;> first
      | (split at h
         · cases h; exact ⟨_, rfl, rfl⟩
         · cases h)
      | (simp_all; done)
def Dec.str {P : Program} {t : TypeId} (ht : P.underlying t = some .string) : Dec P t (List UInt8) where
  ds s := [.str s]
  wf N s := s.length < N
  up _ _ _ h1 h := Nat.lt_of_lt_of_le h h1
  ok h := by
    obtain ⟨s, rfl, hx⟩ := trod_str ht h
    refine ⟨s.data.toList, .one (.str s.data.toList), ?_⟩
    simp only at hx
    rw [hx]
    simp [Rows.uptoBulk]
theorem mapM_len {α β : Type} {f : α → Option β} : ∀ {l : List α} {r : List β}, l.mapM f = some r → r.length = l.length
  | [], r, h => by simp at h; subst h; rfl
  | a :: l, r, h => by
    simp only [List.mapM_cons, Option.bind_eq_bind, Option.bind_eq_some_iff, Option.pure_def, Option.some.injEq] at h
    obtain ⟨b, hb, r', hr', rfl⟩ := h
    simp [mapM_len hr']
/-- The fields of a struct, one behind the other. -/
structure DecF (P : Program) (fs : List Field) (off tot : Nat) (α : Type) where
  ds : α → List D
  wf : Nat → α → Prop
  up : ∀ (m n : Nat) (x : α), m ≤ n → wf m x → wf n x
  ok : ∀ {H : Type} {enc : TypeId × Value → H} {w : World} {fuel : Nat} {cs : List Value} {xs : List (DataW H × List MemPlace)}, cs.length = tot →
    fs.mapM (fun f => DataW.trod enc P w 0 (fun _ => true) true fuel f.type ((cs.drop f.offset).take (P.cellsOf f.type))) = some xs →
    ∃ x : α, RDs w (cs.drop off) (ds x) ∧ wf (Rows.uptoBulkAll (xs.map (·.1))) x
def DecF.nil {P : Program} (tot : Nat) : DecF P [] tot tot Unit where
  ds _ := []
  wf _ _ := True
  up _ _ _ _ h := h
  ok hl h := ⟨(), ⟨by simp [hl], fun i c d h1 h2 => by simp at h2⟩, trivial⟩
def DecF.cons {P : Program} {f : Field} {fs : List Field} {off tot n : Nat} {α β : Type} (de : Dec P f.type α) (ho : f.offset = off) (hn : P.cellsOf f.type = n) (r : DecF P fs (off + n) tot β) : DecF P (f :: fs) off tot (α × β) where
  ds x := de.ds x.1 ++ r.ds x.2
  wf N x := de.wf N x.1 ∧ r.wf N x.2
  up m n x h hx := ⟨de.up m n x.1 h hx.1, r.up m n x.2 h hx.2⟩
  ok {H enc w fuel cs xs} hl h := by
    simp only [List.mapM_cons, Option.bind_eq_bind, Option.bind_eq_some_iff, Option.pure_def, Option.some.injEq] at h
    obtain ⟨b, hb, r', hr', rfl⟩ := h
    obtain ⟨x, h1, h2⟩ := de.ok (d := b.1) (ps := b.2) hb
    obtain ⟨y, h3, h4⟩ := r.ok hl hr'
    refine ⟨(x, y), ?_, de.up _ _ _ ?_ h2, r.up _ _ _ ?_ h4⟩
    · have e : cs.drop off = (cs.drop f.offset).take (P.cellsOf f.type) ++ cs.drop (off + n) := by
        rw [ho, hn, ← List.drop_drop, List.take_append_drop]
      rw [e]; exact h1.append h3
    · simp only [List.map_cons, Rows.uptoBulkAll]; omega
    · simp only [List.map_cons, Rows.uptoBulkAll]; omega
def Dec.struct {P : Program} {t : TypeId} {fs : Array Field} {tot : Nat} {α : Type} (ht : P.underlying t = some (.struct fs)) (hc : P.cellsOf t = tot) (r : DecF P fs.toList 0 tot α) : Dec P t α where
  ds := r.ds
  wf := r.wf
  up := r.up
  ok {H enc w fuel cs d ps} h := by
    cases fuel with
    | zero => simp [DataW.trod] at h
    | succ fuel =>
      unfold DataW.trod at h
      rw [ht] at h
      split at h <;> first
        | (rename_i he1
           simp only [Option.some.injEq, TypeDesc.struct.injEq] at he1
           subst he1
           split at h
           · rename_i hl
             simp only [Option.map_eq_some_iff] at h
             obtain ⟨xs, hx, he⟩ := h
             obtain ⟨x, h1, h2⟩ := r.ok (hl.trans hc) hx
             cases he
             exact ⟨x, h1, r.up _ _ _ (by simp only [Rows.uptoBulk]; omega) h2⟩
           · cases h)
        | (simp_all; done)
def Dec.iso {P : Program} {t : TypeId} {α β : Type} (d : Dec P t α) (f : α → β) (ds : β → List D) (wf : Nat → β → Prop) (up : ∀ (m n : Nat) (x : β), m ≤ n → wf m x → wf n x) (hd : ∀ a, d.ds a = ds (f a)) (hw : ∀ N a, d.wf N a → wf N (f a)) : Dec P t β where
  ds := ds
  wf := wf
  up := up
  ok h := by
    obtain ⟨x, h1, h2⟩ := d.ok h
    exact ⟨f x, hd x ▸ h1, hw _ _ h2⟩
theorem choose_list {α : Type} {Q : Nat → α → Prop} : ∀ (n : Nat), (∀ i, i < n → ∃ x, Q i x) → ∃ xs : List α, xs.length = n ∧ ∀ i x, xs[i]? = some x → Q i x
  | 0, _ => ⟨[], rfl, fun i x h => by simp at h⟩
  | n + 1, h => by
    obtain ⟨xs, h1, h2⟩ := choose_list n (fun i hi => h i (by omega))
    obtain ⟨x, hx⟩ := h n (by omega)
    refine ⟨xs ++ [x], by simp [h1], fun i y hy => ?_⟩
    by_cases hi : i < xs.length
    · rw [List.getElem?_append_left hi] at hy; exact h2 i y hy
    · rw [List.getElem?_append_right (by omega)] at hy
      have e : i = n := by
        apply Decidable.byContradiction; intro hne
        rw [List.getElem?_eq_none (by simp; omega)] at hy; cases hy
      subst e
      rw [h1] at hy
      simp at hy; subst hy; exact hx
theorem cells_at {w : World} {a : Addr} {n : Nat} {cs : List Value} (h : w.cells? 0 a n = some cs) : cs.length = n ∧ ∀ j, j < n → w.cell? (a.add j) = cs[j]? := by
  unfold World.cells? at h
  rw [if_pos (Nat.zero_le _)] at h
  have hl := mapM_len h
  simp at hl
  refine ⟨hl, fun j hj => ?_⟩
  obtain ⟨b, h1, h2⟩ := Lib.mapM_at h j j (by simp [hj])
  rw [h1, h2]
theorem spot_none {w : World} {a : Addr} {v : Value} (h : w.cell? a = some v) : a.spot = none := by
  unfold World.cell? at h
  split at h
  · split at h
    · cases h
    · rename_i hs; simpa using hs
  · cases h
theorem bulk_mem {H : Type} {x : DataW H} : ∀ {l : List (DataW H)}, x ∈ l → Rows.uptoBulk x ≤ Rows.uptoBulkAll l
  | [], h => by cases h
  | a :: l, h => by
    simp only [Rows.uptoBulkAll]
    rcases List.mem_cons.1 h with rfl | h
    · omega
    · have := bulk_mem h; omega
theorem bulk_pos {H : Type} (d : DataW H) : 1 ≤ Rows.uptoBulk d := by
  cases d with
  | lit l => cases l <;> simp [Rows.uptoBulk]
  | _ => simp [Rows.uptoBulk]
theorem bulk_len {H : Type} : ∀ (l : List (DataW H)), l.length ≤ Rows.uptoBulkAll l
  | [] => by simp
  | a :: l => by
    have h1 := bulk_pos a
    have h2 := bulk_len l
    simp only [Rows.uptoBulkAll, List.length_cons]; omega
def Dec.slice {P : Program} {t e : TypeId} {sz : Nat} {α : Type} (ht : P.underlying t = some (.slice e)) (hc : P.cellsOf e = sz) (h0 : 0 < sz) (de : Dec P e α) : Dec P t (List α) where
  ds xs := [.vec sz (xs.map de.ds)]
  wf N xs := xs.length < N ∧ ∀ x ∈ xs, de.wf N x
  up m n xs h hx := ⟨by omega, fun x hm => de.up m n x h (hx.2 x hm)⟩
  ok {H enc w fuel cs d ps} h := by
    rcases DataW.trod_slice ht h with h1 | ⟨a, len, cap, elems, rest, n, _, rfl, hx, hb, hl, hm, hlen, hel, hsp, hns⟩
    · obtain ⟨rfl, h2⟩ := h1
      cases h2
      exact ⟨[], .one (.empty _ _ _), by simp [Rows.uptoBulk], by simp⟩
    · have key : ∀ i, i < len → ∃ x, ∃ cs' : List Value, ∃ y, elems[i]? = some y ∧ w.cells? 0 (a.add (i * sz)) sz = some cs' ∧ RDs w cs' (de.ds x) ∧ de.wf (Rows.uptoBulk y.1) x := fun i hi => by
        have h1 := hel i hi
        have h2 : elems[i]? = some (elems[i]'(by omega)) := List.getElem?_eq_getElem _
        rw [h2, hc, Option.bind_eq_some_iff] at h1
        obtain ⟨cs', h3, h4⟩ := h1
        obtain ⟨x, h5, h6⟩ := de.ok (d := (elems[i]'(by omega)).1) (ps := (elems[i]'(by omega)).2) h4
        exact ⟨x, cs', _, h2, h3, h5, h6⟩
      obtain ⟨xs, hxl, hxs⟩ := choose_list len key
      cases hx
      refine ⟨xs, .one ?_, ?_, fun x hx => ?_⟩
      · by_cases hne : xs = []
        · subst hne
          simp at hxl
          rw [← hxl]
          exact .empty _ _ _
        · have hpos : 0 < len := by
            cases xs with
            | nil => exact absurd rfl hne
            | cons x l => rw [← hxl]; simp
          have hs : a.spot = none := by
            obtain ⟨x, cs', y, _, h3, _⟩ := key 0 hpos
            obtain ⟨h4, h5⟩ := cells_at h3
            have h6 := h5 0 h0
            have h7 : cs'[0]? = some (cs'[0]'(by omega)) := List.getElem?_eq_getElem _
            rw [h7] at h6
            simp only [Addr.add, Nat.zero_mul, if_true] at h6
            exact spot_none h6
          have hadd : ∀ i j, (a.add (i * sz)).add j = ⟨a.block, a.off + i * sz + j, none⟩ := fun i j => by
            cases a with
            | mk b o s =>
              simp only at hs; subst hs
              unfold Addr.add
              by_cases h1 : i * sz = 0 <;> by_cases h2 : j = 0 <;> simp [h1, h2]
          have hat : ∀ (i j : Nat) (x : List D) (d : D), (xs.map de.ds)[i]? = some x → x[j]? = some d → ∃ v, w.cell? ⟨a.block, a.off + i * sz + j, none⟩ = some v ∧ RD (fun b => b < w.heap.size) w d v := fun i j x d h1 h2 => by
            simp only [List.getElem?_map, Option.map_eq_some_iff] at h1
            obtain ⟨x', h1, rfl⟩ := h1
            obtain ⟨cs', y, _, h3, h4, _⟩ := hxs i x' h1
            obtain ⟨h5, h6⟩ := cells_at h3
            have hj : j < sz := by
              have := (List.getElem?_eq_some_iff.1 h2).1
              rw [← h4.1, h5] at this; exact this
            have h7 : cs'[j]? = some (cs'[j]'(by omega)) := List.getElem?_eq_getElem _
            have h8 := h6 j hj
            rw [hadd, h7] at h8
            exact ⟨_, h8, h4.2 j _ d h7 h2⟩
          have hal : a = ⟨a.block, a.off, none⟩ := by cases a; simp only at hs; subst hs; rfl
          have hlen' : len = (xs.map de.ds).length := by simp [hxl]
          rw [hal, hlen']
          refine RD.vec sz (xs.map de.ds) a.block a.off cap (fun i j => (w.cell? ⟨a.block, a.off + i * sz + j, none⟩).getD undef) (by simpa using hne) (by rw [← hlen']; exact hl) ?_ ?_ ?_ ?_
          · obtain ⟨x, cs', y, _, h3, _⟩ := key 0 hpos
            obtain ⟨h4, h5⟩ := cells_at h3
            have h6 := h5 0 h0
            have h7 : cs'[0]? = some (cs'[0]'(by omega)) := List.getElem?_eq_getElem _
            rw [h7, hadd] at h6
            apply Decidable.byContradiction; intro hn
            unfold World.cell? at h6
            rw [Array.getElem?_eq_none (by simp only at hn ⊢; omega)] at h6
            cases h6
          · intro x hx
            simp only [List.mem_map] at hx
            obtain ⟨x', hx', rfl⟩ := hx
            obtain ⟨i, hi⟩ := List.getElem?_of_mem hx'
            obtain ⟨cs', y, _, h3, h4, _⟩ := hxs i x' hi
            rw [← h4.1]; exact (cells_at h3).1
          · intro i j x d h1 h2
            obtain ⟨v, h3, _⟩ := hat i j x d h1 h2
            rw [h3]; rfl
          · intro i j x d h1 h2
            obtain ⟨v, h3, h4⟩ := hat i j x d h1 h2
            simp only [h3, Option.getD_some]; exact h4
      · have h1 := bulk_len (elems.map (·.1))
        simp only [Rows.uptoBulk, List.length_map] at h1 ⊢; omega
      · obtain ⟨i, hi⟩ := List.getElem?_of_mem hx
        obtain ⟨cs', y, h2, _, _, h4⟩ := hxs i x hi
        refine de.up _ _ _ ?_ h4
        have := bulk_mem (x := y.1) (l := elems.map (·.1)) (List.mem_map.2 ⟨y, List.mem_of_getElem? h2, rfl⟩)
        simp only [Rows.uptoBulk]; omega
end Go.Proofs.YtlmhihccjbladaaGreatDoor

/- From a pure call to a row's statement. -/
set_option linter.unusedVariables false
set_option linter.unusedSimpArgs false
namespace Go.Proofs.YtlmhihccjbladaaGreatDoor
open Go Go.RowKit Go.ChangeShapes Go.WideShapes Go.ChangeAt
theorem Below.trodAll {H : Type} {enc : TypeId × Value → H} {P : Program} (hl : laidOutB P = true) {W W' : World} (hb : Below W.heap.size W W') : ∀ {ts : List TypeId} {vs : List Value} {ds : List (DataW H)} {ps : List MemPlace},
    ts.all (fun t => P.readableRec t && decide (t < P.types.size)) = true → DataW.TrodAll enc P W 0 (fun _ => true) true ts vs ds ps → (∀ x ∈ ps, x.block < W.heap.size) → DataW.TrodAll enc P W' 0 (fun b => decide (b < W.heap.size)) true ts vs ds ps
  | [], [], [], _, _, h, _ => h
  | [], [], _ :: _, _, _, h, _ => h.elim
  | [], _ :: _, _, _, _, h, _ => h.elim
  | _ :: _, [], _, _, _, h, _ => h.elim
  | _ :: _, _ :: _, [], _, _, h, _ => h.elim
  | t :: ts, v :: vs, d :: ds, ps, ha, h, hp => by
    simp only [List.all_cons, Bool.and_eq_true, decide_eq_true_eq] at ha
    obtain ⟨p, q, h1, h2, rfl⟩ := h
    exact ⟨p, q, Below.trod hl ha.1.1 ha.1.2 h1 hb (fun x hx => hp x (List.mem_append.2 (.inl hx))), Below.trodAll hl hb (by simpa using ha.2) h2 (fun x hx => hp x (List.mem_append.2 (.inr hx))), rfl⟩
theorem law_post {P : Program} {J : Inv} {f : FuncId} {fn : Func} {s : ChangeSpec} {tb : TypeId} (hl : laidOutB P = true) (hts : fn.params.toList.all (fun t => P.readableRec t && decide (t < P.types.size)) = true)
    (hv : s.vars = []) (hres : fn.resultTypes = #[tb]) (htb : P.underlying tb = some .bool) {H : Type} {enc : TypeId × Value → H} {W : World} {args : Array Value} {ds gs : List (DataW H)} {before : List MemPlace}
    (hW : DataW.Whole enc P fn.params.toList s.vars false W args.toList ds gs before) (hs : (s.fn H (ds ++ gs)).results = [.lit (.bool true)] ∧ (s.fn H (ds ++ gs)).args = ds ∧ (s.fn H (ds ++ gs)).vars = [])
    {us : List V} (pc : PureCall P J f us (.one (.d (.bool true)))) (hJ : J.I W) (hn : args.size = us.length) (hx : ∀ (i : Nat) (u : V) (v : Value), us[i]? = some u → args[i]? = some v → RV (noGh fun b => b < W.heap.size) noSh W u v) :
    Calls P f args W fun e W' => ∃ v, e = .returned v ∧ s.post enc P fn false true false false W args v W' := by
  have h := pc.calls (fun b => b < W.heap.size) W args.toList hJ (fun b hb => hb) (by simpa using hn) (fun i u v h1 h2 => hx i u v h1 (by simpa using h2))
  have h' : Calls P f args W _ := h
  refine h'.mono fun e W' ⟨v, im', he, hB, _, _, _, hr⟩ => ⟨v, he, ?_⟩
  obtain rfl : v = .bool true := by
    cases hr with | one _ _ h => cases h with | d _ _ h => cases h with | bool => rfl
  have hlt : ∀ x ∈ before, x.block < W.heap.size := fun x hx => by simpa using hW.lt x hx
  have hW' := hW
  obtain ⟨p, q, hA, hV, rfl, _, _⟩ := hW
  rw [hv] at hV
  have hgs : gs = [] ∧ q = [] := by
    cases gs with
    | nil => exact ⟨rfl, hV⟩
    | cons g gs => exact hV.elim
  obtain ⟨rfl, rfl⟩ := hgs
  refine ⟨ds, [], p ++ [], [], p, [], hW', ?_, ?_, ?_, hB.frame _, fun h => by cases h⟩
  · rw [hs.1, hres]
    exact trodAll_cons_mk (shut_bool htb true) trodAll_mk0
  · rw [hs.2.1]
    exact Below.trodAll hl hB hts hA (fun x hx => hlt x (by simp [hx]))
  · rw [hs.2.2, hv]; rfl
/-- An argument that is a struct or an array; one that is not. -/
theorem arg_agg {P : Program} {t : TypeId} {α : Type} (de : Dec P t α) {W : World} {r : Reach} {base : Nat} {v : Value} (ht : (match P.underlying t with | some (.struct _) | some (.array _ _) => true | _ => false) = true) (hv : Value.okWide P W r base t v)
    {H : Type} {enc : TypeId × Value → H} {d : DataW H} {ps : List MemPlace} (h : DataW.Trod enc P W 0 (fun _ => true) true t v d ps) : ∃ x : α, RV (noGh fun b => b < W.heap.size) noSh W (.agg ((de.ds x).map .d)) v ∧ de.wf (Rows.uptoBulk d) x := by
  obtain ⟨fuel, h⟩ := h
  obtain ⟨x, h1, h2⟩ := de.ok h
  refine ⟨x, ?_, h2⟩
  have hc : ∃ cs, v = .agg cs := by
    unfold Value.okWide at hv
    split at hv
    · exact ⟨_, hv.choose_spec.1⟩
    · exact ⟨_, hv.choose_spec.1⟩
    · rename_i h3 h4
      split at ht
      · rename_i fs h5; exact absurd h5 (h3 _)
      · rename_i n e h5; exact absurd h5 (h4 _ _)
      · cases ht
  obtain ⟨cs, rfl⟩ := hc
  have h3 : RDs W cs.toList (de.ds x) := h1
  have := RV.agg (g := noGh fun b => b < W.heap.size) (h := noSh) (w := W) ((de.ds x).map .d) cs.toList (by simp [h3.1]) (fun i c v hc hv => by
    simp only [List.getElem?_map, Option.map_eq_some_iff] at hc
    obtain ⟨d, hd, rfl⟩ := hc
    exact .d _ _ (h3.2 i v d hv hd))
  simpa using this
theorem arg_one {P : Program} {t : TypeId} {α : Type} (de : Dec P t α) {W : World} {r : Reach} {base : Nat} {v : Value} (ht : (match P.underlying t with | some .bool | some (.int _) | some .string | some (.slice _) | some (.pointer _) | some (.map _ _) => true | _ => false) = true) (hv : Value.okWide P W r base t v)
    {H : Type} {enc : TypeId × Value → H} {d : DataW H} {ps : List MemPlace} (h : DataW.Trod enc P W 0 (fun _ => true) true t v d ps) : ∃ x : α, (∀ e, de.ds x = [e] → RV (noGh fun b => b < W.heap.size) noSh W (.one (.d e)) v) ∧ de.wf (Rows.uptoBulk d) x := by
  obtain ⟨fuel, h⟩ := h
  obtain ⟨x, h1, h2⟩ := de.ok h
  refine ⟨x, fun e he => ?_, h2⟩
  have hc : v.cells.toList = [v] := by
    cases v with
    | agg cs =>
      exfalso
      unfold Value.okWide Cell.okWide Cell.ok at hv
      split at ht <;> simp_all
    | _ => rfl
  rw [hc, he] at h1
  exact .one _ _ (.d _ _ (h1.2 0 v e rfl rfl))
end Go.Proofs.YtlmhihccjbladaaGreatDoor

/- The world in which a row's call begins: what the listed variables give; a world for the witness. -/
set_option linter.unusedVariables false
set_option linter.unusedSimpArgs false
set_option maxRecDepth 100000
namespace Go.Proofs.YtlmhihccjbladaaGreatDoor
open Go Go.RowKit Go.ChangeShapes Go.WideShapes Go.ChangeAt
theorem trod_iface {H : Type} {enc : TypeId × Value → H} {P : Program} {w : World} {fuel : Nat} {t : TypeId} {cs : List Value} {nm : String} {x : DataW H} {p : List MemPlace} {ms : Array (String × TypeId)} (ht : P.underlying t = some (.interface ms))
    (h : DataW.trod enc P w 0 (fun _ => true) false fuel t cs = some (.iface nm x, p)) : ∃ u v, cs = [.iface u v] := by
  cases fuel with
  | zero => simp [DataW.trod] at h
  | succ fuel =>
    unfold DataW.trod at h
    rw [ht] at h
    split at h <;> first
      | exact ⟨_, _, rfl⟩
      | (simp_all; done)
theorem err_of {P : Program} {W : World} {n : String} {nm : String} {d : DataW Unit} {g : Nat} {t : TypeId} {ms : Array (String × TypeId)} (hg : P.globalNamed n = some g) (hty : (P.globals[g]?).map (·.type) = some t) (ht : P.underlying t = some (.interface ms))
    (h : Lib.VarReads P W n (.iface nm d)) : ∃ t p, W.var? P n = some #[.iface t p] := by
  obtain ⟨g', t', cs, fuel, p, hg', ht', hvar, hd⟩ := h
  obtain rfl := Option.some.inj (hg.symm.trans hg')
  obtain rfl := Option.some.inj (hty.symm.trans ht')
  obtain ⟨u, v, hc⟩ := trod_iface ht hd
  exact ⟨u, v, by rw [hvar]; congr 1; exact Array.ext' (by simpa using hc)⟩
theorem pow_of {W : World} (h : Lib.VarReads Tryz.prog W "internal/strconv.uint64pow10" Rows.laid_internal_strconv_uint64pow10) : Lib.TabIs Tryz.prog W "internal/strconv.uint64pow10" .u64 Lib.pow10Tab := by
  obtain ⟨g', t', cs, fuel, p, hg', ht', hvar, hd⟩ := h
  obtain rfl := Option.some.inj ((show Tryz.prog.globalNamed "internal/strconv.uint64pow10" = some 5 by kernel_rfl).symm.trans hg')
  obtain rfl := Option.some.inj ((show (Tryz.prog.globals[5]?).map (·.type) = some 180 by kernel_rfl).symm.trans ht')
  unfold Lib.TabIs
  rw [hvar, ← Lib.cells_of_tab (k := .u64) (zs := Lib.pow10Tab) Tryz.underlying180 Tryz.underlying160 (by kernel_rfl) (by kernel_rfl) hd]
theorem base_of {W : World} {l : List (String × DataW Unit)} (hl : laidMet Tryz.prog l W) (h1 : ("internal/strconv.uint64pow10", Rows.laid_internal_strconv_uint64pow10) ∈ l) (h2 : ("strconv.ErrSyntax", Rows.laid_strconv_ErrSyntax) ∈ l)
    (h3 : ("strconv.ErrRange", Rows.laid_strconv_ErrRange) ∈ l) (hS : W.ShapedOpen Tryz.prog) : J.I W where
  max := cell_of_shapedOpen_int (t := 3) (zero := #[.int .i64 0]) hS (of_decide_eq_true (by kernel_rfl)) (by kernel_rfl) rfl (by kernel_rfl) (by kernel_rfl) Tryz.underlying3
  pow := pow_of (Lib.laidMet.reads hl h1)
  esyn := err_of (g := 3) (by kernel_rfl) (by kernel_rfl) Tryz.underlying131 (Lib.laidMet.reads hl h2)
  eran := err_of (g := 4) (by kernel_rfl) (by kernel_rfl) Tryz.underlying131 (Lib.laidMet.reads hl h3)
mutual
def dcells : DataW Unit → List Value
  | .lit (.int k n) => [.int k n]
  | .agg ds => dcellsL ds
  | _ => []
def dcellsL : List (DataW Unit) → List Value
  | [] => []
  | d :: ds => dcells d ++ dcellsL ds
end
def putCs (cs : List Value) : Obj → Obj
  | .cells _ t fr => .cells cs.toArray t fr
  | o => o
def errText : DataW Unit → ByteArray
  | .iface _ (.ptr (.agg [.lit (.string s)])) => ⟨s.toArray⟩
  | _ => ByteArray.empty
def errCell (b : Nat) : List Value := [.iface 170 (.pointer (some ⟨b, 0, none⟩))]
/-- The settled world, the listed variables holding what their initialisers lay. -/
noncomputable def laidWorld (os : Os) : World :=
  { World.holding Tryz.prog os ⟨#[], #[], []⟩ with heap :=
    let h := (World.holding Tryz.prog os ⟨#[], #[], []⟩).heap
    let h := h.modify 5 (putCs (dcells Rows.laid_internal_strconv_uint64pow10))
    let h := h.modify 1 (putCs (dcells Rows.laid_unicode_utf8_first))
    let h := h.modify 2 (putCs (dcells Rows.laid_unicode_utf8_acceptRanges))
    let h := h.modify 6 (putCs (dcells Rows.laid_math_bits_deBruijn32tab))
    let h := h.modify 7 (putCs (dcells Rows.laid_math_bits_deBruijn64tab))
    let n := h.size
    let h := h.modify 3 (putCs (errCell n))
    let h := h.modify 4 (putCs (errCell (n + 1)))
    (h.push (.cells #[.string (errText Rows.laid_strconv_ErrSyntax)] 172 (0, 0))).push (.cells #[.string (errText Rows.laid_strconv_ErrRange)] 172 (0, 0)) }
end Go.Proofs.YtlmhihccjbladaaGreatDoor

/- Decoders of settings. -/
set_option linter.unusedVariables false
namespace Go.Proofs.YtlmhihccjbladaaGreatDoor
open Go Go.RowKit
def decStg : Dec Tryz.prog 34 Stg :=
  Dec.iso (Dec.struct Tryz.underlying34 (tot := 2) (by kernel_rfl)
    (DecF.cons (Dec.str Tryz.underlying9) rfl (n := 1) (by kernel_rfl) (DecF.cons (Dec.str Tryz.underlying9) rfl (n := 1) (by kernel_rfl) (DecF.nil 2))))
    (fun x => (⟨x.1, x.2.1⟩ : Stg)) stgD (fun N s => s.k.length < N ∧ s.v.length < N) (fun m n v h hv => ⟨Nat.lt_of_lt_of_le hv.1 h, Nat.lt_of_lt_of_le hv.2 h⟩) (fun _ => rfl)
    (fun N x hx => ⟨hx.1, hx.2.1⟩)
end Go.Proofs.YtlmhihccjbladaaGreatDoor

/- ChangesMatch: the contract of its row. -/
set_option linter.unusedVariables false
set_option linter.unusedSimpArgs false
set_option maxRecDepth 100000
set_option maxHeartbeats 4000000
namespace Go.Proofs.YtlmhihccjbladaaGreatDoor.fnChangesMatch
open Go Go.RowKit Go.ChangeShapes Go.WideShapes Go.ChangeAt
theorem contract (H : Type) (enc : TypeId × Value → H) (W : World) (base : Nat) (args : Array Value) (ds gs : List (DataW H)) (before : List MemPlace)
    (hval : ∀ (j : Nat) t v, Tryz.f3.params[j]? = some t → args[j]? = some v → Value.okWide Tryz.prog W .any base t v)
    (hW : DataW.Whole enc Tryz.prog Tryz.f3.params.toList Rows.changesMatchSpec.vars false W args.toList ds gs before) (hc : Rows.uptoSmall H (ds ++ gs) = true)
    (hL : laidMetH Tryz.prog Rows.changesMatchUptoRow.laid W) (hS : W.ShapedOpen Tryz.prog) :
    Calls Tryz.prog 3 args W fun e W' => ∃ v, e = .returned v ∧ Rows.changesMatchSpec.post enc Tryz.prog Tryz.f3 false true false false W args v W' := by
  have hW' := hW
  obtain ⟨p, q, hA0, hV, rfl, hfz, hnd⟩ := hW
  have hA : DataW.TrodAll enc Tryz.prog W 0 (fun _ => true) true Tryz.f3.params.toList args.toList ds p := hA0
  rw [Tryz.params3] at hA hval
  obtain ⟨v0, vs0, d0, ds0, p0, q0, hargs, rfl, rfl, h0, r0⟩ := trodAll_cons hA
  obtain ⟨v1, vs1, d1, ds1, p1, q1, rfl, rfl, rfl, h1, r1⟩ := trodAll_cons r0
  obtain ⟨rfl, rfl, rfl⟩ := trodAll_nil r1
  obtain rfl : args = #[v0, v1] := Array.ext' (by simpa using hargs)
  obtain ⟨rfl, rfl⟩ := trodVars_none hV
  obtain ⟨ys, e0, w0⟩ := arg_one (Dec.slice Tryz.underlying22 (sz := 2) (by kernel_rfl) (by decide) decStg) (by kernel_rfl) (hval 0 22 v0 rfl rfl) h0
  obtain ⟨zs, e1, w1⟩ := arg_one (Dec.slice Tryz.underlying22 (sz := 2) (by kernel_rfl) (by decide) decStg) (by kernel_rfl) (hval 1 22 v1 rfl rfl) h1
  have hbulk : Rows.uptoBulkAll ([d0, d1] ++ []) ≤ 1048576 := of_decide_eq_true hc
  simp only [List.append_nil, Rows.uptoBulkAll] at hbulk
  have h0 : ys.length < Rows.uptoBulk d0 ∧ ∀ u ∈ ys, u.k.length < Rows.uptoBulk d0 ∧ u.v.length < Rows.uptoBulk d0 := w0
  have h1 : zs.length < Rows.uptoBulk d1 ∧ ∀ u ∈ zs, u.k.length < Rows.uptoBulk d1 ∧ u.v.length < Rows.uptoBulk d1 := w1
  have pc := pc_outlaw2_ChangesMatch ys zs (by omega) (fun u hu => by have := h0.2 u hu; omega) (by omega) (fun u hu => by have := h1.2 u hu; omega)
  refine law_post (by kernel_rfl) (by kernel_rfl) rfl rfl Tryz.underlying4 hW' ⟨rfl, rfl, rfl⟩ pc (base_of (l := Rows.changesMatchUptoRow.laid) hL (.tail _ (.tail _ (.head _))) (.tail _ (.tail _ (.tail _ (.tail _ (.tail _ (.head _)))))) (.tail _ (.tail _ (.tail _ (.tail _ (.head _))))) hS) rfl (fun i u v hu hv => ?_)
  match i with
  | 0 => simp at hu hv; subst hu; subst hv; exact e0 _ rfl
  | 1 => simp at hu hv; subst hu; subst hv; exact e1 _ rfl
  | i + 2 => simp at hu
end Go.Proofs.YtlmhihccjbladaaGreatDoor.fnChangesMatch

/- ChangesMatch: where what it reads is of bulk at most 1048576, it returns true, and what it was given reads as it did. -/
set_option linter.unusedVariables false
set_option linter.unusedSimpArgs false
namespace Go.Proofs.YtlmhihccjbladaaGreatDoor.fnChangesMatch
open Go Go.RowKit Go.ChangeShapes Go.WideShapes Go.ChangeAt
def zargs : Array Value := #[.slice none 0 0, .slice none 0 0]
set_option maxRecDepth 100000 in
theorem laid_met (os : Os) : laidMet Tryz.prog Rows.changesMatchUptoRow.laid ((laidWorld os).forCall (fun _ _ => 0) ⟨#[], zargs, []⟩).memory :=
  laidMet_of_run' 8 (by kernel_rfl) (by kernel_rfl)
set_option maxRecDepth 100000 in
theorem reads (os : Os) {H : Type} (enc : TypeId × Value → H) : ∃ ds places, DataW.whole enc Tryz.prog ((laidWorld os).forCall (fun _ _ => 0) ⟨#[], zargs, []⟩).memory Tryz.f3.params.toList Rows.changesMatchSpec.vars false zargs.toList 8 = some (ds, [], places) ∧ Rows.uptoSmall H (ds ++ []) = true :=
  ⟨[.nil, .nil], [], by kernel_rfl, by kernel_rfl⟩
theorem own : ownKnob Tryz.prog.godebug = none := by kernel_rfl
set_option maxRecDepth 100000 in
theorem liftedUpto (os : Os) (started : os.Started) (H : Type) (enc : TypeId × Value → H) (F : Stop.Interp) :
    ReturnsInHanded {} Tryz.checked os 3 .any ((Rows.OpenSpec.upto Rows.changesMatchSpec).preRow enc Tryz.prog Tryz.f3 Rows.changesMatchUptoRow.domain false Rows.changesMatchUptoRow.laid) (((Rows.OpenSpec.upto Rows.changesMatchSpec).at F).post enc Tryz.prog Tryz.f3 false true false false) := by
  obtain ⟨ds, places, hx, hsm⟩ := reads os enc
  refine returnsInHanded_of_row (C := Tryz.checked) (s := Rows.OpenSpec.upto Rows.changesMatchSpec) own started (by kernel_rfl) Tryz.func3
    (witness_row_at (enc := enc) (C := Tryz.checked) false (laidWorld os) zargs rfl (by kernel_rfl) (by kernel_rfl) (by kernel_rfl)
      (OpenSpec.preRow_of_cond 8 hx (by kernel_rfl) (fun k hk => by cases hk; exact hsm) (by kernel_rfl) (laid_met os))) ?_
  intro W base args ds gs before hval hW _ hcond _ hL hS _
  exact contract H enc W base args ds gs before hval hW (hcond _ rfl) hL hS
theorem band {a b : Bool} (ha : a = true) (hb : b = true) : (a && b) = true := by rw [ha, hb]; rfl
set_option maxRecDepth 100000 in
theorem closed : joinedFacts Tryz.pinned.checked.prog 3 Tryz.f3 (Rows.OpenSpec.upto Rows.changesMatchSpec).bare Rows.changesMatchUptoRow = true := by
  unfold joinedFacts
  refine band (band (band (band (band (band (band (band (band (band (band (band (band (band (band (band (band (band (band (band (band (band (band (band (band (band (band (band (band (band (band ?_ ?_) ?_) ?_) ?_) ?_) ?_) ?_) ?_) ?_) ?_) ?_) ?_) ?_) ?_) ?_) ?_) ?_) ?_) ?_) ?_) ?_) ?_) ?_) ?_) ?_) ?_) ?_) ?_) ?_) ?_) ?_
  all_goals (as_aux_lemma => kernel_rfl)
theorem saidUpto : Rows.ChangesMatchUptoSaid :=
  OpenClaim.holds_of_cond 3 Tryz.f3 rfl rfl rfl rfl rfl rfl rfl ⟨rfl, rfl, rfl, rfl, rfl⟩ rfl rfl rfl rfl rfl (by as_aux_lemma => kernel_rfl) Tryz.func3 closed
    (of_decide_eq_true (by kernel_rfl)) (by unfold Func.isWrapper; first | (rw [if_pos (by decide +kernel)]; kernel_rfl) | (rw [if_neg (by decide +kernel)]; exact ⟨rfl, rfl⟩))
    (fun os started H enc _ F => by rw [OpenClaim.pre_eq_preRow]; exact liftedUpto os started H enc F)
theorem plain (f : FuncId) (fn : Func) (hf : Tryz.pinned.checked.prog.funcNamed "outfitter/outlaw2.ChangesMatch" = some f) (hfn : Tryz.pinned.checked.prog.funcs[f]? = some fn) :
    true = Tryz.pinned.checked.prog.looks [] ∧ ∀ (j : Nat) t, fn.params[j]? = some t → Tryz.pinned.checked.prog.wantsStandIn t = false := by
  obtain rfl : f = 3 := Option.some.inj ((show Tryz.prog.funcNamed "outfitter/outlaw2.ChangesMatch" = some 3 by kernel_rfl).symm.trans hf) |>.symm
  obtain rfl : fn = Tryz.f3 := (Option.some.inj (Tryz.func3.symm.trans hfn)).symm
  refine ⟨by kernel_rfl, fun j t ht => ?_⟩
  rw [Tryz.params3] at ht
  have hm : t = 22 := by
    have h1 := Array.mem_of_getElem? ht
    have h2 : t = 22 ∨ t = 22 := by simpa using h1
    rcases h2 with h | h <;> rw [h] <;> simp
  subst hm
  exact (show Tryz.prog.wantsStandIn 22 = false by kernel_rfl)
theorem cardUpto : Rows.ChangesMatchUptoCardSaid :=
  Claim7.holds_tied_plain_at .later [] _ _ _ _ saidUpto (fun _ h => by cases h) (by kernel_rfl) (fun _ h => by cases h) changesMatchUpto_row_tie rfl ⟨rfl, rfl⟩ (by kernel_rfl) rfl plain (by kernel_rfl)
end Go.Proofs.YtlmhihccjbladaaGreatDoor.fnChangesMatch
