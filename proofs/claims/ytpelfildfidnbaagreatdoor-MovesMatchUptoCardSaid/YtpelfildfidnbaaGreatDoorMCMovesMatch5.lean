/- MovesMatch: where what it reads is of bulk at most 1048576, it returns true, and what it was given reads as it did. -/
import Derived.Test.YtpelfildfidnbaaGreatDoorRows
import Derived.Lib.LaidTab
import Derived.Carry
import Derived.ChangeSame
import Derived.OpenVars
import Derived.OpenShut
import Derived.WalkKit
import Derived.ProofKit
import Derived.Deep.DeepHandedRow
import Derived.Test.YtpelfildfidnbaaGreatDoorCards
import Derived.Test.YtpelfildfidnbaaGreatDoorTie
import Derived.Lib.LaidU8
import Derived.Shelf.Vars
import Derived.Deep.DeepLaidRun
import Derived.Test.YtpelfildfidnbaaGreatDoorMCMovesMatch4
set_option linter.unusedVariables false
set_option linter.unusedSimpArgs false
set_option maxRecDepth 100000
set_option maxHeartbeats 4000000
namespace Go.Proofs.YtpelfildfidnbaaGreatDoor
section
open Go
open Go.RowKit
attribute [local irreducible] thenK blockK W
attribute [local irreducible] rangeB pathB nameB valueB firstNe tailOf listT ndT badP sortS belowR prefT stepE
theorem pc_keys204 (es : List (DV × DV)) :
  HCall Tryz.prog J 204 ([.one (.map 0)]) ([]) ([]) ([es]) (isH (.one (.clo 245 [.ptr 0 0])) ([[.map 0]]) ([]) ([es])) := by
 refine HCall.ofD tOk ⟨1, 0, 1⟩ (fn := Tryz.f204) Tryz.func204 (by kernel_rfl) rfl (Nat.le_of_ble_eq_true rfl) (fun E => ?_)
 apply Y1
 refine S.box rfl rfl rfl rfl ?_
 refine Yp rfl ?_
 apply Y3
 refine S.makeFunc rfl rfl rfl ?_
 refine Yp rfl ?_
 apply Yn
 apply Yt
 exact ⟨_, rfl, rfl, LeG.refl _, rfl, rfl, rfl⟩
theorem pc_settings (u : Tab) (hd : ndT u) (hl : ∀ x ∈ u, x.1.length ≤ 2000000) (hn : u.length ≤ 1000000) :
  HCall Tryz.prog J 146 ([.one (.map 0)]) ([]) ([]) ([tabD u]) (isH (.one (.d (.vec 2 ((listT u).map stgD)))) ([]) ([]) ([tabD u])) := by
 have hkl := keysT_len u
 refine HCall.ofD tOk ⟨0, 0, 1⟩ (fn := Tryz.f146) Tryz.func146 (by kernel_rfl) rfl (Nat.le_of_ble_eq_true rfl) (fun E => ?_)
 iterate 8 first|refine Yp rfl ?_|apply Y1|apply Y3|apply Ys|apply Yn
 refine S.hcallD rfl rfl rfl rfl (pc_keys204 (tabD u)) ?_
 refine S.hcallD rfl rfl rfl rfl (pc_Sorted_204 u (by omega) (fun x hx => Nat.le_trans (hl x hx) (by decide)) (nd_keys hd)) ?_
 iterate 2 refine Yp rfl ?_
 apply Yn
 refine W.newRow 3 2 40 rfl ?_
 apply Yb
 refine W.loop (fun k st => ∃ i : Nat, ∃ v : Nat, ∃ al : Bool, i ≤ (keysT u).length ∧ k = (keysT u).length - i ∧ ∃ t b2 r2 m2, st = ⟨t, [] ++ b2, [some ⟨al, v, 2, 40, (listTo u i).map stgD⟩] ++ r2, [tabD u] ++ m2⟩ ∧ holdsL t [(0, .one (.map 0)), (3, .one (.row 0 v 0 ((listTo u i).map stgD).length)), (8, .one (.d (.vec 1 ((keysT u).map fun x => [.str x])))), (9, .one (.d (.int .i64 (((keysT u).map fun x => ([.str x] : List D)).length : Int)))), (10, .one (.d (.int .i64 (i : Int))))]) ((keysT u).length) ⟨0, _, _, Nat.zero_le _, rfl, _, _, _, _, rfl, rfl, rfl, rfl, rfl, rfl, trivial⟩ ?_
 rintro k0 _ ⟨i, v, al, f0_0, rfl, t0, bb0, rr0, mm0, rfl, hh0⟩
 refine W.keepR _ _ _ _ _ _ _ hh0 rfl ?_
 apply Y1
 refine Yp rfl ?_
 apply Yn
 apply Ys
 refine W.cond rfl (fun c1=>?_) fun c1=>?_
 ·skip
  have hi := row_lt c1
  have hll := listTo_len u (Nat.le_of_lt hi)
  apply Yk
  apply Yn
  apply Ys
  apply Yb
  apply Y1
  refine YE rfl (row_ok hi) (row_at [] hi) rfl ?_
  iterate 7 first|refine Yp rfl ?_|apply Y4
  refine S.lookup tOk keyS (fD := fun v : List UInt8 => DV.one (.str v)) [] (u) rfl rfl rfl rfl rfl rfl rfl rfl rfl rfl (show mapV false _ _ = _ from rfl) ?_
  refine Yp rfl ?_
  refine S.slice tOk rfl rfl ?_
  refine S.append tOk rfl rfl rfl rfl rfl rfl rfl rfl rfl rfl rfl rfl (by show _ + 1 ≤ _; rw [List.length_map, hll]; omega) rfl (listTo_succ hi) rfl ?_
  iterate 5 first|refine Yp rfl ?_|apply Yw|apply Y4
  refine loop_n ((keysT u).length - (i + 1)) (by omega) ⟨i + 1, _, _, hi, rfl, _, _, _, _, rfl, rfl, rfl, rfl, rfl, inc_i64 (by omega), trivial⟩
 have hi := row_ge c1
 obtain rfl : i = (keysT u).length := by omega
 rw [listTo_end]
 apply Yq
 apply Ye
 apply Ye
 apply Yx
 apply Yn
 apply Ys
 refine W.freeze (ri := 0) (q := ⟨_, _, _, _, _⟩) [3] rfl (by intro k hk; simp at hk; subst hk; rfl) ?_
 apply Yr
 iterate 2 refine Yp rfl ?_
 apply Yn
 apply Yt
 exact ⟨_, rfl, rfl, LeG.refl _, rfl, rfl, rfl⟩
theorem pc_keys148 (es : List (DV × DV)) :
  HCall Tryz.prog J 148 ([.one (.map 0)]) ([]) ([]) ([es]) (isH (.one (.clo 207 [.ptr 0 0])) ([[.map 0]]) ([]) ([es])) := by
 refine HCall.ofD tOk ⟨1, 0, 1⟩ (fn := Tryz.f148) Tryz.func148 (by kernel_rfl) rfl (Nat.le_of_ble_eq_true rfl) (fun E => ?_)
 apply Y1
 refine S.box rfl rfl rfl rfl ?_
 refine Yp rfl ?_
 apply Y3
 refine S.makeFunc rfl rfl rfl ?_
 refine Yp rfl ?_
 apply Yn
 apply Yt
 exact ⟨_, rfl, rfl, LeG.refl _, rfl, rfl, rfl⟩
theorem pc_Listed (u : Tab) (hd : ndT u) (hl : ∀ x ∈ u, x.1.length ≤ 2000000) (hn : u.length ≤ 1000000) :
  HCall Tryz.prog J 89 ([.one (.map 0)]) ([]) ([]) ([tabD u]) (isH (.one (.d (.vec 2 ((listT u).map stgD)))) ([]) ([]) ([tabD u])) := by
 have hkl := keysT_len u
 refine HCall.ofD tOk ⟨0, 0, 1⟩ (fn := Tryz.f89) Tryz.func89 (by kernel_rfl) rfl (Nat.le_of_ble_eq_true rfl) (fun E => ?_)
 iterate 8 first|refine Yp rfl ?_|apply Y1|apply Y3|apply Ys|apply Yn
 refine S.hcallD rfl rfl rfl rfl (pc_keys148 (tabD u)) ?_
 refine S.hcallD rfl rfl rfl rfl (pc_Sorted_148 u (by omega) (fun x hx => Nat.le_trans (hl x hx) (by decide)) (nd_keys hd)) ?_
 iterate 2 refine Yp rfl ?_
 apply Yn
 refine W.newRow 3 2 40 rfl ?_
 apply Yb
 refine W.loop (fun k st => ∃ i : Nat, ∃ v : Nat, ∃ al : Bool, i ≤ (keysT u).length ∧ k = (keysT u).length - i ∧ ∃ t b2 r2 m2, st = ⟨t, [] ++ b2, [some ⟨al, v, 2, 40, (listTo u i).map stgD⟩] ++ r2, [tabD u] ++ m2⟩ ∧ holdsL t [(0, .one (.map 0)), (3, .one (.row 0 v 0 ((listTo u i).map stgD).length)), (8, .one (.d (.vec 1 ((keysT u).map fun x => [.str x])))), (9, .one (.d (.int .i64 (((keysT u).map fun x => ([.str x] : List D)).length : Int)))), (10, .one (.d (.int .i64 (i : Int))))]) ((keysT u).length) ⟨0, _, _, Nat.zero_le _, rfl, _, _, _, _, rfl, rfl, rfl, rfl, rfl, rfl, trivial⟩ ?_
 rintro k0 _ ⟨i, v, al, f0_0, rfl, t0, bb0, rr0, mm0, rfl, hh0⟩
 refine W.keepR _ _ _ _ _ _ _ hh0 rfl ?_
 apply Y1
 refine Yp rfl ?_
 apply Yn
 apply Ys
 refine W.cond rfl (fun c1=>?_) fun c1=>?_
 ·skip
  have hi := row_lt c1
  have hll := listTo_len u (Nat.le_of_lt hi)
  apply Yk
  apply Yn
  apply Ys
  apply Yb
  apply Y1
  refine YE rfl (row_ok hi) (row_at [] hi) rfl ?_
  iterate 7 first|refine Yp rfl ?_|apply Y4
  refine S.lookup tOk keyS (fD := fun v : List UInt8 => DV.one (.str v)) [] (u) rfl rfl rfl rfl rfl rfl rfl rfl rfl rfl (show mapV false _ _ = _ from rfl) ?_
  refine Yp rfl ?_
  refine S.slice tOk rfl rfl ?_
  refine S.append tOk rfl rfl rfl rfl rfl rfl rfl rfl rfl rfl rfl rfl (by show _ + 1 ≤ _; rw [List.length_map, hll]; omega) rfl (listTo_succ hi) rfl ?_
  iterate 5 first|refine Yp rfl ?_|apply Yw|apply Y4
  refine loop_n ((keysT u).length - (i + 1)) (by omega) ⟨i + 1, _, _, hi, rfl, _, _, _, _, rfl, rfl, rfl, rfl, rfl, inc_i64 (by omega), trivial⟩
 have hi := row_ge c1
 obtain rfl : i = (keysT u).length := by omega
 rw [listTo_end]
 apply Yq
 apply Ye
 apply Ye
 apply Yx
 apply Yn
 apply Ys
 refine W.freeze (ri := 0) (q := ⟨_, _, _, _, _⟩) [3] rfl (by intro k hk; simp at hk; subst hk; rfl) ?_
 apply Yr
 iterate 2 refine Yp rfl ?_
 apply Yn
 apply Yt
 exact ⟨_, rfl, rfl, LeG.refl _, rfl, rfl, rfl⟩
theorem two_not {r : Rul} {u : Tab} (h : (r.kd == 2) = false) : (r.kd == 2 && badP u r.k r.tu) = false := by rw [h]; rfl
theorem two_is {r : Rul} {u : Tab} (h : (r.kd == 2) = true) : (r.kd == 2 && badP u r.k r.tu) = badP u r.k r.tu := by rw [h]; rfl
theorem one_two {r : Rul} (h : (r.kd == 1) = true) : (r.kd == 2) = false := by have := beq_iff_eq.1 h; rw [this]; rfl
theorem do_pref {r : Rul} {u : Tab} (h : (r.kd == 2) = true) : doT u r = prefT u r.k r.tu := by have := beq_iff_eq.1 h; unfold doT; rw [this]; rfl
def doX (u : Tab) (r : Rul) : Tab := if (r.kd == 2 && badP u r.k r.tu) = true then u else doT u r
theorem doX_f {u : Tab} {r : Rul} (h : (r.kd == 2 && badP u r.k r.tu) = false) : doX u r = doT u r := if_neg (Bool.eq_false_iff.1 h)
theorem do_wit {u tab : Tab} {r : Rul} (hb : (r.kd == 2 && badP u r.k r.tu) = false) (h : EqT tab (doT u r)) : EqT tab (doX u r) := by rw [doX_f hb]; exact h
theorem do_bad {u tab : Tab} {r : Rul} (hb : (r.kd == 2 && badP u r.k r.tu) = true) (h : EqT tab u) : EqT tab (doX u r) := by unfold doX; rw [if_pos hb]; exact h
theorem tabD_len (u : Tab) : ((tabD u).length : Int) = (u.length : Int) := by simp [tabD, mapOf]
theorem pc_do (u : Tab) (r : Rul) (hr : RulB r) (hd : ndT u) (hl : ∀ x ∈ u, x.1.length ≤ 2000000) (hn : u.length ≤ 1000000) :
  HCall Tryz.prog J 145 ([.one (.map 0), .agg [.d (.int .i64 r.kd), .d (.str r.k), .d (.str r.tu), .d (.str r.old), .d (.str r.nu)]]) ([]) ([]) ([tabD u]) (isX (X := Tab) (fun tab => EqT tab (doX u r)) (fun tab => .one (.d (.int .i64 (stepE u r)))) (fun tab => []) (fun tab => []) (fun tab => [tabD tab])) := by
 obtain ⟨hr1, hr2, hr3, hr4⟩ := hr
 refine HCall.ofX tOk (fun _ => ⟨0, 0, 1⟩) (fn := Tryz.f145) Tryz.func145 (by kernel_rfl) rfl (Nat.le_of_ble_eq_true rfl) (fun E => ?_)
 iterate 7 first|refine Yp rfl ?_|refine S.box rfl rfl rfl rfl ?_|apply Y3|apply Y1
 refine S.lookup tOk keyS (fD := fun v : List UInt8 => DV.one (.str v)) [] (u) rfl rfl rfl rfl rfl rfl rfl rfl rfl rfl (show mapV true _ _ = V.tup [_, _] from rfl) ?_
 iterate 16 first|refine Yp rfl ?_|apply Yb|apply Y1|apply Yn|apply Ys
 refine W.cond rfl (fun c1=>?_) fun c1=>?_
 ·skip
  apply Y1
  refine Yp rfl ?_
  apply Yn
  refine W.cond rfl (fun c2=>?_) fun c2=>?_
  ·skip
   apply Y1
   iterate 3 refine Yp rfl ?_
   refine S.mapDelete tOk keyS (fD := fun v : List UInt8 => DV.one (.str v)) (u) rfl rfl rfl rfl rfl rfl rfl (show _ = [tabD (delL beqS u r.k)] from rfl) ?_
   apply Y4
   iterate 4 refine Yp rfl ?_
   refine S.mapUpdate tOk keyS (fD := fun v : List UInt8 => DV.one (.str v)) (getL beqS [] u r.k) (delL beqS u r.k) rfl rfl rfl rfl rfl rfl rfl rfl (show _ = [tabD (setL beqS (delL beqS u r.k) (r.tu) (getL beqS [] u r.k))] from rfl) ?_
   apply Yw
   apply Yn
   iterate 2 apply Ys
   have hb := two_not (u := u) (one_two c1)
   have hT : EqT (setL beqS (delL beqS u r.k) (r.tu) (getL beqS [] u r.k)) (doT u r) := by unfold doT; simp only [c1, c2, Bool.false_eq_true, if_false, if_true, ↓reduceIte]; exact EqT.refl (by first | exact hd | exact nd_set (nd_del hd _) _ _ | exact nd_set hd _ _ | exact nd_del hd _)
   apply Yr
   refine Yp rfl ?_
   refine S.mapLen tOk rfl rfl rfl rfl (tabD_len _) ?_
   refine Yp rfl ?_
   apply Yn
   refine W.cond rfl (fun c3=>?_) fun c3=>?_
   ·skip
    apply Y1
    refine Yp rfl ?_
    apply Yn
    apply Yt
    apply Yu
    exact ⟨_, do_wit hb hT, _, rfl, rfl, LeG.of_force rfl (by rw [step_4 hT hb c3]; rfl), rfl, rfl, rfl⟩
   apply Yk
   apply Y3
   refine Yp rfl ?_
   apply Yn
   apply Yt
   exact ⟨_, do_wit hb hT, _, rfl, rfl, LeG.of_force rfl (by rw [step_0 hT hb c3]; rfl), rfl, rfl, rfl⟩
  apply Yk
  apply Yw
  apply Yn
  iterate 2 apply Ys
  have hb := two_not (u := u) (one_two c1)
  have hT : EqT (u) (doT u r) := by unfold doT; simp only [c1, c2, Bool.false_eq_true, if_false, if_true, ↓reduceIte]; exact EqT.refl (by first | exact hd | exact nd_set (nd_del hd _) _ _ | exact nd_set hd _ _ | exact nd_del hd _)
  apply Yr
  refine Yp rfl ?_
  refine S.mapLen tOk rfl rfl rfl rfl (tabD_len _) ?_
  refine Yp rfl ?_
  apply Yn
  refine W.cond rfl (fun c4=>?_) fun c4=>?_
  ·skip
   apply Y1
   refine Yp rfl ?_
   apply Yn
   apply Yt
   apply Yu
   exact ⟨_, do_wit hb hT, _, rfl, rfl, LeG.of_force rfl (by rw [step_4 hT hb c4]; rfl), rfl, rfl, rfl⟩
  apply Yk
  apply Y3
  refine Yp rfl ?_
  apply Yn
  apply Yt
  exact ⟨_, do_wit hb hT, _, rfl, rfl, LeG.of_force rfl (by rw [step_0 hT hb c4]; rfl), rfl, rfl, rfl⟩
 apply Y1
 iterate 2 refine Yp rfl ?_
 apply Yn
 refine W.cond rfl (fun c5=>?_) fun c5=>?_
 ·skip
  apply Y1
  iterate 5 refine Yp rfl ?_
  refine S.hcallX rfl rfl rfl rfl ((pc_prefix u r.k r.tu hd hl (by omega) (by omega)).frameX [] [] [0] rfl rfl rfl rfl rfl (fun _ => rfl) (fun _ => rfl) (fun _ => rfl) (fun _ => rfl)) ?_
  rintro tab1 h1
  refine Yp rfl ?_
  apply Yn
  refine W.cond rfl (fun c6=>?_) fun c6=>?_
  ·skip
   have hb1 : badP u r.k r.tu = true := by simpa using c6
   have hb := (two_is (u := u) c5).trans hb1
   apply Y1
   refine Yp rfl ?_
   apply Yn
   apply Yt
   apply Yv
   apply Yu
   exact ⟨tab1, do_bad hb (by rw [if_pos hb1] at h1; exact h1), _, rfl, rfl, LeG.of_force rfl (by rw [step_5 hb]; rfl), rfl, rfl, rfl⟩
  apply Yk
  apply Yw
  apply Yn
  iterate 2 apply Ys
  have hb0 : badP u r.k r.tu = false := by simpa using c6
  have hb := (two_is (u := u) c5).trans hb0
  have hT : EqT tab1 (doT u r) := by rw [do_pref c5]; rw [if_neg (Bool.eq_false_iff.1 hb0)] at h1; exact h1
  apply Yr
  refine Yp rfl ?_
  refine S.mapLen tOk rfl rfl rfl rfl (tabD_len _) ?_
  refine Yp rfl ?_
  apply Yn
  refine W.cond rfl (fun c7=>?_) fun c7=>?_
  ·skip
   apply Y1
   refine Yp rfl ?_
   apply Yn
   apply Yt
   apply Yu
   exact ⟨_, do_wit hb hT, _, rfl, rfl, LeG.of_force rfl (by rw [step_4 hT hb c7]; rfl), rfl, rfl, rfl⟩
  apply Yk
  apply Y3
  refine Yp rfl ?_
  apply Yn
  apply Yt
  exact ⟨_, do_wit hb hT, _, rfl, rfl, LeG.of_force rfl (by rw [step_0 hT hb c7]; rfl), rfl, rfl, rfl⟩
 apply Y1
 iterate 2 refine Yp rfl ?_
 apply Yn
 refine W.cond rfl (fun c8=>?_) fun c8=>?_
 ·skip
  apply Y1
  refine Yp rfl ?_
  apply Yn
  refine W.cond rfl (fun c9=>?_) fun c9=>?_
  ·skip
   apply Yr
   iterate 4 refine Yp rfl ?_
   refine S.mapUpdate tOk keyS (fD := fun v : List UInt8 => DV.one (.str v)) (getL beqS [] u r.k) (u) rfl rfl rfl rfl rfl rfl rfl rfl (show _ = [tabD (setL beqS (u) (r.tu) (getL beqS [] u r.k))] from rfl) ?_
   apply Yw
   apply Yn
   iterate 2 apply Ys
   have hb := two_not (u := u) c5
   have hT : EqT (setL beqS (u) (r.tu) (getL beqS [] u r.k)) (doT u r) := by unfold doT; simp only [c1, c5, c8, c9, Bool.false_eq_true, if_false, if_true, ↓reduceIte]; exact EqT.refl (by first | exact hd | exact nd_set (nd_del hd _) _ _ | exact nd_set hd _ _ | exact nd_del hd _)
   apply Yr
   refine Yp rfl ?_
   refine S.mapLen tOk rfl rfl rfl rfl (tabD_len _) ?_
   refine Yp rfl ?_
   apply Yn
   refine W.cond rfl (fun c10=>?_) fun c10=>?_
   ·skip
    apply Y1
    refine Yp rfl ?_
    apply Yn
    apply Yt
    apply Yu
    exact ⟨_, do_wit hb hT, _, rfl, rfl, LeG.of_force rfl (by rw [step_4 hT hb c10]; rfl), rfl, rfl, rfl⟩
   apply Yk
   apply Y3
   refine Yp rfl ?_
   apply Yn
   apply Yt
   exact ⟨_, do_wit hb hT, _, rfl, rfl, LeG.of_force rfl (by rw [step_0 hT hb c10]; rfl), rfl, rfl, rfl⟩
  apply Yk
  apply Yw
  apply Yn
  iterate 2 apply Ys
  have hb := two_not (u := u) c5
  have hT : EqT (u) (doT u r) := by unfold doT; simp only [c1, c5, c8, c9, Bool.false_eq_true, if_false, if_true, ↓reduceIte]; exact EqT.refl (by first | exact hd | exact nd_set (nd_del hd _) _ _ | exact nd_set hd _ _ | exact nd_del hd _)
  apply Yr
  refine Yp rfl ?_
  refine S.mapLen tOk rfl rfl rfl rfl (tabD_len _) ?_
  refine Yp rfl ?_
  apply Yn
  refine W.cond rfl (fun c11=>?_) fun c11=>?_
  ·skip
   apply Y1
   refine Yp rfl ?_
   apply Yn
   apply Yt
   apply Yu
   exact ⟨_, do_wit hb hT, _, rfl, rfl, LeG.of_force rfl (by rw [step_4 hT hb c11]; rfl), rfl, rfl, rfl⟩
  apply Yk
  apply Y3
  refine Yp rfl ?_
  apply Yn
  apply Yt
  exact ⟨_, do_wit hb hT, _, rfl, rfl, LeG.of_force rfl (by rw [step_0 hT hb c11]; rfl), rfl, rfl, rfl⟩
 apply Y1
 iterate 2 refine Yp rfl ?_
 apply Yn
 refine W.cond rfl (fun c12=>?_) fun c12=>?_
 ·skip
  apply Yr
  iterate 5 refine Yp rfl ?_
  refine S.mapUpdate tOk keyS (fD := fun v : List UInt8 => DV.one (.str v)) (r.nu) (u) rfl rfl rfl rfl rfl rfl rfl rfl (show _ = [tabD (setL beqS (u) (r.k) (r.nu))] from rfl) ?_
  apply Yw
  apply Yn
  iterate 2 apply Ys
  have hb := two_not (u := u) c5
  have hT : EqT (setL beqS (u) (r.k) (r.nu)) (doT u r) := by unfold doT; simp only [c1, c5, c8, c12, Bool.false_eq_true, if_false, if_true, ↓reduceIte]; exact EqT.refl (by first | exact hd | exact nd_set (nd_del hd _) _ _ | exact nd_set hd _ _ | exact nd_del hd _)
  apply Yr
  refine Yp rfl ?_
  refine S.mapLen tOk rfl rfl rfl rfl (tabD_len _) ?_
  refine Yp rfl ?_
  apply Yn
  refine W.cond rfl (fun c13=>?_) fun c13=>?_
  ·skip
   apply Y1
   refine Yp rfl ?_
   apply Yn
   apply Yt
   apply Yu
   exact ⟨_, do_wit hb hT, _, rfl, rfl, LeG.of_force rfl (by rw [step_4 hT hb c13]; rfl), rfl, rfl, rfl⟩
  apply Yk
  apply Y3
  refine Yp rfl ?_
  apply Yn
  apply Yt
  exact ⟨_, do_wit hb hT, _, rfl, rfl, LeG.of_force rfl (by rw [step_0 hT hb c13]; rfl), rfl, rfl, rfl⟩
 apply Y1
 iterate 2 refine Yp rfl ?_
 apply Yn
 refine W.cond rfl (fun c14=>?_) fun c14=>?_
 ·skip
  apply Y1
  iterate 2 refine Yp rfl ?_
  apply Yn
  refine W.cond rfl (fun c15=>?_) fun c15=>?_
  ·skip
   apply Yr
   iterate 5 refine Yp rfl ?_
   refine S.mapUpdate tOk keyS (fD := fun v : List UInt8 => DV.one (.str v)) (r.nu) (u) rfl rfl rfl rfl rfl rfl rfl rfl (show _ = [tabD (setL beqS (u) (r.k) (r.nu))] from rfl) ?_
   apply Yw
   apply Yn
   iterate 2 apply Ys
   have hz : hasL beqS u r.k = false := by simpa using c15
   have hb := two_not (u := u) c5
   have hT : EqT (setL beqS (u) (r.k) (r.nu)) (doT u r) := by unfold doT; simp only [c1, c5, c8, c12, c14, hz, Bool.false_eq_true, if_false, if_true, ↓reduceIte]; exact EqT.refl (by first | exact hd | exact nd_set (nd_del hd _) _ _ | exact nd_set hd _ _ | exact nd_del hd _)
   apply Yr
   refine Yp rfl ?_
   refine S.mapLen tOk rfl rfl rfl rfl (tabD_len _) ?_
   refine Yp rfl ?_
   apply Yn
   refine W.cond rfl (fun c16=>?_) fun c16=>?_
   ·skip
    apply Y1
    refine Yp rfl ?_
    apply Yn
    apply Yt
    apply Yu
    exact ⟨_, do_wit hb hT, _, rfl, rfl, LeG.of_force rfl (by rw [step_4 hT hb c16]; rfl), rfl, rfl, rfl⟩
   apply Yk
   apply Y3
   refine Yp rfl ?_
   apply Yn
   apply Yt
   exact ⟨_, do_wit hb hT, _, rfl, rfl, LeG.of_force rfl (by rw [step_0 hT hb c16]; rfl), rfl, rfl, rfl⟩
  apply Yk
  apply Yw
  apply Yn
  iterate 2 apply Ys
  have hz : hasL beqS u r.k = true := by simpa using c15
  have hb := two_not (u := u) c5
  have hT : EqT (u) (doT u r) := by unfold doT; simp only [c1, c5, c8, c12, c14, hz, Bool.false_eq_true, if_false, if_true, ↓reduceIte]; exact EqT.refl (by first | exact hd | exact nd_set (nd_del hd _) _ _ | exact nd_set hd _ _ | exact nd_del hd _)
  apply Yr
  refine Yp rfl ?_
  refine S.mapLen tOk rfl rfl rfl rfl (tabD_len _) ?_
  refine Yp rfl ?_
  apply Yn
  refine W.cond rfl (fun c17=>?_) fun c17=>?_
  ·skip
   apply Y1
   refine Yp rfl ?_
   apply Yn
   apply Yt
   apply Yu
   exact ⟨_, do_wit hb hT, _, rfl, rfl, LeG.of_force rfl (by rw [step_4 hT hb c17]; rfl), rfl, rfl, rfl⟩
  apply Yk
  apply Y3
  refine Yp rfl ?_
  apply Yn
  apply Yt
  exact ⟨_, do_wit hb hT, _, rfl, rfl, LeG.of_force rfl (by rw [step_0 hT hb c17]; rfl), rfl, rfl, rfl⟩
 apply Y1
 iterate 2 refine Yp rfl ?_
 apply Yn
 refine W.cond rfl (fun c18=>?_) fun c18=>?_
 ·skip
  apply Yr
  iterate 3 refine Yp rfl ?_
  refine S.mapDelete tOk keyS (fD := fun v : List UInt8 => DV.one (.str v)) (u) rfl rfl rfl rfl rfl rfl rfl (show _ = [tabD (delL beqS u r.k)] from rfl) ?_
  apply Yw
  apply Yn
  iterate 2 apply Ys
  have hb := two_not (u := u) c5
  have hT : EqT (delL beqS u r.k) (doT u r) := by unfold doT; simp only [c1, c5, c8, c12, c14, c18, Bool.false_eq_true, if_false, if_true, ↓reduceIte]; exact EqT.refl (by first | exact hd | exact nd_set (nd_del hd _) _ _ | exact nd_set hd _ _ | exact nd_del hd _)
  apply Yr
  refine Yp rfl ?_
  refine S.mapLen tOk rfl rfl rfl rfl (tabD_len _) ?_
  refine Yp rfl ?_
  apply Yn
  refine W.cond rfl (fun c19=>?_) fun c19=>?_
  ·skip
   apply Y1
   refine Yp rfl ?_
   apply Yn
   apply Yt
   apply Yu
   exact ⟨_, do_wit hb hT, _, rfl, rfl, LeG.of_force rfl (by rw [step_4 hT hb c19]; rfl), rfl, rfl, rfl⟩
  apply Yk
  apply Y3
  refine Yp rfl ?_
  apply Yn
  apply Yt
  exact ⟨_, do_wit hb hT, _, rfl, rfl, LeG.of_force rfl (by rw [step_0 hT hb c19]; rfl), rfl, rfl, rfl⟩
 iterate 11 first|refine S.pickAnd tOk zOk rfl rfl tg ?_|refine Yg rfl rfl tg ?_|refine Yp rfl ?_|apply Yb|apply Y1|apply Yn
 refine W.cond rfl (fun c20=>?_) fun c20=>?_
 ·skip
  apply Yr
  iterate 5 refine Yp rfl ?_
  refine S.mapUpdate tOk keyS (fD := fun v : List UInt8 => DV.one (.str v)) (r.nu) (u) rfl rfl rfl rfl rfl rfl rfl rfl (show _ = [tabD (setL beqS (u) (r.k) (r.nu))] from rfl) ?_
  iterate 5 first|apply Yw|apply Ys|apply Yn
  have hb := two_not (u := u) c5
  have hT : EqT (setL beqS (u) (r.k) (r.nu)) (doT u r) := by unfold doT; simp only [c1, c5, c8, c12, c14, c18, c20, Bool.false_eq_true, if_false, if_true, ↓reduceIte]; exact EqT.refl (by first | exact hd | exact nd_set (nd_del hd _) _ _ | exact nd_set hd _ _ | exact nd_del hd _)
  apply Yr
  refine Yp rfl ?_
  refine S.mapLen tOk rfl rfl rfl rfl (tabD_len _) ?_
  refine Yp rfl ?_
  apply Yn
  refine W.cond rfl (fun c21=>?_) fun c21=>?_
  ·skip
   apply Y1
   refine Yp rfl ?_
   apply Yn
   apply Yt
   apply Yu
   exact ⟨_, do_wit hb hT, _, rfl, rfl, LeG.of_force rfl (by rw [step_4 hT hb c21]; rfl), rfl, rfl, rfl⟩
  apply Yk
  apply Y3
  refine Yp rfl ?_
  apply Yn
  apply Yt
  exact ⟨_, do_wit hb hT, _, rfl, rfl, LeG.of_force rfl (by rw [step_0 hT hb c21]; rfl), rfl, rfl, rfl⟩
 iterate 15 first|refine S.pickAnd tOk zOk rfl rfl tg ?_|refine Yg rfl rfl tg ?_|refine Yp rfl ?_|apply Y1|apply Yn
 refine W.cond rfl (fun c22=>?_) fun c22=>?_
 ·skip
  apply Yr
  iterate 5 refine Yp rfl ?_
  refine S.mapUpdate tOk keyS (fD := fun v : List UInt8 => DV.one (.str v)) (r.old) (u) rfl rfl rfl rfl rfl rfl rfl rfl (show _ = [tabD (setL beqS (u) (r.k) (r.old))] from rfl) ?_
  iterate 5 first|apply Yw|apply Ys|apply Yn
  have hb := two_not (u := u) c5
  have hT : EqT (setL beqS (u) (r.k) (r.old)) (doT u r) := by unfold doT; simp only [c1, c5, c8, c12, c14, c18, c20, c22, Bool.false_eq_true, if_false, if_true, ↓reduceIte]; exact EqT.refl (by first | exact hd | exact nd_set (nd_del hd _) _ _ | exact nd_set hd _ _ | exact nd_del hd _)
  apply Yr
  refine Yp rfl ?_
  refine S.mapLen tOk rfl rfl rfl rfl (tabD_len _) ?_
  refine Yp rfl ?_
  apply Yn
  refine W.cond rfl (fun c23=>?_) fun c23=>?_
  ·skip
   apply Y1
   refine Yp rfl ?_
   apply Yn
   apply Yt
   apply Yu
   exact ⟨_, do_wit hb hT, _, rfl, rfl, LeG.of_force rfl (by rw [step_4 hT hb c23]; rfl), rfl, rfl, rfl⟩
  apply Yk
  apply Y3
  refine Yp rfl ?_
  apply Yn
  apply Yt
  exact ⟨_, do_wit hb hT, _, rfl, rfl, LeG.of_force rfl (by rw [step_0 hT hb c23]; rfl), rfl, rfl, rfl⟩
 iterate 6 first|apply Yw|apply Yk|apply Ys|apply Yn
 have hb := two_not (u := u) c5
 have hT : EqT (u) (doT u r) := by unfold doT; simp only [c1, c5, c8, c12, c14, c18, c20, c22, Bool.false_eq_true, if_false, if_true, ↓reduceIte]; exact EqT.refl (by first | exact hd | exact nd_set (nd_del hd _) _ _ | exact nd_set hd _ _ | exact nd_del hd _)
 apply Yr
 refine Yp rfl ?_
 refine S.mapLen tOk rfl rfl rfl rfl (tabD_len _) ?_
 refine Yp rfl ?_
 apply Yn
 refine W.cond rfl (fun c24=>?_) fun c24=>?_
 ·skip
  apply Y1
  refine Yp rfl ?_
  apply Yn
  apply Yt
  apply Yu
  exact ⟨_, do_wit hb hT, _, rfl, rfl, LeG.of_force rfl (by rw [step_4 hT hb c24]; rfl), rfl, rfl, rfl⟩
 apply Yk
 apply Y3
 refine Yp rfl ?_
 apply Yn
 apply Yt
 exact ⟨_, do_wit hb hT, _, rfl, rfl, LeG.of_force rfl (by rw [step_0 hT hb c24]; rfl), rfl, rfl, rfl⟩
end
section
open Go
open Go.RowKit
attribute [local irreducible] thenK blockK W
attribute [local irreducible] rangeB pathB nameB valueB firstNe tailOf listT ndT badP sortS prefT stepE
theorem trimP_le (a b : L8) : (Lib.trimPrefix a b).length ≤ a.length := by unfold Lib.trimPrefix; split <;> simp
theorem below_len (a b : L8) : (belowR a b).1.length ≤ a.length + 1 := by
 unfold belowR cutPre
 have := trimP_le a (b ++ [47])
 split
 ·skip
  simp
 ·skip
  simp; omega
theorem below_1 {a b : L8} (h : (a == b) = true) : belowR a b = ([], true) := if_pos h
theorem below_2 {a b : L8} (h : (a == b) = false) : belowR a b = ([47] ++ Lib.trimPrefix a (b ++ [47]), Lib.hasPrefix a (b ++ [47])) := if_neg (Bool.eq_false_iff.1 h)
theorem pc_below (a b : List UInt8) (ha : a.length ≤ 2000000) (hb : b.length ≤ 2000000) :
  PureCall Tryz.prog J 208 [.one (.d (.str a)), .one (.d (.str b))] (.tup [.one (.d (.str (belowR a b).1)), .one (.d (.bool (belowR a b).2))]) := by
 refine PureCall.of_body tOk (fn := Tryz.f208) Tryz.func208 (by kernel_rfl) rfl (Nat.le_of_ble_eq_true rfl) (fun E => ?_)
 iterate 10 first|refine Yp rfl ?_|apply Y1|apply Yn|apply Ys
 refine W.cond rfl (fun c1=>?_) fun c1=>?_
 ·skip
  iterate 6 first|refine Yp rfl ?_|apply Yu|apply Yt|apply Y1|apply Yn
  exact Yz rfl rfl rfl (by rw [below_1 c1]; rfl)
 apply Yk
 apply Y3
 iterate 2 refine Yp rfl ?_
 refine YP rfl (cat_ok (by simp; omega)) rfl ?_
 refine S.call rfl rfl rfl rfl rfl (pc_CutPrefix a (b ++ [47])) ?_
 iterate 7 first|refine Yp rfl ?_|apply Y3
 refine YP rfl (cat_ok (by have := trimP_le a (b ++ [47]); simp; omega)) rfl ?_
 iterate 3 refine Yp rfl ?_
 apply Yn
 apply Yt
 exact Yz rfl rfl rfl (by rw [below_2 c1])
theorem pc_one (u : Tab) (r : Rul) (hr : RulB r) (ho : RulOk r) (hd : ndT u) (hl : ∀ x ∈ u, x.1.length ≤ 2000000) (hn : u.length ≤ 1000000) :
  HCall Tryz.prog J 150 ([.one (.map 0), .agg [.d (.int .i64 r.kd), .d (.str r.k), .d (.str r.tu), .d (.str r.old), .d (.str r.nu)]]) ([]) ([]) ([tabD u]) (isX (X := Tab) (fun tab => EqT tab (doT u r)) (fun tab => .tup []) (fun tab => []) (fun tab => []) (fun tab => [tabD tab])) := by
 obtain ⟨hr1, hr2, hr3, hr4⟩ := hr
 obtain ⟨ho1, ho2, _⟩ := ho
 refine HCall.ofX tOk (fun _ => ⟨0, 0, 1⟩) (fn := Tryz.f150) Tryz.func150 (by kernel_rfl) rfl (Nat.le_of_ble_eq_true rfl) (fun E => ?_)
 apply Y1
 refine S.box rfl rfl rfl rfl ?_
 apply Y3
 iterate 3 refine Yp rfl ?_
 refine S.lookup tOk keyS (fD := fun v : List UInt8 => DV.one (.str v)) [] (u) rfl rfl rfl rfl rfl rfl rfl rfl rfl rfl (show mapV true _ _ = V.tup [_, _] from rfl) ?_
 iterate 14 first|refine Yp rfl ?_|apply Yb|apply Y1|apply Y3|apply Yn
 refine W.cond rfl (fun c1=>?_) fun c1=>?_
 ·skip
  apply Y1
  refine Yp rfl ?_
  apply Yn
  refine W.cond rfl (fun c2=>?_) fun c2=>?_
  ·skip
   apply Y1
   iterate 3 refine Yp rfl ?_
   refine S.mapDelete tOk keyS (fD := fun v : List UInt8 => DV.one (.str v)) (u) rfl rfl rfl rfl rfl rfl rfl (show _ = [tabD (delL beqS u r.k)] from rfl) ?_
   apply Y4
   iterate 4 refine Yp rfl ?_
   refine S.mapUpdate tOk keyS (fD := fun v : List UInt8 => DV.one (.str v)) (getL beqS [] u r.k) (delL beqS u r.k) rfl rfl rfl rfl rfl rfl rfl rfl (show _ = [tabD (setL beqS (delL beqS u r.k) (r.tu) (getL beqS [] u r.k))] from rfl) ?_
   apply Yw
   exact ⟨_, by unfold doT; simp only [c1, c2, Bool.false_eq_true, if_false, if_true, ↓reduceIte]; exact EqT.refl (by first | exact hd | exact nd_set (nd_del hd _) _ _ | exact nd_set hd _ _ | exact nd_del hd _), _, rfl, rfl, LeG.refl _, rfl, rfl, rfl⟩
  apply Yk
  apply Yw
  exact ⟨_, by unfold doT; simp only [c1, c2, Bool.false_eq_true, if_false, if_true, ↓reduceIte]; exact EqT.refl (by first | exact hd | exact nd_set (nd_del hd _) _ _ | exact nd_set hd _ _ | exact nd_del hd _), _, rfl, rfl, LeG.refl _, rfl, rfl, rfl⟩
 apply Y1
 iterate 2 refine Yp rfl ?_
 apply Yn
 refine W.cond rfl (fun c3=>?_) fun c3=>?_
 ·skip
  apply Y1
  refine S.makeMap rfl ?_
  refine Yp rfl ?_
  apply Yn
  apply Ys
  refine W.forMapDel (enc := D.str) (fD := fun v : List UInt8 => DV.one (.str v)) (l0 := u) (mi := 0) tOk (fun q M dn kp st => ∃ mv : Tab, ndT mv ∧ lk mv = movF (lk dn) r.k r.tu ∧ kp = dn.filter (fun x => (tailOf x.1 r.k).isNone) ∧ st = ⟨ofL [(34, .one (.d (.raw q))), (0, .one (.map 0)), (3, .one (.ptr 0 0)), (6, .one (.map 1))], [[.d (.int .i64 r.kd), .d (.str r.k), .d (.str r.tu), .d (.str r.old), .d (.str r.nu)]], [], [M, tabD mv]⟩) 1 rfl rfl rfl (by rintro q M dn kp _ ⟨mv, f1_0, f1_1, f1_2, rfl⟩; exact ⟨rfl, rfl⟩) ⟨rfl, rfl, rfl, rfl⟩ ?_ ?_ ?_
  ·skip
   refine Yp rfl ?_
   refine WL.nil ?_
   exact ⟨rfl, rfl, fun q M => ⟨_, ⟨[], nd_nil, mov_nil _ _, rfl, rfl⟩, Wk.keep rfl ⟨rfl, rfl, rfl, rfl, trivial⟩ rfl⟩⟩
  ·skip
   rintro q M dn kp _ j1 c1001 born1 y rest E1 ⟨mv, f1_0, f1_1, f1_2, rfl⟩ hE1 hst1 hp
   refine W.keep [(34, .one (.d (.raw q))), (0, .one (.map 0)), (3, .one (.ptr 0 0)), (6, .one (.map 1))] ⟨rfl, rfl, rfl, rfl, trivial⟩ ?_
   have hy := mem_len hl hp
   apply Yb
   apply Y1
   refine S.entry hE1 rfl rfl hst1.at ?_
   iterate 8 first|refine Yp rfl ?_|apply Y3
   refine S.call rfl rfl rfl rfl rfl (pc_below y.1 r.k hy hr1) ?_
   iterate 8 first|refine Yp rfl ?_|apply Y3|apply Yn
   refine W.cond rfl (fun c4=>?_) fun c4=>?_
   ·skip
    have hs := belowR_t c4
    apply Y1
    iterate 4 refine Yp rfl ?_
    refine YP rfl (cat_ok (by have := below_len y.1 r.k; simp; omega)) rfl ?_
    refine Yp rfl ?_
    refine S.mapUpdate tOk keyS (fD := fun v : List UInt8 => DV.one (.str v)) (y.2) (mv) rfl rfl rfl rfl rfl rfl rfl rfl (show _ = [M, tabD (setL beqS mv (r.tu ++ (belowR y.1 r.k).1) y.2)] from rfl) ?_
    apply Y4
    iterate 2 refine Yp rfl ?_
    refine S.mapDeleteSt tOk keyS beqS_iff hst1 (nd_keys hd) rfl rfl rfl rfl rfl rfl rfl (show _ = [M.eraseIdx j1, tabD (setL beqS mv (r.tu ++ (belowR y.1 r.k).1) y.2)] from rfl) ?_
    apply Yw
    exact thenK_n ⟨_, .inr ⟨setL beqS mv (r.tu ++ (belowR y.1 r.k).1) y.2, nd_set f1_0 _ _, mov_t (nd_part hd hp) f1_1 hs, f1_2.trans (kept_t hs).symm, rfl⟩, Wk.keep rfl ⟨rfl, rfl, rfl, rfl, trivial⟩ rfl⟩
   have hs := belowR_f c4
   apply Yk
   apply Yw
   exact thenK_n ⟨_, .inl ⟨mv, f1_0, mov_f (nd_part hd hp) f1_1 hs, by rw [f1_2, kept_f hs], rfl⟩, Wk.keep rfl ⟨rfl, rfl, rfl, rfl, trivial⟩ rfl⟩
  rintro q M dn kp tab _ ⟨mv, f1_0, f1_1, f1_2, rfl⟩ hp hkp hsub
  have hoe := off_end (tab := tab) (key := r.k) hd hp (by rw [← f1_2]; exact hkp)
  have hm : lk mv = movF (lk u) r.k r.tu := by rw [f1_1, lk_perm hd (nd_perm hd hp) hp]
  refine ⟨_, Wk.keep (l := [(34, .one (.d (.raw q))), (0, .one (.map 0)), (3, .one (.ptr 0 0)), (6, .one (.map 1))]) (b1 := [[.d (.int .i64 r.kd), .d (.str r.k), .d (.str r.tu), .d (.str r.old), .d (.str r.nu)]]) (b2 := []) (r1 := []) (r2 := []) (m1 := [mapOf D.str (fun v : List UInt8 => DV.one (.str v)) tab, tabD mv]) (m2 := []) rfl ⟨rfl, rfl, rfl, rfl, trivial⟩ rfl, ?_⟩
  apply Y4
  iterate 2 refine Yp rfl ?_
  refine S.hcallX rfl rfl rfl rfl ((pc_CopyM tab mv hoe.1 f1_0).frameX [] [] [0, 1] rfl rfl rfl rfl rfl (fun _ => rfl) (fun _ => rfl) (fun _ => rfl) (fun _ => rfl)) ?_
  rintro tab2 h2
  apply Yw
  exact ⟨tab2, by rw [do_pref c3]; exact sum_pref hd f1_0 hm ⟨hoe.1, nd_filter hd _, by rw [hoe.2, off_filter hd]⟩ h2, _, rfl, rfl, LeG.refl _, rfl, rfl, rfl⟩
 apply Y1
 iterate 2 refine Yp rfl ?_
 apply Yn
 refine W.cond rfl (fun c5=>?_) fun c5=>?_
 ·skip
  apply Y1
  refine Yp rfl ?_
  apply Yn
  refine W.cond rfl (fun c6=>?_) fun c6=>?_
  ·skip
   apply Yr
   iterate 4 refine Yp rfl ?_
   refine S.mapUpdate tOk keyS (fD := fun v : List UInt8 => DV.one (.str v)) (getL beqS [] u r.k) (u) rfl rfl rfl rfl rfl rfl rfl rfl (show _ = [tabD (setL beqS (u) (r.tu) (getL beqS [] u r.k))] from rfl) ?_
   apply Yw
   exact ⟨_, by unfold doT; simp only [c1, c3, c5, c6, Bool.false_eq_true, if_false, if_true, ↓reduceIte]; exact EqT.refl (by first | exact hd | exact nd_set (nd_del hd _) _ _ | exact nd_set hd _ _ | exact nd_del hd _), _, rfl, rfl, LeG.refl _, rfl, rfl, rfl⟩
  apply Yk
  apply Yw
  exact ⟨_, by unfold doT; simp only [c1, c3, c5, c6, Bool.false_eq_true, if_false, if_true, ↓reduceIte]; exact EqT.refl (by first | exact hd | exact nd_set (nd_del hd _) _ _ | exact nd_set hd _ _ | exact nd_del hd _), _, rfl, rfl, LeG.refl _, rfl, rfl, rfl⟩
 apply Y1
 iterate 2 refine Yp rfl ?_
 apply Yn
 refine W.cond rfl (fun c7=>?_) fun c7=>?_
 ·skip
  apply Yr
  iterate 5 refine Yp rfl ?_
  refine S.mapUpdate tOk keyS (fD := fun v : List UInt8 => DV.one (.str v)) (r.nu) (u) rfl rfl rfl rfl rfl rfl rfl rfl (show _ = [tabD (setL beqS (u) (r.k) (r.nu))] from rfl) ?_
  apply Yw
  exact ⟨_, by unfold doT; simp only [c1, c3, c5, c7, Bool.false_eq_true, if_false, if_true, ↓reduceIte]; exact EqT.refl (by first | exact hd | exact nd_set (nd_del hd _) _ _ | exact nd_set hd _ _ | exact nd_del hd _), _, rfl, rfl, LeG.refl _, rfl, rfl, rfl⟩
 apply Y1
 iterate 2 refine Yp rfl ?_
 apply Yn
 refine W.cond rfl (fun c8=>?_) fun c8=>?_
 ·skip
  apply Y1
  iterate 2 refine Yp rfl ?_
  apply Yn
  refine W.cond rfl (fun c9=>?_) fun c9=>?_
  ·skip
   have hz : hasL beqS u r.k = false := by simpa using c9
   apply Yr
   iterate 5 refine Yp rfl ?_
   refine S.mapUpdate tOk keyS (fD := fun v : List UInt8 => DV.one (.str v)) (r.nu) (u) rfl rfl rfl rfl rfl rfl rfl rfl (show _ = [tabD (setL beqS (u) (r.k) (r.nu))] from rfl) ?_
   apply Yw
   exact ⟨_, by unfold doT; simp only [c1, c3, c5, c7, c8, hz, Bool.false_eq_true, if_false, if_true, ↓reduceIte]; exact EqT.refl (by first | exact hd | exact nd_set (nd_del hd _) _ _ | exact nd_set hd _ _ | exact nd_del hd _), _, rfl, rfl, LeG.refl _, rfl, rfl, rfl⟩
  have hz : hasL beqS u r.k = true := by simpa using c9
  apply Yk
  apply Yw
  exact ⟨_, by unfold doT; simp only [c1, c3, c5, c7, c8, hz, Bool.false_eq_true, if_false, if_true, ↓reduceIte]; exact EqT.refl (by first | exact hd | exact nd_set (nd_del hd _) _ _ | exact nd_set hd _ _ | exact nd_del hd _), _, rfl, rfl, LeG.refl _, rfl, rfl, rfl⟩
 apply Y1
 iterate 2 refine Yp rfl ?_
 apply Yn
 refine W.cond rfl (fun c10=>?_) fun c10=>?_
 ·skip
  apply Yr
  iterate 3 refine Yp rfl ?_
  refine S.mapDelete tOk keyS (fD := fun v : List UInt8 => DV.one (.str v)) (u) rfl rfl rfl rfl rfl rfl rfl (show _ = [tabD (delL beqS u r.k)] from rfl) ?_
  apply Yw
  exact ⟨_, by unfold doT; simp only [c1, c3, c5, c7, c8, c10, Bool.false_eq_true, if_false, if_true, ↓reduceIte]; exact EqT.refl (by first | exact hd | exact nd_set (nd_del hd _) _ _ | exact nd_set hd _ _ | exact nd_del hd _), _, rfl, rfl, LeG.refl _, rfl, rfl, rfl⟩
 apply Ys
 apply Y1
 iterate 2 refine Yp rfl ?_
 apply Yn
 refine W.cond rfl (fun c11=>?_) fun c11=>?_
 ·skip
  apply Yk
  apply Yn
  refine W.cond rfl (fun c12=>?_) fun c12=>?_
  ·skip
   iterate 9 first|refine S.pickAnd tOk zOk rfl rfl tg ?_|refine Yg rfl rfl tg ?_|refine Yp rfl ?_|apply Y1|apply Yn
   refine W.cond rfl (fun c13=>?_) fun c13=>?_
   ·skip
    apply Yr
    iterate 5 refine Yp rfl ?_
    refine S.mapUpdate tOk keyS (fD := fun v : List UInt8 => DV.one (.str v)) (r.nu) (u) rfl rfl rfl rfl rfl rfl rfl rfl (show _ = [tabD (setL beqS (u) (r.k) (r.nu))] from rfl) ?_
    apply Yw
    exact ⟨_, by unfold doT; simp only [c1, c3, c5, c7, c8, c10, c13, Bool.false_eq_true, if_false, if_true, ↓reduceIte]; exact EqT.refl (by first | exact hd | exact nd_set (nd_del hd _) _ _ | exact nd_set hd _ _ | exact nd_del hd _), _, rfl, rfl, LeG.refl _, rfl, rfl, rfl⟩
   iterate 14 first|refine S.pickAnd tOk zOk rfl rfl tg ?_|refine Yg rfl rfl tg ?_|refine Yp rfl ?_|apply Y1|apply Yn
   refine W.cond rfl (fun c14=>?_) fun c14=>?_
   ·skip
    apply Yr
    iterate 5 refine Yp rfl ?_
    refine S.mapUpdate tOk keyS (fD := fun v : List UInt8 => DV.one (.str v)) (r.old) (u) rfl rfl rfl rfl rfl rfl rfl rfl (show _ = [tabD (setL beqS (u) (r.k) (r.old))] from rfl) ?_
    apply Yw
    exact ⟨_, by unfold doT; simp only [c1, c3, c5, c7, c8, c10, c13, c14, Bool.false_eq_true, if_false, if_true, ↓reduceIte]; exact EqT.refl (by first | exact hd | exact nd_set (nd_del hd _) _ _ | exact nd_set hd _ _ | exact nd_del hd _), _, rfl, rfl, LeG.refl _, rfl, rfl, rfl⟩
   apply Yk
   apply Yw
   exact ⟨_, by unfold doT; simp only [c1, c3, c5, c7, c8, c10, c13, c14, Bool.false_eq_true, if_false, if_true, ↓reduceIte]; exact EqT.refl (by first | exact hd | exact nd_set (nd_del hd _) _ _ | exact nd_set hd _ _ | exact nd_del hd _), _, rfl, rfl, LeG.refl _, rfl, rfl, rfl⟩
  apply Yk
  apply Yw
  exact ⟨u, absurd (c11.symm.trans c12) (by decide), _, rfl, rfl, LeG.refl _, rfl, rfl, rfl⟩
 apply Yr
 iterate 2 refine Yp rfl ?_
 apply Yn
 refine W.cond rfl (fun c15=>?_) fun c15=>?_
 ·skip
  iterate 9 first|refine S.pickAnd tOk zOk rfl rfl tg ?_|refine Yg rfl rfl tg ?_|refine Yp rfl ?_|apply Y1|apply Yn
  refine W.cond rfl (fun c16=>?_) fun c16=>?_
  ·skip
   apply Yr
   iterate 5 refine Yp rfl ?_
   refine S.mapUpdate tOk keyS (fD := fun v : List UInt8 => DV.one (.str v)) (r.nu) (u) rfl rfl rfl rfl rfl rfl rfl rfl (show _ = [tabD (setL beqS (u) (r.k) (r.nu))] from rfl) ?_
   apply Yw
   exact ⟨_, by unfold doT; simp only [c1, c3, c5, c7, c8, c10, c16, Bool.false_eq_true, if_false, if_true, ↓reduceIte]; exact EqT.refl (by first | exact hd | exact nd_set (nd_del hd _) _ _ | exact nd_set hd _ _ | exact nd_del hd _), _, rfl, rfl, LeG.refl _, rfl, rfl, rfl⟩
  iterate 14 first|refine S.pickAnd tOk zOk rfl rfl tg ?_|refine Yg rfl rfl tg ?_|refine Yp rfl ?_|apply Y1|apply Yn
  refine W.cond rfl (fun c17=>?_) fun c17=>?_
  ·skip
   apply Yr
   iterate 5 refine Yp rfl ?_
   refine S.mapUpdate tOk keyS (fD := fun v : List UInt8 => DV.one (.str v)) (r.old) (u) rfl rfl rfl rfl rfl rfl rfl rfl (show _ = [tabD (setL beqS (u) (r.k) (r.old))] from rfl) ?_
   apply Yw
   exact ⟨_, by unfold doT; simp only [c1, c3, c5, c7, c8, c10, c16, c17, Bool.false_eq_true, if_false, if_true, ↓reduceIte]; exact EqT.refl (by first | exact hd | exact nd_set (nd_del hd _) _ _ | exact nd_set hd _ _ | exact nd_del hd _), _, rfl, rfl, LeG.refl _, rfl, rfl, rfl⟩
  apply Yk
  apply Yw
  exact ⟨_, by unfold doT; simp only [c1, c3, c5, c7, c8, c10, c16, c17, Bool.false_eq_true, if_false, if_true, ↓reduceIte]; exact EqT.refl (by first | exact hd | exact nd_set (nd_del hd _) _ _ | exact nd_set hd _ _ | exact nd_del hd _), _, rfl, rfl, LeG.refl _, rfl, rfl, rfl⟩
 apply Yk
 apply Yw
 exact ⟨u, by exfalso; simp only [beq_eq_false_iff_ne] at c1 c3 c5 c7 c8 c10 c11 c15; omega, _, rfl, rfl, LeG.refl _, rfl, rfl, rfl⟩
theorem anyp_hit {α : Type} {p : α → Bool} {t dn rest : List α} {y : α} (hp : t.Perm (dn ++ y :: rest)) (h : p y = true) : t.any p = true := List.any_eq_true.2 ⟨y, hp.mem_iff.2 (by simp), h⟩
theorem anyp_end {α : Type} {p : α → Bool} {t dn : List α} (hp : t.Perm dn) (h : dn.any p = false) : t.any p = false := (any_perm p hp).trans h
end
section
open Go
open Go.RowKit
attribute [local irreducible] thenK blockK W
attribute [local irreducible] rangeB pathB nameB valueB firstNe tailOf listT ndT badP sortS prefT stepE stepR listE ruleC doT runT
theorem pc_migrate_runFault (ss : List Stg) (rs : List Rul) (hn : ss.length ≤ 2000000) (hs : ∀ s ∈ ss, s.k.length < 4294967000 ∧ s.v.length < 4294967000) (hm : rs.length ≤ 2000000) (hrb : ∀ r ∈ rs, RulB r) :
  PureCall Tryz.prog J 143 [.one (.d (.vec 2 (ss.map stgD))), .one (.d (.vec 5 (rs.map rulD)))] (.one (.d (.int .i64 (runF ss rs)))) := by
 refine PureCall.of_body tOk (fn := Tryz.f143) Tryz.func143 (by kernel_rfl) rfl (Nat.le_of_ble_eq_true rfl) (fun E => ?_)
 iterate 6 first|refine Yp rfl ?_|apply Y1|apply Ys|apply Yn
 refine S.call rfl rfl rfl rfl rfl (pc_migrate_settingsFault ss hn hs) ?_
 iterate 5 first|refine Yp rfl ?_|apply Y3|apply Yn
 refine W.cond rfl (fun c1=>?_) fun c1=>?_
 ·skip
  iterate 6 first|refine Yp rfl ?_|apply Yu|apply Yt|apply Y1|apply Yn
  exact Yz rfl rfl rfl (by rw [runF_1 c1])
 iterate 13 first|refine S.pickOr tOk zOk rfl rfl tg ?_|refine Yp rfl ?_|refine Yg rfl rfl tg ?_|apply Yk|apply Y1|apply Yn|apply Ys
 refine W.cond rfl (fun c2=>?_) fun c2=>?_
 ·skip
  apply Y1
  refine Yp rfl ?_
  apply Yn
  apply Yt
  apply Yu
  exact Yz rfl rfl rfl (by rw [runF_2 c1 (by simpa using c2)]; rfl)
 iterate 9 first|refine Yp rfl ?_|apply Yb|apply Yk|apply Y1|apply Yn|apply Ys
 refine W.loop (fun k st => ∃ i : Nat, i ≤ rs.length ∧ ((rs.map ruleC).take i).all (· == 0) = true ∧ k = rs.length - i ∧ ∃ t b2 r2 m2, st = ⟨t, [] ++ b2, [] ++ r2, [] ++ m2⟩ ∧ holdsL t [(22, .one (.d (.vec 5 (rs.map rulD)))), (23, .one (.d (.int .i64 ((rs.map rulD).length : Int)))), (24, .one (.d (.int .i64 (i : Int))))]) (rs.length) ⟨0, Nat.zero_le _, by simp, rfl, _, _, _, _, rfl, rfl, rfl, rfl, trivial⟩ ?_
 rintro k0 _ ⟨i, f0_0, f0_1, rfl, t0, bb0, rr0, mm0, rfl, hh0⟩
 refine W.keepR _ _ _ _ _ _ _ hh0 rfl ?_
 apply Y1
 refine Yp rfl ?_
 apply Yn
 apply Ys
 refine W.cond rfl (fun c3=>?_) fun c3=>?_
 ·skip
  have hi := row_lt c3
  have hri := hrb _ (mem_getD (d := Rul.z) hi)
  apply Yk
  apply Yn
  apply Ys
  apply Yb
  apply Y1
  refine YE rfl (row_ok hi) (row_at Rul.z hi) rfl ?_
  iterate 5 first|refine Yp rfl ?_|refine S.store tOk rfl rfl rfl rfl rfl rfl rfl rfl ?_|refine S.alloc tOk rfl rfl rfl rfl ?_|apply Y3
  refine S.call rfl rfl rfl rfl rfl (pc_CheckRule (rs.getD i Rul.z) hri) ?_
  iterate 5 first|refine Yp rfl ?_|apply Y3|apply Yn
  refine W.cond rfl (fun c4=>?_) fun c4=>?_
  ·skip
   iterate 10 first|apply Yu|apply Yv|refine Yp rfl ?_|apply Yt|apply Y1|apply Yn
   exact Yz rfl rfl rfl (by rw [runF_3 c1 (by simpa using c2)]; unfold rulesE; rw [fe_hit (d := Rul.z) hi f0_1 c4])
  apply Yk
  apply Yw
  apply Y4
  iterate 2 refine Yp rfl ?_
  refine loop_n (rs.length - (i + 1)) (by omega) ⟨i + 1, hi, fe_next (d := Rul.z) hi f0_1 c4, rfl, _, _, _, _, rfl, rfl, rfl, inc_i64 (by omega), trivial⟩
 have hi := row_ge c3
 obtain rfl : i = rs.length := by omega
 apply Yq
 apply Ye
 apply Ye
 apply Yx
 apply Y3
 refine Yp rfl ?_
 apply Yn
 apply Yt
 exact Yz rfl rfl rfl (by rw [runF_3 c1 (by simpa using c2)]; unfold rulesE; rw [fe_end hi f0_1]; rfl)
theorem le_runNil {n : Int} {x : List Stg × Int} (h : x = ([], n)) : LeV (.tup [.one (.d .nilsl), .one (.d (.int .i64 n))]) (.tup [.one (.d (.vec 2 (x.1.map stgD))), .one (.d (.int .i64 x.2))]) := by
 subst h; exact LeV.tup2 (LeV.nil 2) (LeV.refl _)
theorem pc_migrate_Run (ss : List Stg) (rs : List Rul) (hn : ss.length ≤ 2000000) (hs : ∀ s ∈ ss, s.k.length < 4294967000 ∧ s.v.length < 4294967000) (hm : rs.length ≤ 2000000) (hrb : ∀ r ∈ rs, RulB r) :
  PureCall Tryz.prog J 87 [.one (.d (.vec 2 (ss.map stgD))), .one (.d (.vec 5 (rs.map rulD)))] (.tup [.one (.d (.vec 2 ((runP ss rs).1.map stgD))), .one (.d (.int .i64 (runP ss rs).2))]) := by
 refine PureCall.of_body tOk (fn := Tryz.f87) Tryz.func87 (by kernel_rfl) rfl (Nat.le_of_ble_eq_true rfl) (fun E => ?_)
 iterate 8 first|refine Yp rfl ?_|apply Y1|apply Ys|apply Yn
 refine S.call rfl rfl rfl rfl rfl (pc_migrate_runFault ss rs hn hs hm hrb) ?_
 iterate 5 first|refine Yp rfl ?_|apply Y3|apply Yn
 refine W.cond rfl (fun c1=>?_) fun c1=>?_
 ·skip
  iterate 7 first|refine Yp rfl ?_|apply Yu|apply Yt|apply Y1|apply Yn
  exact ⟨_, rfl, rfl, le_runNil (runP_1 c1)⟩
 have hok := run_ok c1
 apply Yk
 apply Y3
 refine Yp rfl ?_
 refine S.hcallD rfl rfl rfl rfl ((pc_tableOf ss (by omega)).fd [] [] [] rfl) ?_
 iterate 9 first|refine Yp rfl ?_|apply Yb|apply Y1|apply Yn|apply Ys
 refine W.loop (fun k st => ∃ i : Nat, ∃ tab : Tab, i ≤ rs.length ∧ Way ss rs i tab ∧ (((List.range rs.length).map (stepAt ss rs)).take i).all (· == 0) = true ∧ k = rs.length - i ∧ ∃ t b2 r2 m2, st = ⟨t, [] ++ b2, [] ++ r2, [tabD tab] ++ m2⟩ ∧ holdsL t [(7, .one (.map 0)), (19, .one (.d (.vec 5 (rs.map rulD)))), (20, .one (.d (.int .i64 ((rs.map rulD).length : Int)))), (21, .one (.d (.int .i64 (i : Int))))]) (rs.length) ⟨0, _, Nat.zero_le _, way_0 hok, by simp, rfl, _, _, _, _, rfl, rfl, rfl, rfl, rfl, trivial⟩ ?_
 rintro k0 _ ⟨i, tab, f0_0, f0_1, f0_2, rfl, t0, bb0, rr0, mm0, rfl, hh0⟩
 refine W.keepR _ _ _ _ _ _ _ hh0 rfl ?_
 apply Y1
 refine Yp rfl ?_
 apply Yn
 apply Ys
 refine W.cond rfl (fun c2=>?_) fun c2=>?_
 ·skip
  have hi := row_lt c2
  have hri := hrb _ (mem_getD (d := Rul.z) hi)
  apply Yk
  apply Yn
  apply Ys
  apply Yb
  apply Y1
  refine YE rfl (row_ok hi) (row_at Rul.z hi) rfl ?_
  iterate 6 first|refine Yp rfl ?_|refine S.store tOk rfl rfl rfl rfl rfl rfl rfl rfl ?_|refine S.alloc tOk rfl rfl rfl rfl ?_|apply Y3
  refine S.hcallX rfl rfl rfl rfl ((pc_do tab (rs.getD i Rul.z) hri f0_1.eq.l f0_1.key (by have := f0_1.len; omega)).frameX [] [] [0] rfl rfl rfl rfl rfl (fun _ => rfl) (fun _ => rfl) (fun _ => rfl) (fun _ => rfl)) ?_
  rintro tab1 h1
  iterate 5 first|refine Yp rfl ?_|apply Y3|apply Yn
  refine W.cond rfl (fun c3=>?_) fun c3=>?_
  ·skip
   have hz : stepAt ss rs i ≠ 0 := by rw [← f0_1.at]; simpa using c3
   iterate 11 first|apply Yu|refine Yp rfl ?_|apply Yv|apply Yt|apply Y1|apply Yn
   exact ⟨_, rfl, rfl, le_runNil (by rw [f0_1.at]; exact runP_2 c1 _ (se_hit hi f0_2 hz) hz)⟩
  have hz : stepE tab (rs.getD i Rul.z) = 0 := by simpa using c3
  have h2 : EqT tab1 (doT tab (rs.getD i Rul.z)) := by rw [doX_f (step_bad hz)] at h1; exact h1
  apply Yk
  apply Yw
  apply Y4
  iterate 2 refine Yp rfl ?_
  refine loop_n (rs.length - (i + 1)) (by omega) ⟨i + 1, tab1, hi, way_next f0_1 (hok.ok _ (mem_getD hi)) hz h2, se_next hi f0_2 (f0_1.at.symm.trans hz), rfl, _, _, _, _, rfl, rfl, rfl, rfl, inc_i64 (by omega), trivial⟩
 have hi := row_ge c2
 obtain rfl : i = rs.length := by omega
 apply Yq
 apply Ye
 apply Ye
 apply Yx
 apply Y3
 refine Yp rfl ?_
 refine S.hcallD rfl rfl rfl rfl ((pc_settings tab f0_1.eq.l f0_1.key (by have := f0_1.len; omega)).fd [] [] [0] rfl) ?_
 iterate 2 refine Yp rfl ?_
 apply Yn
 apply Yt
 exact Yz rfl rfl rfl (by rw [runP_3 c1 (se_end hi f0_2), f0_1.eq.list]; rfl)
end
section
open Go
open Go.RowKit
attribute [local irreducible] thenK blockK W
attribute [local irreducible] rangeB pathB nameB valueB firstNe tailOf listT ndT badP sortS prefT stepE stepR listE ruleC doT runT
theorem run_acc {ss : List Stg} {rs : List Rul} {i : Nat} (hi : i < rs.length) : firstB (firstNe ([listE pathB ss, if decide (((ss.map stgD).length : Int) > 2000) = true then 4 else 0, if decide (((rs.map rulD).length : Int) > 100) = true then 4 else 0] ++ (rs.map ruleC).take i)) (ruleC (rs.getD i Rul.z)) = firstNe ([listE pathB ss, if decide (((ss.map stgD).length : Int) > 2000) = true then 4 else 0, if decide (((rs.map rulD).length : Int) > 100) = true then 4 else 0] ++ (rs.map ruleC).take (i + 1)) := by
 rw [take_getD (d := 0) (by simpa using hi), ← List.append_assoc, firstNe_snoc, map_at (d := Rul.z) hi]
theorem run_accE (ss : List Stg) (rs : List Rul) : firstNe ([listE pathB ss, if decide (((ss.map stgD).length : Int) > 2000) = true then 4 else 0, if decide (((rs.map rulD).length : Int) > 100) = true then 4 else 0] ++ (rs.map ruleC).take rs.length) = runF ss rs := by
 rw [List.take_of_length_le (by simp)]
 unfold runF rulesE
 rw [List.length_map, List.length_map]
 rw [show [listE pathB ss, if decide ((ss.length : Int) > 2000) = true then 4 else 0, if decide ((rs.length : Int) > 100) = true then 4 else 0] ++ rs.map ruleC = listE pathB ss :: (if decide ((ss.length : Int) > 2000) = true then 4 else 0) :: (if decide ((rs.length : Int) > 100) = true then 4 else 0) :: rs.map ruleC from rfl]
 rw [firstNe_cons, firstNe_cons, firstNe_cons, firstNe_cons, firstNe_cons, first2]
theorem le_runNil2 {n : Int} {x : List Stg × Int} (h : x = ([], n)) : LeV (.tup [.one (.d .nilsl), .one (.d (.int .i64 n))]) (.tup [.one (.d (.vec 2 (x.1.map stgD))), .one (.d (.int .i64 x.2))]) := by
 subst h; exact LeV.tup2 (LeV.nil 2) (LeV.refl _)
theorem pc_outref2_RunError (ss : List Stg) (rs : List Rul) (hn : ss.length ≤ 2000000) (hs : ∀ s ∈ ss, s.k.length < 4294967000 ∧ s.v.length < 4294967000) (hm : rs.length ≤ 2000000) (hrb : ∀ r ∈ rs, RulB r) :
  PureCall Tryz.prog J 149 [.one (.d (.vec 2 (ss.map stgD))), .one (.d (.vec 5 (rs.map rulD)))] (.one (.d (.int .i64 (runF ss rs)))) := by
 refine PureCall.of_body tOk (fn := Tryz.f149) Tryz.func149 (by kernel_rfl) rfl (Nat.le_of_ble_eq_true rfl) (fun E => ?_)
 iterate 4 first|refine Yp rfl ?_|apply Y3|apply Y1
 refine S.call rfl rfl rfl rfl rfl (pc_listE ss (by omega) hs) ?_
 iterate 3 refine Yp rfl ?_
 refine S.call rfl rfl rfl rfl rfl (pc_outref2_When (decide (((ss.map stgD).length : Int) > 2000)) 4) ?_
 iterate 3 refine Yp rfl ?_
 refine S.call rfl rfl rfl rfl rfl (pc_outref2_When (decide (((rs.map rulD).length : Int) > 100)) 4) ?_
 refine S.slice tOk rfl rfl ?_
 refine S.call rfl rfl rfl rfl rfl (pc_outref2_First [listE pathB ss, if decide (((ss.map stgD).length : Int) > 2000) = true then 4 else 0, if decide (((rs.map rulD).length : Int) > 100) = true then 4 else 0] (by simp)) ?_
 iterate 9 first|refine Yp rfl ?_|apply Yb|apply Y1|apply Yn|apply Ys
 refine W.loop (fun k st => ∃ i : Nat, i ≤ rs.length ∧ k = rs.length - i ∧ ∃ t b2 r2 m2, st = ⟨t, [] ++ b2, [] ++ r2, [] ++ m2⟩ ∧ holdsL t [(5, .one (.d (.int .i64 (firstNe ([listE pathB ss, if decide (((ss.map stgD).length : Int) > 2000) = true then 4 else 0, if decide (((rs.map rulD).length : Int) > 100) = true then 4 else 0] ++ (rs.map ruleC).take i))))), (20, .one (.d (.vec 5 (rs.map rulD)))), (21, .one (.d (.int .i64 ((rs.map rulD).length : Int)))), (22, .one (.d (.int .i64 (i : Int))))]) (rs.length) ⟨0, Nat.zero_le _, rfl, _, _, _, _, rfl, rfl, rfl, rfl, rfl, trivial⟩ ?_
 rintro k0 _ ⟨i, f0_0, rfl, t0, bb0, rr0, mm0, rfl, hh0⟩
 refine W.keepR _ _ _ _ _ _ _ hh0 rfl ?_
 apply Y1
 refine Yp rfl ?_
 apply Yn
 apply Ys
 refine W.cond rfl (fun c1=>?_) fun c1=>?_
 ·skip
  have hi := row_lt c1
  have hri := hrb _ (mem_getD (d := Rul.z) hi)
  apply Yk
  apply Yn
  apply Ys
  apply Yb
  apply Y1
  refine YE rfl (row_ok hi) (row_at Rul.z hi) rfl ?_
  iterate 6 first|refine Yp rfl ?_|refine S.store tOk rfl rfl rfl rfl rfl rfl rfl rfl ?_|refine S.alloc tOk rfl rfl rfl rfl ?_|apply Y4
  refine S.call rfl rfl rfl rfl rfl (pc_RuleError (rs.getD i Rul.z) hri) ?_
  refine S.slice tOk rfl rfl ?_
  refine S.call rfl rfl rfl rfl rfl (pc_first2 (firstNe ([listE pathB ss, if decide (((ss.map stgD).length : Int) > 2000) = true then 4 else 0, if decide (((rs.map rulD).length : Int) > 100) = true then 4 else 0] ++ (rs.map ruleC).take i)) (ruleC (rs.getD i Rul.z))) ?_
  iterate 5 first|refine Yp rfl ?_|apply Yw|apply Y4
  refine loop_n (rs.length - (i + 1)) (by omega) ⟨i + 1, hi, rfl, _, _, _, _, rfl, congrArg (fun x => V.one (C.d (D.int .i64 x))) (run_acc hi), rfl, rfl, inc_i64 (by omega), trivial⟩
 have hi := row_ge c1
 obtain rfl : i = rs.length := by omega
 iterate 9 first|refine Yp rfl ?_|apply Ye|apply Yt|apply Yx|apply Yq|apply Y3|apply Yn
 exact Yz rfl rfl rfl (by rw [run_accE])
theorem pc_outref2_RunOf (ss : List Stg) (rs : List Rul) (hn : ss.length ≤ 2000000) (hs : ∀ s ∈ ss, s.k.length < 4294967000 ∧ s.v.length < 4294967000) (hm : rs.length ≤ 2000000) (hrb : ∀ r ∈ rs, RulB r) :
  PureCall Tryz.prog J 90 [.one (.d (.vec 2 (ss.map stgD))), .one (.d (.vec 5 (rs.map rulD)))] (.tup [.one (.d (.vec 2 ((runP ss rs).1.map stgD))), .one (.d (.int .i64 (runP ss rs).2))]) := by
 refine PureCall.of_body tOk (fn := Tryz.f90) Tryz.func90 (by kernel_rfl) rfl (Nat.le_of_ble_eq_true rfl) (fun E => ?_)
 iterate 8 first|refine Yp rfl ?_|apply Y1|apply Ys|apply Yn
 refine S.call rfl rfl rfl rfl rfl (pc_outref2_RunError ss rs hn hs hm hrb) ?_
 iterate 5 first|refine Yp rfl ?_|apply Y3|apply Yn
 refine W.cond rfl (fun c1=>?_) fun c1=>?_
 ·skip
  iterate 7 first|refine Yp rfl ?_|apply Yu|apply Yt|apply Y1|apply Yn
  exact ⟨_, rfl, rfl, le_runNil2 (runP_1 c1)⟩
 have hok := run_ok c1
 apply Yk
 apply Y3
 refine Yp rfl ?_
 refine S.hcallD rfl rfl rfl rfl ((pc_Facts ss (by omega)).fd [] [] [] rfl) ?_
 iterate 9 first|refine Yp rfl ?_|apply Yb|apply Y1|apply Yn|apply Ys
 refine W.loop (fun k st => ∃ i : Nat, ∃ tab : Tab, i ≤ rs.length ∧ Way ss rs i tab ∧ (((List.range rs.length).map (stepAt ss rs)).take i).all (· == 0) = true ∧ k = rs.length - i ∧ ∃ t b2 r2 m2, st = ⟨t, [] ++ b2, [] ++ r2, [tabD tab] ++ m2⟩ ∧ holdsL t [(7, .one (.map 0)), (19, .one (.d (.vec 5 (rs.map rulD)))), (20, .one (.d (.int .i64 ((rs.map rulD).length : Int)))), (21, .one (.d (.int .i64 (i : Int))))]) (rs.length) ⟨0, _, Nat.zero_le _, way_0 hok, by simp, rfl, _, _, _, _, rfl, rfl, rfl, rfl, rfl, trivial⟩ ?_
 rintro k0 _ ⟨i, tab, f0_0, f0_1, f0_2, rfl, t0, bb0, rr0, mm0, rfl, hh0⟩
 refine W.keepR _ _ _ _ _ _ _ hh0 rfl ?_
 apply Y1
 refine Yp rfl ?_
 apply Yn
 apply Ys
 refine W.cond rfl (fun c2=>?_) fun c2=>?_
 ·skip
  have hi := row_lt c2
  have hri := hrb _ (mem_getD (d := Rul.z) hi)
  have hoi := hok.ok _ (mem_getD (d := Rul.z) hi)
  apply Yk
  apply Yn
  apply Ys
  apply Yb
  apply Y1
  refine YE rfl (row_ok hi) (row_at Rul.z hi) rfl ?_
  iterate 6 first|refine Yp rfl ?_|refine S.store tOk rfl rfl rfl rfl rfl rfl rfl rfl ?_|refine S.alloc tOk rfl rfl rfl rfl ?_|apply Y3
  refine S.hcallX rfl rfl rfl rfl ((pc_one tab (rs.getD i Rul.z) hri hoi f0_1.eq.l f0_1.key (by have := f0_1.len; omega)).frameX [] [] [0] rfl rfl rfl rfl rfl (fun _ => rfl) (fun _ => rfl) (fun _ => rfl) (fun _ => rfl)) ?_
  rintro tab1 h1
  apply Yn
  apply Ys
  have hkd : ∀ x ∈ tab1, x.1.length ≤ 400 := fun x hx => keys_do f0_1.all hoi x (h1.perm.mem_iff.1 hx)
  refine W.forMap (enc := D.str) (fD := fun v : List UInt8 => DV.one (.str v)) (l0 := tab1) (mi := 0) tOk (fun q M dn st => dn.any (fun x => !pathB x.1) = false ∧ st = ⟨ofL [(29, .one (.d (.raw q))), (7, .one (.map 0)), (19, .one (.d (.vec 5 (rs.map rulD)))), (20, .one (.d (.int .i64 ((rs.map rulD).length : Int)))), (21, .one (.d (.int .i64 (i : Int))))], [], [], [M]⟩) 1 rfl rfl rfl (by rintro q M dn _ ⟨f2_0, rfl⟩; exact ⟨rfl, rfl⟩) ⟨rfl, rfl, rfl, rfl⟩ ?_ ?_ ?_
  ·skip
   refine Yp rfl ?_
   refine WL.nil ?_
   exact ⟨rfl, rfl, fun q M => ⟨_, ⟨rfl, rfl⟩, Wk.keep rfl ⟨rfl, rfl, rfl, rfl, rfl, trivial⟩ rfl⟩⟩
  ·skip
   rintro q M dn _ j2 c1002 born2 y rest E1 ⟨f2_0, rfl⟩ hE2 hst2 hp un2
   refine W.keep [(29, .one (.d (.raw q))), (7, .one (.map 0)), (19, .one (.d (.vec 5 (rs.map rulD)))), (20, .one (.d (.int .i64 ((rs.map rulD).length : Int)))), (21, .one (.d (.int .i64 (i : Int))))] ⟨rfl, rfl, rfl, rfl, rfl, trivial⟩ ?_
   have hy : y.1.length ≤ 400 := hkd y (hp.mem_iff.2 (by simp))
   apply Yb
   apply Y1
   refine S.entry hE2 rfl rfl hst2.at ?_
   iterate 4 first|refine Yp rfl ?_|apply Y3
   refine S.call rfl rfl rfl rfl rfl (pc_outref2_PathOf y.1 (by omega)) ?_
   refine Yp rfl ?_
   apply Yn
   refine W.cond rfl (fun c3=>?_) fun c3=>?_
   ·skip
    have ha := anyp_hit (p := fun x : L8 × L8 => !pathB x.1) hp c3
    have hz : stepAt ss rs i = 5 := by rw [← f0_1.at, ← step_eq f0_1.all hoi, stepR_5 h1 ha]
    iterate 4 first|refine Yp rfl ?_|apply Y1|apply Yn
    refine un2 _ _ _ _ _ _ _ rfl rfl ?_
    iterate 10 first|apply Yu|apply Yv|apply Yt
    exact ⟨_, rfl, rfl, le_runNil2 (runP_2 c1 _ (by rw [se_hit hi f0_2 (by rw [hz]; decide), hz]) (by decide))⟩
   apply Yk
   apply Yw
   exact thenK_n ⟨_, ⟨any_snoc f2_0 c3, rfl⟩, Wk.keep rfl ⟨rfl, rfl, rfl, rfl, rfl, trivial⟩ rfl⟩
  rintro q M dn _ ⟨f2_0, rfl⟩ hp
  have ha := anyp_end hp f2_0
  refine ⟨_, Wk.keep (l := [(29, .one (.d (.raw q))), (7, .one (.map 0)), (19, .one (.d (.vec 5 (rs.map rulD)))), (20, .one (.d (.int .i64 ((rs.map rulD).length : Int)))), (21, .one (.d (.int .i64 (i : Int))))]) (b1 := []) (b2 := []) (r1 := []) (r2 := []) (m1 := [mapOf D.str (fun v : List UInt8 => DV.one (.str v)) (tab1)]) (m2 := []) rfl ⟨rfl, rfl, rfl, rfl, rfl, trivial⟩ rfl, ?_⟩
  apply Y3
  refine Yp rfl ?_
  refine S.mapLen tOk rfl rfl rfl rfl (tabD_len _) ?_
  refine Yp rfl ?_
  apply Yn
  refine W.cond rfl (fun c4=>?_) fun c4=>?_
  ·skip
   have hz : stepAt ss rs i = 4 := by rw [← f0_1.at, ← step_eq f0_1.all hoi, stepR_4 h1 ha c4]
   iterate 10 first|apply Yu|apply Yv|refine Yp rfl ?_|apply Yt|apply Y1|apply Yn
   exact ⟨_, rfl, rfl, le_runNil2 (runP_2 c1 _ (by rw [se_hit hi f0_2 (by rw [hz]; decide), hz]) (by decide))⟩
  have hz : stepE tab (rs.getD i Rul.z) = 0 := by rw [← step_eq f0_1.all hoi, stepR_0 h1 ha c4]
  apply Yk
  apply Yw
  apply Y4
  iterate 2 refine Yp rfl ?_
  refine loop_n (rs.length - (i + 1)) (by omega) ⟨i + 1, tab1, hi, way_next f0_1 hoi hz h1, se_next hi f0_2 (f0_1.at.symm.trans hz), rfl, _, _, _, _, rfl, rfl, rfl, rfl, inc_i64 (by omega), trivial⟩
 have hi := row_ge c2
 obtain rfl : i = rs.length := by omega
 apply Yq
 apply Ye
 apply Ye
 apply Yx
 apply Y3
 refine Yp rfl ?_
 refine S.hcallD rfl rfl rfl rfl ((pc_Listed tab f0_1.eq.l f0_1.key (by have := f0_1.len; omega)).fd [] [] [0] rfl) ?_
 iterate 2 refine Yp rfl ?_
 apply Yn
 apply Yt
 exact Yz rfl rfl rfl (by rw [runP_3 c1 (se_end hi f0_2), f0_1.eq.list]; rfl)
end
section
open Go
open Go.RowKit
attribute [local irreducible] thenK blockK W
attribute [local irreducible] rangeB pathB nameB valueB firstNe ruleC
end
section
open Go
open Go.RowKit
attribute [local irreducible] thenK blockK W
attribute [local irreducible] rangeB pathB nameB valueB firstNe tailOf listT ndT badP sortS prefT stepE stepR listE ruleC doT runT stepsE runF
theorem stgV_at {l : List Stg} {i : Nat} (h : i < l.length) : V.one (.eptr ((l.map stgD).getD ((i : Int)).toNat [])) = V.one (.eptr (stgD (l.getD i Stg.z))) := row_at (f := stgD) Stg.z h
theorem pc_EqualS (l : List Stg) (hl : l.length ≤ 1000000000) :
  PureCall Tryz.prog J 34 [.one (.d (.vec 2 (l.map stgD))), .one (.d (.vec 2 (l.map stgD)))] (.one (.d (.bool true))) := by
 refine PureCall.of_body tOk (fn := Tryz.f34) Tryz.func34 (by kernel_rfl) rfl (Nat.le_of_ble_eq_true rfl) (fun E => ?_)
 iterate 11 first|refine Yp rfl ?_|apply Y1|apply Yn|apply Ys
 refine W.cond rfl (fun c1=>?_) fun c1=>?_
 ·skip
  exact absurd c1 (by simp)
 iterate 9 first|refine Yp rfl ?_|apply Yb|apply Yk|apply Y1|apply Yn|apply Ys
 refine W.loop (fun k st => ∃ i : Nat, i ≤ l.length ∧ k = l.length - i ∧ ∃ t b2 r2 m2, st = ⟨t, [] ++ b2, [] ++ r2, [] ++ m2⟩ ∧ holdsL t [(0, .one (.d (.vec 2 (l.map stgD)))), (1, .one (.d (.vec 2 (l.map stgD)))), (12, .one (.d (.int .i64 ((l.map stgD).length : Int)))), (13, .one (.d (.int .i64 (i : Int))))]) (l.length) ⟨0, Nat.zero_le _, rfl, _, _, _, _, rfl, rfl, rfl, rfl, rfl, trivial⟩ ?_
 rintro k0 _ ⟨i, f0_0, rfl, t0, bb0, rr0, mm0, rfl, hh0⟩
 refine W.keepR _ _ _ _ _ _ _ hh0 rfl ?_
 apply Y1
 refine Yp rfl ?_
 apply Yn
 apply Ys
 refine W.cond rfl (fun c2=>?_) fun c2=>?_
 ·skip
  have hi := row_lt c2
  iterate 9 first|refine Yp rfl ?_|apply Yb|apply Yk|apply Y1|apply Ys|apply Yn
  refine W.regionD mixed (by kernel_rfl) ?_
  iterate 2 refine Ym rfl rfl ?_
  refine D.pureE tOk zOk rfl rfl (row_ok hi) (stgV_at hi) rfl ?_
  iterate 3 refine Ym rfl rfl ?_
  refine D.pureE tOk zOk rfl rfl (row_ok hi) (stgV_at hi) rfl ?_
  iterate 2 refine Ym rfl rfl ?_
  apply Yn
  refine W.cond rfl (fun c3=>?_) fun c3=>?_
  ·skip
   exact absurd c3 (by simp)
  apply Yk
  apply Yw
  apply Y4
  iterate 2 refine Yp rfl ?_
  refine loop_n (l.length - (i + 1)) (by omega) ⟨i + 1, hi, rfl, _, _, _, _, rfl, rfl, rfl, rfl, inc_i64 (by omega), trivial⟩
 apply Yq
 apply Ye
 apply Ye
 apply Yx
 apply Y3
 refine Yp rfl ?_
 apply Yn
 apply Yt
 exact ⟨_, rfl, rfl, LeV.refl _⟩
end
section
open Go
open Go.RowKit
attribute [local irreducible] thenK blockK W
attribute [local irreducible] rangeB pathB nameB valueB firstNe tailOf listT ndT badP sortS prefT stepE stepR listE ruleC doT runT stepsE runF runP
end
end Go.Proofs.YtpelfildfidnbaaGreatDoor
namespace Go.Proofs.YtpelfildfidnbaaGreatDoor
section
open Go
theorem tab_lk {l : List Stg} (hd : (l.map (·.k)).Nodup) : ∀ i, i ≤ l.length → ∀ q, lk (tabTo l i) q = ((l.take i).find? (fun s => s.k == q)).map (·.v)
  | 0, _, q => rfl
  | i + 1, hi, q => by
    have hi' : i < l.length := by omega
    show lk (setL beqS (tabTo l i) (l.getD i Stg.z).k (l.getD i Stg.z).v) q = _
    rw [lk_set, take_getD (d := Stg.z) hi', List.find?_append]
    unfold setF
    have ih := tab_lk hd i (by omega) q
    by_cases hq : (q == (l.getD i Stg.z).k) = true
    · rw [if_pos hq]
      have hq' := beq_iff_eq.1 hq
      have : (l.take i).find? (fun s => s.k == q) = none := by
        rw [List.find?_eq_none]
        intro s hs hsk
        have hsk := beq_iff_eq.1 hsk
        obtain ⟨j, hj, hje⟩ := List.getElem_of_mem hs
        have hj2 : j < i := by simp at hj; omega
        have e1 : (l.map (·.k))[j]? = some q := by
          rw [List.getElem?_map, List.getElem?_eq_getElem (by omega)]
          have : l[j] = s := by rw [← hje, List.getElem_take]
          rw [this, ← hsk]; rfl
        have e2 : (l.map (·.k))[i]? = some q := by
          rw [List.getElem?_map, List.getElem?_eq_getElem hi', hq', List.getD_eq_getElem?_getD, List.getElem?_eq_getElem hi']; rfl
        have := (List.getElem?_inj (List.getElem?_eq_some_iff.1 e1).1 hd).1 (e1.trans e2.symm)
        omega
      rw [this]
      simp [hq', List.find?]
    · rw [if_neg hq, ih]
      have h2 : ((l.getD i Stg.z).k == q) = false := by
        rw [beq_eq_false_iff_ne]; intro h; exact hq (by rw [h]; exact beq_self_eq_true _)
      cases (l.take i).find? (fun s => s.k == q) with
      | some s => rfl
      | none =>
        have e : [l.getD i Stg.z].find? (fun s => s.k == q) = none := by rw [List.find?_cons, h2]; rfl
        rw [e]; rfl
theorem stg_rise {l : List Stg} (h : listE pathB l = 0) : l.Pairwise fun a b => a.k < b.k := by
 have hz := firstNe_zero h
 have step : ∀ i, i + 1 < l.length → (l.getD i Stg.z).k < (l.getD (i + 1) Stg.z).k := fun i hi => by
  have h2 := hz (stgAt pathB l (i + 1)) (List.mem_map.2 ⟨i + 1, List.mem_range.2 hi, rfl⟩)
  unfold stgAt at h2
  split at h2
  ·skip
   cases h2
  ·skip
   split at h2
   ·skip
    cases h2
   ·skip
    split at h2
    ·skip
     cases h2
    ·skip
     rename_i hh
     have hle : leS (l.getD (i + 1) Stg.z).k (l.getD i Stg.z).k = false := by
      cases hq : leS (l.getD (i + 1) Stg.z).k (l.getD i Stg.z).k with
      | false => rfl
      | true => exact absurd (by rw [Nat.add_sub_cancel, hq, Bool.and_true, decide_eq_true_eq]; omega) hh
     unfold leS at hle
     rw [bytesLess_eq, Bool.or_eq_false_iff] at hle
     have h3 : ¬ (l.getD (i + 1) Stg.z).k < (l.getD i Stg.z).k := of_decide_eq_false hle.1
     have h4 : (l.getD (i + 1) Stg.z).k ≠ (l.getD i Stg.z).k := by simpa using hle.2
     by_cases hlt : (l.getD i Stg.z).k < (l.getD (i + 1) Stg.z).k
     ·skip
      exact hlt
     ·skip
      exact absurd (List.le_antisymm (List.not_lt.1 hlt) (List.not_lt.1 h3)) h4
 refine List.pairwise_iff_getElem.2 fun i j hi hj hij => ?_
 have go : ∀ d i, i + d + 1 < l.length → (l.getD i Stg.z).k < (l.getD (i + d + 1) Stg.z).k := fun d => by
  induction d with
  | zero => intro i h; exact step i h
  | succ d ih => intro i h; exact List.lt_trans (ih i (by omega)) (step (i + d + 1) h)
 have := go (j - i - 1) i (by omega)
 rw [show i + (j - i - 1) + 1 = j by omega] at this
 simpa [List.getD_eq_getElem?_getD, hi, hj] using this
theorem list_tab {l : List Stg} (h : listE pathB l = 0) : listT (tabOf l) = l := by
 have hr := stg_rise h
 have hnd : (l.map (·.k)).Nodup := by
  rw [List.nodup_iff_pairwise_ne]
  exact List.pairwise_map.2 (hr.imp fun hlt he => by rw [he] at hlt; exact List.lt_irrefl _ hlt)
 have hlk : ∀ q, lk (tabOf l) q = (l.find? (fun s => s.k == q)).map (·.v) := fun q => by
  have := tab_lk hnd l.length (Nat.le_refl _) q
  rwa [List.take_length] at this
 have hfind : ∀ s ∈ l, l.find? (fun x => x.k == s.k) = some s := fun s hs => by
  cases hf : l.find? (fun x => x.k == s.k) with
  | none =>
   rw [List.find?_eq_none] at hf
   exact absurd (by simp) (hf s hs)
  | some x =>
   have h1 := List.mem_of_find?_eq_some hf
   have h2 := List.find?_some hf
   have h2 : x.k = s.k := by simpa using h2
   obtain ⟨i, hi, hie⟩ := List.getElem_of_mem h1
   obtain ⟨j, hj, hje⟩ := List.getElem_of_mem hs
   have e1 : (l.map (·.k))[i]? = some s.k := by rw [List.getElem?_map, List.getElem?_eq_getElem hi, hie, ← h2]; rfl
   have e2 : (l.map (·.k))[j]? = some s.k := by rw [List.getElem?_map, List.getElem?_eq_getElem hj, hje]; rfl
   have := (List.getElem?_inj (List.getElem?_eq_some_iff.1 e1).1 hnd).1 (e1.trans e2.symm)
   subst this
   rw [← hie, hje]
 -- the keys
 have hkeys : keysT (tabOf l) = l.map (·.k) := by
  have hp : ((tabOf l).map (·.1)).Perm (l.map (·.k)) := by
   refine (List.perm_ext_iff_of_nodup (tabTo_nd l _) hnd).2 fun q => ?_
   have h1 := lk_none (t := tabOf l) (k := q)
   rw [hlk] at h1
   constructor
   ·skip
    intro hq
    cases hf : l.find? (fun s => s.k == q) with
    | none => rw [hf] at h1; exact absurd hq (h1.1 rfl)
    | some s =>
     have h2 := List.find?_some hf
     exact List.mem_map.2 ⟨s, List.mem_of_find?_eq_some hf, by simpa using h2⟩
   ·skip
    intro hq
    obtain ⟨s, hs, rfl⟩ := List.mem_map.1 hq
    by_cases hm : s.k ∈ (tabOf l).map (·.1)
    ·skip
     exact hm
    ·skip
     have := h1.2 hm
     rw [hfind s hs] at this; cases this
  unfold keysT sortS
  rw [mergeSort_of_perm hp]
  refine List.mergeSort_of_pairwise ?_
  exact List.pairwise_map.2 (hr.imp fun hlt => by simp only [leB, decide_eq_true_eq]; exact List.le_of_lt hlt)
 show ((keysT (tabOf l)).map fun k => (⟨k, getL beqS [] (tabOf l) k⟩ : Stg)) = l
 rw [hkeys, List.map_map]
 conv => rhs; rw [← List.map_id l]
 refine List.map_congr_left fun s hs => ?_
 show (⟨s.k, getL beqS [] (tabOf l) s.k⟩ : Stg) = s
 rw [get_lk, hlk, hfind s hs]
 rfl
end
end Go.Proofs.YtpelfildfidnbaaGreatDoor
namespace Go.Proofs.YtpelfildfidnbaaGreatDoor
section
open Go
theorem prEnd_ok (r : Rul) (s : L8) : (prEnd r s).1 = Rul.z ∨ ruleC (prEnd r s).1 = 0 := by
 unfold prEnd
 split
 ·skip
  exact .inl rfl
 ·skip
  split
  ·skip
   exact .inl rfl
  ·skip
   rename_i h; exact .inr (by simpa using h)
theorem prNew_ok (r : Rul) (s : L8) : (prNew r s).1 = Rul.z ∨ ruleC (prNew r s).1 = 0 := by
 unfold prNew
 split
 ·skip
  split
  ·skip
   exact .inl rfl
  ·skip
   exact prEnd_ok _ _
 ·skip
  exact prEnd_ok _ _
theorem prOld_ok (r : Rul) (s : L8) : (prOld r s).1 = Rul.z ∨ ruleC (prOld r s).1 = 0 := by
 unfold prOld
 split
 ·skip
  split
  ·skip
   exact .inl rfl
  ·skip
   exact prNew_ok _ _
 ·skip
  exact prNew_ok _ _
theorem prTo_ok (r : Rul) (s : L8) : (prTo r s).1 = Rul.z ∨ ruleC (prTo r s).1 = 0 := by
 unfold prTo
 split
 ·skip
  split
  ·skip
   exact .inl rfl
  ·skip
   exact prOld_ok _ _
 ·skip
  exact prOld_ok _ _
theorem parK_ok (k : Int) (s : L8) : (parK k s).1 = Rul.z ∨ ruleC (parK k s).1 = 0 := by
 unfold parK
 split
 ·skip
  exact .inl rfl
 ·skip
  exact prTo_ok _ _
theorem parR_ok (s : L8) : (parR s).1 = Rul.z ∨ ruleC (parR s).1 = 0 := by
 unfold parR
 split
 ·skip
  exact .inl rfl
 ·skip
  split
  ·skip
   exact .inl rfl
  ·skip
   exact parK_ok _ _
theorem parR_B (s : L8) : RulB (parR s).1 := by
 rcases parR_ok s with h | h
 ·skip
  rw [h]; exact RulB.z
 ·skip
  have ho := rul_ok h
  exact ⟨Nat.le_trans ho.len.1 (by decide), Nat.le_trans ho.len.2 (by decide), Nat.le_trans (value_len ho.vo) (by decide), Nat.le_trans (value_len ho.vn) (by decide)⟩
theorem readM_B (l : List L8) : ∀ r ∈ (readM l).1, RulB r := fun r hr => by
 unfold readM at hr
 split at hr
 ·skip
  cases hr
 ·skip
  obtain ⟨s, _, rfl⟩ := List.mem_map.1 (show r ∈ (l.take l.length).map fun s => (parR s).1 from hr)
  exact parR_B s
theorem readM_len (l : List L8) : (readM l).1.length ≤ l.length := by
 unfold readM
 split
 ·skip
  exact Nat.zero_le _
 ·skip
  exact Nat.le_of_eq (readTo_len (Nat.le_refl _))
def carS (l : List Mv) (ss : List Stg) (ks : List Nat) : Nat → List Stg × Int
 | 0 => runP ss []
 | j + 1 => if (carS l ss ks j).2 != 0 then carS l ss ks j else runP (carS l ss ks j).1 (readM (l.getD (ks.getD j 0) Mv.z).rs).1
def carE (l : List Mv) (ss : List Stg) (ks : List Nat) : List Stg × Int :=
 if (carS l ss ks ks.length).2 != 0 then ([], (carS l ss ks ks.length).2) else ((carS l ss ks ks.length).1, 0)
def carryP (ss : List Stg) (l : List Mv) (v w : Ver) : List Stg × Int :=
 if (wayP l v w).2 != 0 then ([], (wayP l v w).2) else carE l ss (wayP l v w).1
theorem carS_len (l : List Mv) (ss : List Stg) (ks : List Nat) : ∀ j, (carS l ss ks j).1.length ≤ 2000 ∧ ∀ s ∈ (carS l ss ks j).1, s.k.length < 4294967000 ∧ s.v.length < 4294967000
  | 0 => runP_len _ _
  | j + 1 => by
    unfold carS
    split
    · exact carS_len l ss ks j
    · exact runP_len _ _
theorem carE_len (l : List Mv) (ss : List Stg) (ks : List Nat) : (carE l ss ks).1.length ≤ 2000 ∧ ∀ s ∈ (carE l ss ks).1, s.k.length < 4294967000 ∧ s.v.length < 4294967000 := by
 unfold carE
 split
 ·skip
  exact ⟨Nat.zero_le _, fun s hs => by cases hs⟩
 ·skip
  exact carS_len _ _ _ _
theorem carryP_len (ss : List Stg) (l : List Mv) (v w : Ver) : (carryP ss l v w).1.length ≤ 2000 ∧ ∀ s ∈ (carryP ss l v w).1, s.k.length < 4294967000 ∧ s.v.length < 4294967000 := by
 unfold carryP
 split
 ·skip
  exact ⟨Nat.zero_le _, fun s hs => by cases hs⟩
 ·skip
  exact carE_len _ _ _
theorem carS_stop {l : List Mv} {ss : List Stg} {ks : List Nat} {j : Nat} (h : ((carS l ss ks j).2 != 0) = true) : ∀ i, carS l ss ks (j + i) = carS l ss ks j
  | 0 => rfl
  | i + 1 => by
    have ih := carS_stop h i
    show (if (carS l ss ks (j + i)).2 != 0 then carS l ss ks (j + i) else _) = _
    rw [ih, if_pos h]
theorem carS_hit {l : List Mv} {ss : List Stg} {ks : List Nat} {j : Nat} (hj : j ≤ ks.length) (h : ((carS l ss ks j).2 != 0) = true) : carS l ss ks ks.length = carS l ss ks j := by
 have := carS_stop h (ks.length - j)
 rwa [show j + (ks.length - j) = ks.length by omega] at this
theorem carS_next {l : List Mv} {ss : List Stg} {ks : List Nat} {j : Nat} (h : ((carS l ss ks j).2 != 0) = false) : carS l ss ks (j + 1) = runP (carS l ss ks j).1 (readM (l.getD (ks.getD j 0) Mv.z).rs).1 := by
 show (if _ then _ else _) = _
 rw [if_neg (Bool.eq_false_iff.1 h)]
theorem run_nil {s : List Stg} (h : listE pathB s = 0) (hl : s.length ≤ 2000) : runP s [] = (s, 0) := by
 have h1 : runF s [] = 0 := by
  rw [runF_3 (by rw [h]; rfl) (by simp; omega)]; rfl
 rw [runP_3 (by rw [h1]; rfl) rfl]
 show (listT (tabOf s), (0 : Int)) = _
 rw [list_tab h]
def vAt (l : List Mv) (v : Ver) (ks : List Nat) : Nat → Ver
 | 0 => v
 | j + 1 => (l.getD (ks.getD j 0) Mv.z).t
theorem vAt_cons (l : List Mv) (v : Ver) (k : Nat) (ks : List Nat) : ∀ j, vAt l v (k :: ks) (j + 1) = vAt l (l.getD k Mv.z).t ks j
 | 0 => rfl
 | j + 1 => by show (l.getD ((k :: ks).getD (j + 1) 0) Mv.z).t = (l.getD (ks.getD j 0) Mv.z).t; rw [List.getD_cons_succ]
theorem chain_at {l : List Mv} : ∀ {v : Ver} {ks : List Nat}, Chain l v ks → ∀ {j : Nat}, j < ks.length → ks.getD j 0 < l.length ∧ hasM (l.getD (ks.getD j 0) Mv.z) (vAt l v ks j) = true ∧ (l.getD (ks.getD j 0) Mv.z).t ≠ vAt l v ks j
  | v, [], _, j, h => absurd h (Nat.not_lt_zero _)
  | v, k :: ks, ⟨a, b, c, d⟩, 0, _ => ⟨a, b, c⟩
  | v, k :: ks, ⟨a, b, c, d⟩, j + 1, h => by
    rw [vAt_cons, List.getD_cons_succ]
    exact chain_at d (by simpa using h)
theorem car_0 (l : List Mv) (ss : List Stg) (ks : List Nat) : carS l ss ks 0 = runP ss [] := by unfold carS; rfl
theorem carry_1 {ss : List Stg} {l : List Mv} {v w : Ver} (h : ((wayP l v w).2 != 0) = true) : carryP ss l v w = ([], (wayP l v w).2) := if_pos h
theorem carry_2 {ss : List Stg} {l : List Mv} {v w : Ver} {x : List Stg × Int} (h : ((wayP l v w).2 != 0) = false) (hx : carS l ss (wayP l v w).1 (wayP l v w).1.length = x) (c : (x.2 != 0) = true) : carryP ss l v w = ([], x.2) := by
 subst hx; unfold carryP; rw [if_neg (Bool.eq_false_iff.1 h)]; unfold carE; exact if_pos c
theorem carry_3 {ss : List Stg} {l : List Mv} {v w : Ver} {x : List Stg × Int} (h : ((wayP l v w).2 != 0) = false) (hx : carS l ss (wayP l v w).1 (wayP l v w).1.length = x) (c : (x.2 != 0) = false) : carryP ss l v w = (x.1, 0) := by
 subst hx; unfold carryP; rw [if_neg (Bool.eq_false_iff.1 h)]; unfold carE; exact if_neg (Bool.eq_false_iff.1 c)
theorem ks_lt {l : List Mv} {v w : Ver} (h : ((wayP l v w).2 != 0) = false) {i : Nat} (hi : i < (wayP l v w).1.length) : (wayP l v w).1.getD i 0 < l.length := (chain_at (way_ok h).ch hi).1
end
section
open Go
open Go.RowKit
attribute [local irreducible] thenK blockK W
attribute [local irreducible] rangeB pathB nameB valueB firstNe parR rangeE Ver.check hasB HasB readE moveE orderB scanW stepW bfs listD intsD runP wayP carS carE carryP readM
theorem ints_lt {l : List Nat} {i : Nat} (h : decide ((i : Int) < ((intsD l).length : Int)) = true) : i < l.length := by unfold intsD at h; exact row_lt h
theorem ints_ge {l : List Nat} {i : Nat} (h : decide ((i : Int) < ((intsD l).length : Int)) = false) : l.length ≤ i := by unfold intsD at h; exact row_ge h
theorem ints_ok {l : List Nat} {i : Nat} (h : i < l.length) : (decide (0 ≤ (i : Int)) && decide ((i : Int) < ((intsD l).length : Int))) = true := by unfold intsD; exact row_ok h
theorem ints_at {l : List Nat} {i : Nat} (h : i < l.length) : V.one (.eptr ((intsD l).getD ((i : Int)).toNat [])) = V.one (.eptr [.int .i64 ((l.getD i 0 : Nat) : Int)]) := by unfold intsD; exact row_at (f := fun k : Nat => [.int .i64 (k : Int)]) 0 h
theorem le_carNil {n : Int} {x : List Stg × Int} (h : x = ([], n)) : LeV (.tup [.one (.d .nilsl), .one (.d (.int .i64 n))]) (.tup [.one (.d (.vec 2 (x.1.map stgD))), .one (.d (.int .i64 x.2))]) := by
 subst h; exact LeV.tup2 (LeV.nil 2) (LeV.refl _)
theorem pc_RunN (ss : List Stg) (hn : ss.length ≤ 2000000) (hs : ∀ s ∈ ss, s.k.length < 4294967000 ∧ s.v.length < 4294967000) : PureCall Tryz.prog J 87 [.one (.d (.vec 2 (ss.map stgD))), .one (.d .nilsl)] (.tup [.one (.d (.vec 2 ((runP ss []).1.map stgD))), .one (.d (.int .i64 (runP ss []).2))]) :=
 (pc_migrate_Run ss [] hn hs (Nat.zero_le _) (fun r hr => by cases hr)).le (.cons (LeV.refl _) (.cons (LeV.nil 5) .nil))
theorem pc_RunC (l : List Mv) (ss : List Stg) (ks : List Nat) (j : Nat) (m : Mv) (hm : MvB m) : PureCall Tryz.prog J 87 [.one (.d (.vec 2 ((carS l ss ks j).1.map stgD))), .one (.d (.vec 5 ((readM m.rs).1.map rulD)))]
  (.tup [.one (.d (.vec 2 ((runP (carS l ss ks j).1 (readM m.rs).1).1.map stgD))), .one (.d (.int .i64 (runP (carS l ss ks j).1 (readM m.rs).1).2))]) :=
 pc_migrate_Run _ _ (Nat.le_trans (carS_len l ss ks j).1 (by decide)) (carS_len l ss ks j).2 (Nat.le_trans (readM_len m.rs) hm.n) (readM_B m.rs)
theorem pc_Carry (ss : List Stg) (l : List Mv) (v w : Ver) (hn : ss.length ≤ 2000000) (hs : ∀ s ∈ ss, s.k.length < 4294967000 ∧ s.v.length < 4294967000) (hb : ∀ m ∈ l, MvB m) (hv : v.e.length < 4294967281) (hw : w.e.length < 4294967281) :
  PureCall Tryz.prog J 31 [.one (.d (.vec 2 (ss.map stgD))), .one (.d (.vec 6 (l.map mvD))), verV v, verV w] (.tup [.one (.d (.vec 2 ((carryP ss l v w).1.map stgD))), .one (.d (.int .i64 (carryP ss l v w).2))]) := by
 have hkl := way_len l v w
 refine PureCall.of_body tOk (fn := Tryz.f31) Tryz.func31 (by kernel_rfl) rfl (Nat.le_of_ble_eq_true rfl) (fun E => ?_)
 iterate 9 first|refine Yp rfl ?_|refine S.box rfl rfl rfl rfl ?_|apply Y3|apply Y1
 refine S.call rfl rfl rfl rfl rfl (pc_Way l v w hb hv hw) ?_
 iterate 11 first|refine Yp rfl ?_|apply Y1|apply Yn|apply Ys
 refine W.cond rfl (fun c1=>?_) fun c1=>?_
 ·skip
  iterate 7 first|refine Yp rfl ?_|apply Yu|apply Yt|apply Y1|apply Yn
  exact ⟨_, rfl, rfl, le_carNil (carry_1 c1)⟩
 apply Yk
 apply Y3
 refine Yp rfl ?_
 refine S.call rfl rfl rfl rfl rfl (pc_RunN ss hn hs) ?_
 iterate 13 first|refine Yp rfl ?_|apply Yb|apply Y1|apply Yn|apply Ys
 refine W.loop (fun k st => ∃ i : Nat, i ≤ (wayP l v w).1.length ∧ k = (wayP l v w).1.length - i ∧ ∃ t b2 r2 m2, st = ⟨t, [] ++ b2, [] ++ r2, [] ++ m2⟩ ∧ holdsL t [(1, .one (.d (.vec 6 (l.map mvD)))), (11, .one (.d (.int .i64 (carS l ss (wayP l v w).1 i).2))), (12, .one (.d (.vec 2 ((carS l ss (wayP l v w).1 i).1.map stgD)))), (32, .one (.d (.vec 1 (intsD (wayP l v w).1)))), (33, .one (.d (.int .i64 ((intsD (wayP l v w).1).length : Int)))), (34, .one (.d (.int .i64 (i : Int))))]) ((wayP l v w).1.length) ⟨0, Nat.zero_le _, rfl, _, _, _, _, rfl, rfl, (congrArg (fun x : List Stg × Int => V.one (.d (.int .i64 x.2))) (car_0 l ss _).symm), (congrArg (fun x : List Stg × Int => V.one (.d (.vec 2 (x.1.map stgD)))) (car_0 l ss _).symm), rfl, rfl, rfl, trivial⟩ ?_
 rintro k0 _ ⟨i, f0_0, rfl, t0, bb0, rr0, mm0, rfl, hh0⟩
 refine W.keepR _ _ _ _ _ _ _ hh0 rfl ?_
 apply Y1
 refine Yp rfl ?_
 apply Yn
 apply Ys
 refine W.cond rfl (fun c2=>?_) fun c2=>?_
 ·skip
  have hi := ints_lt c2
  have hk := ks_lt c1 hi
  have hmb := hb _ (mem_getD (d := Mv.z) hk)
  apply Yk
  apply Yn
  apply Ys
  apply Yb
  apply Y1
  refine YE rfl (ints_ok hi) (ints_at hi) rfl ?_
  iterate 8 first|refine Yp rfl ?_|apply Y1|apply Yn|apply Ys
  refine W.cond rfl (fun c3=>?_) fun c3=>?_
  ·skip
   apply Yq
   apply Ye
   refine blockK_e rfl ?_
   iterate 9 first|refine Yp rfl ?_|apply Ye|apply Yx|apply Y1|apply Yn|apply Ys
   refine W.cond rfl (fun c4=>?_) fun c4=>?_
   ·skip
    iterate 7 first|refine Yp rfl ?_|apply Yu|apply Yt|apply Y1|apply Yn
    exact ⟨_, rfl, rfl, le_carNil (carry_2 c1 (carS_hit (Nat.le_of_lt hi) c3) c3)⟩
   exact absurd (c4.symm.trans c3) (by decide)
  apply Yk
  apply Y3
  iterate 2 refine Yp rfl ?_
  refine YE rfl (row_ok hk) (row_at Mv.z hk) rfl ?_
  refine Yp rfl ?_
  refine S.call rfl rfl rfl rfl rfl (pc_rulesOf (l.getD ((wayP l v w).1.getD i 0) Mv.z) hmb) ?_
  iterate 8 first|refine Yp rfl ?_|apply Y4
  refine S.call rfl rfl rfl rfl rfl (pc_RunC l ss (wayP l v w).1 i (l.getD ((wayP l v w).1.getD i 0) Mv.z) hmb) ?_
  iterate 9 first|refine Yp rfl ?_|apply Yw|apply Y4
  refine loop_n ((wayP l v w).1.length - (i + 1)) (by omega) ⟨i + 1, hi, rfl, _, _, _, _, rfl, rfl, (congrArg (fun x : List Stg × Int => V.one (.d (.int .i64 x.2))) (carS_next c3).symm), (congrArg (fun x : List Stg × Int => V.one (.d (.vec 2 (x.1.map stgD)))) (carS_next c3).symm), rfl, rfl, inc_i64 (by omega), trivial⟩
 have hi := ints_ge c2
 obtain rfl : i = (wayP l v w).1.length := by omega
 apply Yq
 iterate 9 first|refine Yp rfl ?_|apply Ye|apply Yx|apply Y1|apply Yn|apply Ys
 refine W.cond rfl (fun c5=>?_) fun c5=>?_
 ·skip
  iterate 7 first|refine Yp rfl ?_|apply Yu|apply Yt|apply Y1|apply Yn
  exact ⟨_, rfl, rfl, le_carNil (carry_2 c1 rfl c5)⟩
 apply Yk
 apply Y3
 iterate 3 refine Yp rfl ?_
 apply Yn
 apply Yt
 exact Yz rfl rfl rfl (by rw [carry_3 c1 rfl c5]; rfl)
end
section
open Go
open Go.RowKit
attribute [local irreducible] thenK blockK W
attribute [local irreducible] rangeB pathB nameB valueB firstNe parR rdR rangeE Ver.check hasB HasB hasM hasR readE moveE orderB compareR bfs wayP intsD listD runP carS carE carryP readM listT tabOf
theorem read_R {m : Mv} (h : moveE m = 0) : readTo m.rs m.rs.length = (readM m.rs).1 := by
 have h1 : (readM m.rs).2 = 0 := by
  unfold moveE at h
  split at h
  ·skip
   rename_i h1; rw [h] at h1; exact absurd h1 (by decide)
  ·skip
   split at h
   ·skip
    rename_i h2; rw [h] at h2; exact absurd h2 (by decide)
   ·skip
    split at h
    ·skip
     cases h
    ·skip
     exact h
 unfold readM at h1 ⊢
 split
 ·skip
  rename_i h2
  rw [if_pos h2] at h1
  have h1 : readE m.rs = 0 := h1
  rw [h1] at h2; exact absurd h2 (by decide)
 ·skip
  rfl
theorem run0_e (ss : List Stg) : firstNe [listE pathB ss, if decide (((ss.map stgD).length : Int) > 2000) then 4 else 0] = runF ss [] := by
 unfold runF
 rw [List.length_map]
 have h0 : firstNe [] = 0 := firstNe_none (i := 0) (Nat.le_refl _) rfl
 simp only [firstNe_cons]
 rw [show rulesE [] = firstNe [] from rfl, h0]
 rfl
theorem run0_l {ss : List Stg} (h : (runF ss [] != 0) = false) : runP ss [] = (ss, 0) := run_nil (runF_list h) (run_ok h).len
theorem list_tabD {ss : List Stg} (h : (runF ss [] != 0) = false) : listT (tabOf ss) = ss := list_tab (runF_list h)
theorem pc_RulesOf (m : Mv) (hm : MvB m) (h0 : moveE m = 0) :
  PureCall Tryz.prog J 91 [.agg [.d (.vec 10 (m.f.map spD)), .d (.int .i64 m.t.a), .d (.int .i64 m.t.b), .d (.int .i64 m.t.c), .d (.str m.t.e), .d (.vec 1 (m.rs.map fun s => [.str s]))]] (.one (.d (.vec 5 ((readM m.rs).1.map rulD)))) := by
 refine PureCall.of_body tOk (fn := Tryz.f91) Tryz.func91 (by kernel_rfl) rfl (Nat.le_of_ble_eq_true rfl) (fun E => ?_)
 iterate 13 first|refine Yp rfl ?_|refine S.box rfl rfl rfl rfl ?_|apply Y1|apply Y3|apply Yn|apply Ys
 refine W.newRow 3 5 106 rfl ?_
 apply Yb
 refine W.loop (fun k st => ∃ i : Nat, ∃ v : Nat, ∃ al : Bool, i ≤ m.rs.length ∧ k = m.rs.length - i ∧ ∃ t b2 r2 m2, st = ⟨t, [] ++ b2, [some ⟨al, v, 5, 106, (readTo m.rs i).map rulD⟩] ++ r2, [] ++ m2⟩ ∧ holdsL t [(3, .one (.row 0 v 0 ((readTo m.rs i).map rulD).length)), (9, .one (.d (.vec 1 (m.rs.map fun x => [.str x])))), (10, .one (.d (.int .i64 ((m.rs.map fun x => ([.str x] : List D)).length : Int)))), (11, .one (.d (.int .i64 (i : Int))))]) (m.rs.length) ⟨0, _, _, Nat.zero_le _, rfl, _, _, _, _, rfl, rfl, rfl, rfl, rfl, trivial⟩ ?_
 rintro k0 _ ⟨i, v, al, f0_0, rfl, t0, bb0, rr0, mm0, rfl, hh0⟩
 refine W.keepR _ _ _ _ _ _ _ hh0 rfl ?_
 refine W.reVer (l := [(3, .one (.row 0 0 0 ((readTo m.rs i).map rulD).length)), (9, .one (.d (.vec 1 (m.rs.map fun x => [.str x])))), (10, .one (.d (.int .i64 ((m.rs.map fun x => ([.str x] : List D)).length : Int)))), (11, .one (.d (.int .i64 (i : Int))))]) (b := []) 0 rfl rfl rfl rfl rfl ?_
 apply Y1
 refine Yp rfl ?_
 apply Yn
 apply Ys
 refine W.cond rfl (fun c1=>?_) fun c1=>?_
 ·skip
  have hi := row_lt c1
  have hri := hm.r _ (mem_getD (d := ([] : L8)) hi)
  have hmn := hm.n
  apply Yk
  apply Yn
  apply Ys
  apply Yb
  apply Y1
  refine YE rfl (row_ok hi) (row_at [] hi) rfl ?_
  iterate 4 first|refine Yp rfl ?_|apply Y3
  refine S.call rfl rfl rfl rfl rfl (pc_ReadRule (m.rs.getD i []) hri) ?_
  iterate 9 first|refine Yp rfl ?_|refine S.store tOk rfl rfl rfl rfl rfl rfl rfl rfl ?_|refine S.alloc tOk rfl rfl rfl rfl ?_|apply Y4
  refine S.slice tOk rfl rfl ?_
  refine S.append tOk rfl rfl rfl rfl rfl rfl rfl rfl rfl rfl rfl rfl (by have hq := readTo_len (l := m.rs) (Nat.le_of_lt hi); show _ + 1 ≤ _; rw [List.length_map]; omega) rfl (Eq.trans (congrArg (fun x => (readTo m.rs i).map rulD ++ [rulD (Prod.fst x)]) (readers _)) (readTo_D hi)) rfl ?_
  iterate 5 first|refine Yp rfl ?_|apply Yw|apply Y4
  refine loop_n (m.rs.length - (i + 1)) (by omega) ⟨i + 1, _, _, hi, rfl, _, _, _, _, rfl, rfl, rfl, rfl, inc_i64 (by omega), trivial⟩
 have hi := row_ge c1
 obtain rfl : i = m.rs.length := by omega
 apply Yq
 apply Ye
 apply Ye
 apply Yx
 apply Yn
 apply Ys
 refine W.freeze (ri := 0) (q := ⟨_, _, _, _, _⟩) [3] rfl (by intro k hk; simp at hk; subst hk; exact congrArg (fun z => V.one (.row 0 0 0 z)) (by simp)) ?_
 apply Yr
 iterate 2 refine Yp rfl ?_
 apply Yn
 apply Yt
 exact Yz rfl rfl rfl (by rw [read_R h0])
theorem pc_RunR (l : List Mv) (ss : List Stg) (ks : List Nat) (j : Nat) (m : Mv) (hm : MvB m) : PureCall Tryz.prog J 90 [.one (.d (.vec 2 ((carS l ss ks j).1.map stgD))), .one (.d (.vec 5 ((readM m.rs).1.map rulD)))]
  (.tup [.one (.d (.vec 2 ((runP (carS l ss ks j).1 (readM m.rs).1).1.map stgD))), .one (.d (.int .i64 (runP (carS l ss ks j).1 (readM m.rs).1).2))]) :=
 pc_outref2_RunOf _ _ (Nat.le_trans (carS_len l ss ks j).1 (by decide)) (carS_len l ss ks j).2 (Nat.le_trans (readM_len m.rs) hm.n) (readM_B m.rs)
theorem pc_CarryOf (ss : List Stg) (l : List Mv) (v w : Ver) (hn : ss.length ≤ 2000000) (hs : ∀ s ∈ ss, s.k.length < 4294967000 ∧ s.v.length < 4294967000) (hb : ∀ m ∈ l, MvB m) (hv : v.e.length < 4294967281) (hw : w.e.length < 4294967281) :
  PureCall Tryz.prog J 32 [.one (.d (.vec 2 (ss.map stgD))), .one (.d (.vec 6 (l.map mvD))), verV v, verV w] (.tup [.one (.d (.vec 2 ((carryP ss l v w).1.map stgD))), .one (.d (.int .i64 (carryP ss l v w).2))]) := by
 have hkl := way_len l v w
 refine PureCall.of_body tOk (fn := Tryz.f32) Tryz.func32 (by kernel_rfl) rfl (Nat.le_of_ble_eq_true rfl) (fun E => ?_)
 iterate 9 first|refine Yp rfl ?_|refine S.box rfl rfl rfl rfl ?_|apply Y3|apply Y1
 refine S.call rfl rfl rfl rfl rfl (pc_WayOf l v w hb hv hw) ?_
 iterate 11 first|refine Yp rfl ?_|apply Y1|apply Yn|apply Ys
 refine W.cond rfl (fun c1=>?_) fun c1=>?_
 ·skip
  have c1 : ((wayP l v w).2 != 0) = true := (by assumption)
  iterate 7 first|refine Yp rfl ?_|apply Yu|apply Yt|apply Y1|apply Yn
  exact ⟨_, rfl, rfl, le_carNil (carry_1 c1)⟩
 have c1 : ((wayP l v w).2 != 0) = false := (by assumption)
 have hwk := way_ok c1
 apply Yk
 apply Yn
 apply Ys
 apply Y1
 refine Yp rfl ?_
 refine S.call rfl rfl rfl rfl rfl (pc_listE ss (by omega) hs) ?_
 iterate 3 refine Yp rfl ?_
 refine S.call rfl rfl rfl rfl rfl (pc_outref2_When (decide (((ss.map stgD).length : Int) > 2000)) 4) ?_
 refine S.slice tOk rfl rfl ?_
 refine S.call rfl rfl rfl rfl rfl (pc_outref2_First [listE pathB ss, if decide (((ss.map stgD).length : Int) > 2000) then 4 else 0] (by simp)) ?_
 iterate 5 first|refine Yp rfl ?_|apply Y3|apply Yn
 refine W.cond rfl (fun c2=>?_) fun c2=>?_
 ·skip
  have hrf : (runF ss [] != 0) = true := by rw [← run0_e]; assumption
  have hr1 := runP_1 hrf
  have hcr := carry_2 c1 (carS_hit (l := l) (ss := ss) (ks := (wayP l v w).1) (Nat.zero_le _) (by rw [car_0, hr1]; exact hrf)) (by rw [car_0, hr1]; exact hrf)
  rw [car_0, hr1] at hcr
  iterate 7 first|refine Yp rfl ?_|apply Yu|apply Yt|apply Y1|apply Yn
  exact ⟨_, rfl, rfl, le_carNil (by rw [run0_e]; exact hcr)⟩
 have hrf : (runF ss [] != 0) = false := by rw [← run0_e]; assumption
 have hwy := way_0 (run_ok hrf)
 have hc0 : ((carS l ss (wayP l v w).1 0).2 != 0) = false := by rw [car_0, run0_l hrf]; rfl
 apply Yk
 apply Y3
 refine Yp rfl ?_
 refine S.hcallD rfl rfl rfl rfl ((pc_Facts ss (by omega)).fd [] [] [] rfl) ?_
 refine S.hcallD rfl rfl rfl rfl ((pc_Listed (tabOf ss) hwy.eq.l hwy.key (by have := hwy.len; omega)).fd [] [] [0] rfl) ?_
 iterate 9 first|refine Yp rfl ?_|apply Yb|apply Y1|apply Yn|apply Ys
 refine W.loop (fun k st => ∃ i : Nat, i ≤ (wayP l v w).1.length ∧ ((carS l ss (wayP l v w).1 i).2 != 0) = false ∧ k = (wayP l v w).1.length - i ∧ ∃ t b2 r2 m2, st = ⟨t, [] ++ b2, [] ++ r2, [] ++ m2⟩ ∧ holdsL t [(0, .one (.d (.vec 2 ((carS l ss (wayP l v w).1 i).1.map stgD)))), (1, .one (.d (.vec 6 (l.map mvD)))), (39, .one (.d (.vec 1 (intsD (wayP l v w).1)))), (40, .one (.d (.int .i64 ((intsD (wayP l v w).1).length : Int)))), (41, .one (.d (.int .i64 (i : Int))))]) ((wayP l v w).1.length) ⟨0, Nat.zero_le _, hc0, rfl, _, _, _, _, rfl, (by rw [car_0, run0_l hrf]; exact congrArg (fun x : List Stg => V.one (.d (.vec 2 (x.map stgD)))) (list_tabD hrf)), rfl, rfl, rfl, rfl, trivial⟩ ?_
 rintro k0 _ ⟨i, f0_0, f0_1, rfl, t0, bb0, rr0, mm0, rfl, hh0⟩
 refine W.keepR _ _ _ _ _ _ _ hh0 rfl ?_
 apply Y1
 refine Yp rfl ?_
 apply Yn
 apply Ys
 refine W.cond rfl (fun c3=>?_) fun c3=>?_
 ·skip
  have hi := nts_lt (by assumption : decide ((i : Int) < ((intsD (wayP l v w).1).length : Int)) = true)
  have hk := ks_lt c1 hi
  have hmb := hb _ (mem_getD (d := Mv.z) hk)
  have hm0 := hwk.mv _ (mem_getD (d := Mv.z) hk)
  apply Yk
  apply Yn
  apply Ys
  apply Yb
  apply Y1
  refine YE rfl (nts_ok hi) (nts_at hi) rfl ?_
  iterate 6 first|refine Yp rfl ?_|apply Y3
  refine YE rfl (row_ok hk) (row_at Mv.z hk) rfl ?_
  refine Yp rfl ?_
  refine S.call rfl rfl rfl rfl rfl (pc_RulesOf (l.getD ((wayP l v w).1.getD i 0) Mv.z) hmb hm0) ?_
  refine S.call rfl rfl rfl rfl rfl (pc_RunR l ss (wayP l v w).1 i (l.getD ((wayP l v w).1.getD i 0) Mv.z) hmb) ?_
  iterate 9 first|refine Yp rfl ?_|apply Y3|apply Yn
  refine W.cond rfl (fun c4=>?_) fun c4=>?_
  ·skip
   have hcc : ((runP (carS l ss (wayP l v w).1 i).1 (readM (l.getD ((wayP l v w).1.getD i 0) Mv.z).rs).1).2 != 0) = true := (by assumption)
   have hcr := carry_2 c1 ((carS_hit (j := i + 1) hi (by rw [carS_next f0_1]; exact hcc)).trans (carS_next f0_1)) hcc
   iterate 11 first|apply Yu|refine Yp rfl ?_|apply Yv|apply Yt|apply Y1|apply Yn
   exact ⟨_, rfl, rfl, le_carNil hcr⟩
  apply Yk
  apply Yw
  apply Y4
  iterate 2 refine Yp rfl ?_
  refine loop_n ((wayP l v w).1.length - (i + 1)) (by omega) ⟨i + 1, hi, (by rw [carS_next f0_1]; assumption), rfl, _, _, _, _, rfl, (congrArg (fun x : List Stg × Int => V.one (.d (.vec 2 (x.1.map stgD)))) ((carS_next f0_1).symm)), rfl, rfl, rfl, inc_i64 (by omega), trivial⟩
 have hi := nts_ge (by assumption : decide ((i : Int) < ((intsD (wayP l v w).1).length : Int)) = false)
 obtain rfl : i = (wayP l v w).1.length := by omega
 iterate 9 first|refine Yp rfl ?_|apply Ye|apply Yx|apply Yq|apply Y3|apply Yn
 apply Yt
 exact Yz rfl rfl rfl (by rw [carry_3 c1 rfl f0_1]; rfl)
theorem pc_EqualN (x : List Nat) (hx : x.length ≤ 1000000000) :
  PureCall Tryz.prog J 33 [.one (.d (.vec 1 (intsD x))), .one (.d (.vec 1 (intsD x)))] (.one (.d (.bool true))) := by
 refine PureCall.of_body tOk (fn := Tryz.f33) Tryz.func33 (by kernel_rfl) rfl (Nat.le_of_ble_eq_true rfl) (fun E => ?_)
 iterate 11 first|refine Yp rfl ?_|apply Y1|apply Yn|apply Ys
 refine W.cond rfl (fun c1=>?_) fun c1=>?_
 ·skip
  exact absurd c1 (by simp)
 iterate 9 first|refine Yp rfl ?_|apply Yb|apply Yk|apply Y1|apply Yn|apply Ys
 refine W.loop (fun k st => ∃ i : Nat, i ≤ x.length ∧ k = x.length - i ∧ ∃ t b2 r2 m2, st = ⟨t, [] ++ b2, [] ++ r2, [] ++ m2⟩ ∧ holdsL t [(0, .one (.d (.vec 1 (intsD x)))), (1, .one (.d (.vec 1 (intsD x)))), (12, .one (.d (.int .i64 ((intsD x).length : Int)))), (13, .one (.d (.int .i64 (i : Int))))]) (x.length) ⟨0, Nat.zero_le _, rfl, _, _, _, _, rfl, rfl, rfl, rfl, rfl, trivial⟩ ?_
 rintro k0 _ ⟨i, f0_0, rfl, t0, bb0, rr0, mm0, rfl, hh0⟩
 refine W.keepR _ _ _ _ _ _ _ hh0 rfl ?_
 apply Y1
 refine Yp rfl ?_
 apply Yn
 apply Ys
 refine W.cond rfl (fun c2=>?_) fun c2=>?_
 ·skip
  have hi := nts_lt c2
  iterate 9 first|refine Yp rfl ?_|apply Yb|apply Yk|apply Y1|apply Ys|apply Yn
  refine W.regionD mixed (by kernel_rfl) ?_
  iterate 2 refine Ym rfl rfl ?_
  refine D.pureE tOk zOk rfl rfl (nts_ok hi) (nts_at hi) rfl ?_
  iterate 3 refine Ym rfl rfl ?_
  refine D.pureE tOk zOk rfl rfl (nts_ok hi) (nts_at hi) rfl ?_
  iterate 2 refine Ym rfl rfl ?_
  apply Yn
  refine W.cond rfl (fun c3=>?_) fun c3=>?_
  ·skip
   exact absurd c3 (by simp)
  apply Yk
  apply Yw
  apply Y4
  iterate 2 refine Yp rfl ?_
  refine loop_n (x.length - (i + 1)) (by omega) ⟨i + 1, hi, rfl, _, _, _, _, rfl, rfl, rfl, rfl, inc_i64 (by omega), trivial⟩
 apply Yq
 apply Ye
 apply Ye
 apply Yx
 apply Y3
 refine Yp rfl ?_
 apply Yn
 apply Yt
 exact ⟨_, rfl, rfl, LeV.refl _⟩
theorem pc_outlaw2_MovesMatch (ss : List Stg) (l : List Mv) (v w : Ver) (hn : ss.length ≤ 2000000) (hs : ∀ s ∈ ss, s.k.length < 4294967000 ∧ s.v.length < 4294967000) (hn2 : l.length ≤ 2000000) (hb : ∀ m ∈ l, MvB m) (hv : v.e.length < 4294967281) (hw : w.e.length < 4294967281) :
  PureCall Tryz.prog J 5 [.one (.d (.vec 2 (ss.map stgD))), .one (.d (.vec 6 (l.map mvD))), verV v, verV w] (.one (.d (.bool true))) := by
 have hkl := way_len l v w
 have hcl := (carryP_len ss l v w).1
 refine PureCall.of_body tOk (fn := Tryz.f5) Tryz.func5 (by kernel_rfl) rfl (Nat.le_of_ble_eq_true rfl) (fun E => ?_)
 iterate 12 first|refine Yp rfl ?_|refine S.box rfl rfl rfl rfl ?_|apply Yb|apply Y1|apply Yn|apply Ys
 refine W.loop (fun k st => ∃ i : Nat, i ≤ l.length ∧ k = l.length - i ∧ ∃ t b2 r2 m2, st = ⟨t, [[.d (.int .i64 v.a), .d (.int .i64 v.b), .d (.int .i64 v.c), .d (.str v.e)], [.d (.int .i64 w.a), .d (.int .i64 w.b), .d (.int .i64 w.c), .d (.str w.e)]] ++ b2, [] ++ r2, [] ++ m2⟩ ∧ holdsL t [(0, .one (.d (.vec 2 (ss.map stgD)))), (1, .one (.d (.vec 6 (l.map mvD)))), (6, .one (.ptr 0 0)), (7, .one (.ptr 1 0)), (19, .one (.d (.vec 6 (l.map mvD)))), (20, .one (.d (.int .i64 ((l.map mvD).length : Int)))), (21, .one (.d (.int .i64 (i : Int))))]) (l.length) ⟨0, Nat.zero_le _, rfl, _, _, _, _, rfl, rfl, rfl, rfl, rfl, rfl, rfl, rfl, trivial⟩ ?_
 rintro k0 _ ⟨i, f0_0, rfl, t0, bb0, rr0, mm0, rfl, hh0⟩
 refine W.keepR _ _ _ _ _ _ _ hh0 rfl ?_
 apply Y1
 refine Yp rfl ?_
 apply Yn
 apply Ys
 refine W.cond rfl (fun c1=>?_) fun c1=>?_
 ·skip
  have hi := row_lt (by assumption)
  have hmb := hb _ (mem_getD (d := Mv.z) hi)
  apply Yk
  apply Yn
  apply Ys
  apply Yb
  apply Y1
  refine YE rfl (row_ok hi) (row_at Mv.z hi) rfl ?_
  refine Yp rfl ?_
  refine S.alloc tOk rfl rfl rfl rfl ?_
  refine S.store tOk rfl rfl rfl rfl rfl rfl rfl rfl ?_
  apply Yn
  apply Ys
  refine W.regionD mixed (by kernel_rfl) ?_
  refine Ym rfl rfl ?_
  refine D.call rfl rfl rfl rfl rfl (pc_CheckMove (l.getD i Mv.z) hmb) ?_
  refine Ym rfl rfl ?_
  refine D.call rfl rfl rfl rfl rfl (pc_MoveError (l.getD i Mv.z) hmb) ?_
  refine Ym rfl rfl ?_
  apply Yn
  refine W.cond rfl (fun c2=>?_) fun c2=>?_
  ·skip
   exact absurd (by assumption : (moveE (l.getD i Mv.z) != moveE (l.getD i Mv.z)) = true) (by simp)
  apply Yk
  apply Yw
  apply Y4
  iterate 2 refine Yp rfl ?_
  refine loop_n (l.length - (i + 1)) (by omega) ⟨i + 1, hi, rfl, _, _, _, _, rfl, rfl, rfl, rfl, rfl, rfl, rfl, inc_i64 (by omega), trivial⟩
 iterate 8 first|refine Yp rfl ?_|apply Ye|apply Yx|apply Yq|apply Y3
 refine S.call rfl rfl rfl rfl rfl (pc_Way l v w hb hv hw) ?_
 iterate 9 first|refine Yp rfl ?_|apply Y3
 refine S.call rfl rfl rfl rfl rfl (pc_WayOf l v w hb hv hw) ?_
 iterate 10 first|refine Yp rfl ?_|apply Y3
 refine S.call rfl rfl rfl rfl rfl (pc_Carry ss l v w hn hs hb hv hw) ?_
 iterate 10 first|refine Yp rfl ?_|apply Y3
 refine S.call rfl rfl rfl rfl rfl (pc_CarryOf ss l v w hn hs hb hv hw) ?_
 iterate 5 refine Yp rfl ?_
 apply Y3
 refine S.call rfl rfl rfl rfl rfl (pc_outlaw2_migrates) ?_
 iterate 8 first|refine S.pickAnd tOk zOk rfl rfl tg ?_|refine Yg rfl rfl tg ?_|refine Yp rfl ?_
 refine S.callG rfl rfl rfl rfl tg rfl rfl (fun _ => pc_EqualN (wayP l v w).1 (by omega)) ?_
 iterate 9 first|refine S.pickAnd tOk zOk rfl rfl tg ?_|refine Yg rfl rfl tg ?_|refine Yp rfl ?_
 refine S.callG rfl rfl rfl rfl tg rfl rfl (fun _ => pc_EqualS (carryP ss l v w).1 (by omega)) ?_
 refine S.pickAnd tOk zOk rfl rfl tg ?_
 refine Yp rfl ?_
 apply Yn
 apply Yt
 exact Yz rfl rfl rfl (by simp)
end
section
open Go Go.RowKit Go.ChangeShapes
def RDs (w : World) (cs : List Value) (ds : List D) : Prop :=
 cs.length = ds.length ∧ ∀ (i : Nat) (c : Value) (d : D), cs[i]? = some c → ds[i]? = some d → RD (fun b => b < w.heap.size) w d c
theorem RDs.one {w : World} {c : Value} {d : D} (h : RD (fun b => b < w.heap.size) w d c) : RDs w [c] [d] :=
 ⟨rfl, fun i a b h1 h2 => by
  match i with
  | 0 => simp at h1 h2; subst h1; subst h2; exact h
  | i + 1 => simp at h1⟩
theorem RDs.append {w : World} {a b : List Value} {x y : List D} (h1 : RDs w a x) (h2 : RDs w b y) : RDs w (a ++ b) (x ++ y) := by
  refine ⟨by simp [h1.1, h2.1], fun i c d hc hd => ?_⟩
  by_cases hi : i < a.length
  · rw [List.getElem?_append_left hi] at hc
    rw [List.getElem?_append_left (by rw [← h1.1]; exact hi)] at hd
    exact h1.2 i c d hc hd
  · rw [List.getElem?_append_right (by omega)] at hc
    rw [List.getElem?_append_right (by rw [← h1.1]; omega)] at hd
    rw [← h1.1] at hd
    exact h2.2 _ c d hc hd
structure Dec (P : Program) (t : TypeId) (α : Type) where
 ds : α → List D
 wf : Nat → α → Prop
 up : ∀ (m n : Nat) (x : α), m ≤ n → wf m x → wf n x
 lim : Nat → Bool
 wt : α → Nat
 ok : ∀ {H : Type} {enc : TypeId × Value → H} {w : World} {fuel : Nat} {cs : List Value} {d : DataW H} {ps : List MemPlace}, lim fuel = true → DataW.trod enc P w 0 (fun _ => true) true fuel t cs = some (d, ps) →
  ∃ x : α, RDs w cs (ds x) ∧ wf (Rows.uptoBulk d) x ∧ wt x ≤ Rows.uptoBulk d
theorem trod_int {H : Type} {enc : TypeId × Value → H} {P : Program} {w : World} {fuel : Nat} {t : TypeId} {cs : List Value} {x : DataW H × List MemPlace} {k : IntKind} (ht : P.underlying t = some (.int k)) (h : DataW.trod enc P w 0 (fun _ => true) true fuel t cs = some x) :
    ∃ n, cs = [.int k n] ∧ (Lit.int k n).wf = true := by
  cases fuel with
  | zero => simp [DataW.trod] at h
  | succ fuel =>
    unfold DataW.trod at h
    rw [ht] at h
    split at h <;> first
      | (rename_i k1 k2 n he1 he2
         simp only [Option.some.injEq, TypeDesc.int.injEq] at he1
         subst he1
         split at h
         · rename_i hk; exact ⟨n, by rw [hk.1], hk.2⟩
         · cases h)
      | (simp_all; done)
theorem trod_bool' {H : Type} {enc : TypeId × Value → H} {P : Program} {w : World} {fuel : Nat} {t : TypeId} {cs : List Value} {x : DataW H × List MemPlace} (ht : P.underlying t = some .bool) (h : DataW.trod enc P w 0 (fun _ => true) true fuel t cs = some x) :
  ∃ b, cs = [.bool b] := by
 cases fuel with
 | zero => simp [DataW.trod] at h
 | succ fuel =>
  unfold DataW.trod at h
  rw [ht] at h
  split at h <;> first
   | exact ⟨_, rfl⟩
   | (simp_all; done)
theorem trod_str {H : Type} {enc : TypeId × Value → H} {P : Program} {w : World} {fuel : Nat} {t : TypeId} {cs : List Value} {x : DataW H × List MemPlace} (ht : P.underlying t = some .string) (h : DataW.trod enc P w 0 (fun _ => true) true fuel t cs = some x) :
    ∃ s : ByteArray, cs = [.string s] ∧ x.1 = .lit (.string s.data.toList) := by
  cases fuel with
  | zero => simp [DataW.trod] at h
  | succ fuel =>
    unfold DataW.trod at h
    rw [ht] at h
    split at h <;> first
      | (split at h
         · cases h; exact ⟨_, rfl, rfl⟩
         · cases h)
      | (simp_all; done)
def Dec.int {P : Program} {t : TypeId} (k : IntKind) (ht : P.underlying t = some (.int k)) : Dec P t Int where
 ds n := [.int k n]
 wf _ n := (Lit.int k n).wf = true
 up _ _ _ _ h := h
 lim _ := true
 wt _ := 0
 ok _ h := by
  obtain ⟨n, rfl, hw⟩ := trod_int ht h
  exact ⟨n, .one (.int _ _), hw, Nat.zero_le _⟩
def Dec.bool {P : Program} {t : TypeId} (ht : P.underlying t = some .bool) : Dec P t Bool where
 ds n := [.bool n]
 wf _ n := True
 up _ _ _ _ h := h
 lim _ := true
 wt _ := 0
 ok _ h := by
  obtain ⟨n, rfl⟩ := trod_bool' ht h
  exact ⟨n, .one (.bool _), trivial, Nat.zero_le _⟩
def Dec.str {P : Program} {t : TypeId} (ht : P.underlying t = some .string) : Dec P t (List UInt8) where
 ds s := [.str s]
 wf N s := s.length < N
 up _ _ _ h1 h := Nat.lt_of_lt_of_le h h1
 lim _ := true
 wt _ := 0
 ok _ h := by
  obtain ⟨s, rfl, hx⟩ := trod_str ht h
  refine ⟨s.data.toList, .one (.str s.data.toList), ?_, Nat.zero_le _⟩
  simp only at hx
  rw [hx]
  simp [Rows.uptoBulk]
theorem mapM_len {α β : Type} {f : α → Option β} : ∀ {l : List α} {r : List β}, l.mapM f = some r → r.length = l.length
  | [], r, h => by simp at h; subst h; rfl
  | a :: l, r, h => by
    simp only [List.mapM_cons, Option.bind_eq_bind, Option.bind_eq_some_iff, Option.pure_def, Option.some.injEq] at h
    obtain ⟨b, hb, r', hr', rfl⟩ := h
    simp [mapM_len hr']
structure DecF (P : Program) (fs : List Field) (off tot : Nat) (α : Type) where
 ds : α → List D
 wf : Nat → α → Prop
 up : ∀ (m n : Nat) (x : α), m ≤ n → wf m x → wf n x
 lim : Nat → Bool
 wt : α → Nat
 ok : ∀ {H : Type} {enc : TypeId × Value → H} {w : World} {fuel : Nat} {cs : List Value} {xs : List (DataW H × List MemPlace)}, lim fuel = true → cs.length = tot →
  fs.mapM (fun f => DataW.trod enc P w 0 (fun _ => true) true fuel f.type ((cs.drop f.offset).take (P.cellsOf f.type))) = some xs →
  ∃ x : α, RDs w (cs.drop off) (ds x) ∧ wf (Rows.uptoBulkAll (xs.map (·.1))) x ∧ wt x ≤ Rows.uptoBulkAll (xs.map (·.1))
def DecF.nil {P : Program} (tot : Nat) : DecF P [] tot tot Unit where
 ds _ := []
 wf _ _ := True
 up _ _ _ _ h := h
 lim _ := true
 wt _ := 0
 ok _ hl h := ⟨(), ⟨by simp [hl], fun i c d h1 h2 => by simp at h2⟩, trivial, Nat.zero_le _⟩
def DecF.cons {P : Program} {f : Field} {fs : List Field} {off tot n : Nat} {α β : Type} (de : Dec P f.type α) (ho : f.offset = off) (hn : P.cellsOf f.type = n) (r : DecF P fs (off + n) tot β) : DecF P (f :: fs) off tot (α × β) where
 ds x := de.ds x.1 ++ r.ds x.2
 wf N x := de.wf N x.1 ∧ r.wf N x.2
 up m n x h hx := ⟨de.up m n x.1 h hx.1, r.up m n x.2 h hx.2⟩
 lim f := de.lim f && r.lim f
 wt x := de.wt x.1 + r.wt x.2
 ok {H enc w fuel cs xs} hq hl h := by
  have hq := Bool.and_eq_true_iff.1 hq
  simp only [List.mapM_cons, Option.bind_eq_bind, Option.bind_eq_some_iff, Option.pure_def, Option.some.injEq] at h
  obtain ⟨b, hb, r', hr', rfl⟩ := h
  obtain ⟨x, h1, h2, h5⟩ := de.ok (d := b.1) (ps := b.2) hq.1 hb
  obtain ⟨y, h3, h4, h6⟩ := r.ok hq.2 hl hr'
  refine ⟨(x, y), ?_, ⟨de.up _ _ _ ?_ h2, r.up _ _ _ ?_ h4⟩, ?_⟩
  ·skip
   have e : cs.drop off = (cs.drop f.offset).take (P.cellsOf f.type) ++ cs.drop (off + n) := by
    rw [ho, hn, ← List.drop_drop, List.take_append_drop]
   rw [e]; exact h1.append h3
  ·skip
   simp only [List.map_cons, Rows.uptoBulkAll]; omega
  ·skip
   simp only [List.map_cons, Rows.uptoBulkAll]; omega
  ·skip
   simp only [List.map_cons, Rows.uptoBulkAll]; omega
def Dec.struct {P : Program} {t : TypeId} {fs : Array Field} {tot : Nat} {α : Type} (ht : P.underlying t = some (.struct fs)) (hc : P.cellsOf t = tot) (r : DecF P fs.toList 0 tot α) : Dec P t α where
  ds := r.ds
  wf := r.wf
  up := r.up
  lim f := r.lim (f - 1)
  wt x := r.wt x + 1
  ok {H enc w fuel cs d ps} hq h := by
    cases fuel with
    | zero => simp [DataW.trod] at h
    | succ fuel =>
      unfold DataW.trod at h
      rw [ht] at h
      split at h <;> first
        | (rename_i he1
           simp only [Option.some.injEq, TypeDesc.struct.injEq] at he1
           subst he1
           split at h
           · rename_i hl
             simp only [Option.map_eq_some_iff] at h
             obtain ⟨xs, hx, he⟩ := h
             obtain ⟨x, h1, h2, h3⟩ := r.ok hq (hl.trans hc) hx
             cases he
             exact ⟨x, h1, r.up _ _ _ (by simp only [Rows.uptoBulk]; omega) h2, by simp only [Rows.uptoBulk]; omega⟩
           · cases h)
        | (simp_all; done)
def Dec.iso {P : Program} {t : TypeId} {α β : Type} (d : Dec P t α) (f : α → β) (ds : β → List D) (wf : Nat → β → Prop) (up : ∀ (m n : Nat) (x : β), m ≤ n → wf m x → wf n x) (hd : ∀ a, d.ds a = ds (f a)) (hw : ∀ N a, d.wf N a → d.wt a ≤ N → wf N (f a)) (wt : β → Nat := fun _ => 0) (hwt : ∀ a, wt (f a) ≤ d.wt a := by intro _; exact Nat.zero_le _) : Dec P t β where
  ds := ds
  wf := wf
  up := up
  lim := d.lim
  wt := wt
  ok hq h := by
    obtain ⟨x, h1, h2, h3⟩ := d.ok hq h
    exact ⟨f x, hd x ▸ h1, hw _ _ h2 h3, Nat.le_trans (hwt x) h3⟩
theorem choose_list {α : Type} {Q : Nat → α → Prop} : ∀ (n : Nat), (∀ i, i < n → ∃ x, Q i x) → ∃ xs : List α, xs.length = n ∧ ∀ i x, xs[i]? = some x → Q i x
  | 0, _ => ⟨[], rfl, fun i x h => by simp at h⟩
  | n + 1, h => by
    obtain ⟨xs, h1, h2⟩ := choose_list n (fun i hi => h i (by omega))
    obtain ⟨x, hx⟩ := h n (by omega)
    refine ⟨xs ++ [x], by simp [h1], fun i y hy => ?_⟩
    by_cases hi : i < xs.length
    · rw [List.getElem?_append_left hi] at hy; exact h2 i y hy
    · rw [List.getElem?_append_right (by omega)] at hy
      have e : i = n := by
        apply Decidable.byContradiction; intro hne
        rw [List.getElem?_eq_none (by simp; omega)] at hy; cases hy
      subst e
      rw [h1] at hy
      simp at hy; subst hy; exact hx
theorem cells_at {w : World} {a : Addr} {n : Nat} {cs : List Value} (h : w.cells? 0 a n = some cs) : cs.length = n ∧ ∀ j, j < n → w.cell? (a.add j) = cs[j]? := by
 unfold World.cells? at h
 rw [if_pos (Nat.zero_le _)] at h
 have hl := mapM_len h
 simp at hl
 refine ⟨hl, fun j hj => ?_⟩
 obtain ⟨b, h1, h2⟩ := Lib.mapM_at h j j (by simp [hj])
 rw [h1, h2]
theorem spot_none {w : World} {a : Addr} {v : Value} (h : w.cell? a = some v) : a.spot = none := by
 unfold World.cell? at h
 split at h
 ·skip
  split at h
  ·skip
   cases h
  ·skip
   rename_i hs; simpa using hs
 ·skip
  cases h
theorem bulk_mem {H : Type} {x : DataW H} : ∀ {l : List (DataW H)}, x ∈ l → Rows.uptoBulk x ≤ Rows.uptoBulkAll l
  | [], h => by cases h
  | a :: l, h => by
    simp only [Rows.uptoBulkAll]
    rcases List.mem_cons.1 h with rfl | h
    · omega
    · have := bulk_mem h; omega
theorem bulk_pos {H : Type} (d : DataW H) : 1 ≤ Rows.uptoBulk d := by
 cases d with
 | lit l => cases l <;> simp [Rows.uptoBulk]
 | _ => simp [Rows.uptoBulk]
theorem bulk_len {H : Type} : ∀ (l : List (DataW H)), l.length ≤ Rows.uptoBulkAll l
  | [] => by simp
  | a :: l => by
    have h1 := bulk_pos a
    have h2 := bulk_len l
    simp only [Rows.uptoBulkAll, List.length_cons]; omega
theorem bulk_sum {H : Type} {α : Type} {f : α → Nat} : ∀ {xs : List α} {l : List (DataW H)}, xs.length = l.length → (∀ (i : Nat) (x : α) (d : DataW H), xs[i]? = some x → l[i]? = some d → f x ≤ Rows.uptoBulk d) → (xs.map f).sum ≤ Rows.uptoBulkAll l
  | [], l, _, _ => Nat.zero_le _
  | x :: xs, [], h, _ => by simp at h
  | x :: xs, d :: l, h, hx => by
    have h1 := hx 0 x d rfl rfl
    have h2 := bulk_sum (f := f) (xs := xs) (l := l) (by simpa using h) (fun i y e h3 h4 => hx (i + 1) y e h3 h4)
    simp only [List.map_cons, List.sum_cons, Rows.uptoBulkAll]; omega
def Dec.slice {P : Program} {t e : TypeId} {sz : Nat} {α : Type} (ht : P.underlying t = some (.slice e)) (hc : P.cellsOf e = sz) (h0 : 0 < sz) (de : Dec P e α) : Dec P t (List α) where
  ds xs := [.vec sz (xs.map de.ds)]
  wf N xs := xs.length < N ∧ ∀ x ∈ xs, de.wf N x
  up m n xs h hx := ⟨by omega, fun x hm => de.up m n x h (hx.2 x hm)⟩
  lim f := de.lim (f - 1)
  wt xs := (xs.map de.wt).sum
  ok {H enc w fuel cs d ps} hq h := by
    rcases DataW.trod_slice ht h with h1 | ⟨a, len, cap, elems, rest, n, hfu, rfl, hx, hb, hl, hm, hlen, hel, hsp, hns⟩
    · obtain ⟨rfl, h2⟩ := h1
      cases h2
      exact ⟨[], .one (.empty _ _ _), ⟨by simp [Rows.uptoBulk], by simp⟩, Nat.zero_le _⟩
    · have key : ∀ i, i < len → ∃ x, ∃ cs' : List Value, ∃ y, elems[i]? = some y ∧ w.cells? 0 (a.add (i * sz)) sz = some cs' ∧ RDs w cs' (de.ds x) ∧ de.wf (Rows.uptoBulk y.1) x ∧ de.wt x ≤ Rows.uptoBulk y.1 := fun i hi => by
        have h1 := hel i hi
        have h2 : elems[i]? = some (elems[i]'(by omega)) := List.getElem?_eq_getElem _
        rw [h2, hc, Option.bind_eq_some_iff] at h1
        obtain ⟨cs', h3, h4⟩ := h1
        obtain ⟨x, h5, h6, h7⟩ := de.ok (d := (elems[i]'(by omega)).1) (ps := (elems[i]'(by omega)).2) (by have := hq; rw [hfu] at this; exact this) h4
        exact ⟨x, cs', _, h2, h3, h5, h6, h7⟩
      obtain ⟨xs, hxl, hxs⟩ := choose_list len key
      cases hx
      refine ⟨xs, .one ?_, ⟨?_, fun x hx => ?_⟩, ?_⟩
      · by_cases hne : xs = []
        · subst hne
          simp at hxl
          rw [← hxl]
          exact .empty _ _ _
        · have hpos : 0 < len := by
            cases xs with
            | nil => exact absurd rfl hne
            | cons x l => rw [← hxl]; simp
          have hs : a.spot = none := by
            obtain ⟨x, cs', y, _, h3, _⟩ := key 0 hpos
            obtain ⟨h4, h5⟩ := cells_at h3
            have h6 := h5 0 h0
            have h7 : cs'[0]? = some (cs'[0]'(by omega)) := List.getElem?_eq_getElem _
            rw [h7] at h6
            simp only [Addr.add, Nat.zero_mul, if_true] at h6
            exact spot_none h6
          have hadd : ∀ i j, (a.add (i * sz)).add j = ⟨a.block, a.off + i * sz + j, none⟩ := fun i j => by
            cases a with
            | mk b o s =>
              simp only at hs; subst hs
              unfold Addr.add
              by_cases h1 : i * sz = 0 <;> by_cases h2 : j = 0 <;> simp [h1, h2]
          have hat : ∀ (i j : Nat) (x : List D) (d : D), (xs.map de.ds)[i]? = some x → x[j]? = some d → ∃ v, w.cell? ⟨a.block, a.off + i * sz + j, none⟩ = some v ∧ RD (fun b => b < w.heap.size) w d v := fun i j x d h1 h2 => by
            simp only [List.getElem?_map, Option.map_eq_some_iff] at h1
            obtain ⟨x', h1, rfl⟩ := h1
            obtain ⟨cs', y, _, h3, h4, _⟩ := hxs i x' h1
            obtain ⟨h5, h6⟩ := cells_at h3
            have hj : j < sz := by
              have := (List.getElem?_eq_some_iff.1 h2).1
              rw [← h4.1, h5] at this; exact this
            have h7 : cs'[j]? = some (cs'[j]'(by omega)) := List.getElem?_eq_getElem _
            have h8 := h6 j hj
            rw [hadd, h7] at h8
            exact ⟨_, h8, h4.2 j _ d h7 h2⟩
          have hal : a = ⟨a.block, a.off, none⟩ := by cases a; simp only at hs; subst hs; rfl
          have hlen' : len = (xs.map de.ds).length := by simp [hxl]
          rw [hal, hlen']
          refine RD.vec sz (xs.map de.ds) a.block a.off cap (fun i j => (w.cell? ⟨a.block, a.off + i * sz + j, none⟩).getD undef) (by simpa using hne) (by rw [← hlen']; exact hl) ?_ ?_ ?_ ?_
          · obtain ⟨x, cs', y, _, h3, _⟩ := key 0 hpos
            obtain ⟨h4, h5⟩ := cells_at h3
            have h6 := h5 0 h0
            have h7 : cs'[0]? = some (cs'[0]'(by omega)) := List.getElem?_eq_getElem _
            rw [h7, hadd] at h6
            apply Decidable.byContradiction; intro hn
            unfold World.cell? at h6
            rw [Array.getElem?_eq_none (by simp only at hn ⊢; omega)] at h6
            cases h6
          · intro x hx
            simp only [List.mem_map] at hx
            obtain ⟨x', hx', rfl⟩ := hx
            obtain ⟨i, hi⟩ := List.getElem?_of_mem hx'
            obtain ⟨cs', y, _, h3, h4, _⟩ := hxs i x' hi
            rw [← h4.1]; exact (cells_at h3).1
          · intro i j x d h1 h2
            obtain ⟨v, h3, _⟩ := hat i j x d h1 h2
            rw [h3]; rfl
          · intro i j x d h1 h2
            obtain ⟨v, h3, h4⟩ := hat i j x d h1 h2
            simp only [h3, Option.getD_some]; exact h4
      · have h1 := bulk_len (elems.map (·.1))
        simp only [Rows.uptoBulk, List.length_map] at h1 ⊢; omega
      · obtain ⟨i, hi⟩ := List.getElem?_of_mem hx
        obtain ⟨cs', y, h2, _, _, h4, _⟩ := hxs i x hi
        refine de.up _ _ _ ?_ h4
        have := bulk_mem (x := y.1) (l := elems.map (·.1)) (List.mem_map.2 ⟨y, List.mem_of_getElem? h2, rfl⟩)
        simp only [Rows.uptoBulk]; omega
      · have := bulk_sum (f := de.wt) (xs := xs) (l := elems.map (·.1)) (by simp; omega) (fun i x d h1 h2 => by
          obtain ⟨cs', y, h3, _, _, _, h4⟩ := hxs i x h1
          rw [List.getElem?_map, h3] at h2
          cases h2; exact h4)
        simp only [Rows.uptoBulk]; omega
end
section
open Go Go.RowKit Go.ChangeShapes Go.WideShapes Go.ChangeAt
theorem Below.trodAll {H : Type} {enc : TypeId × Value → H} {P : Program} (hl : laidOutB P = true) {W W' : World} (hb : Below W.heap.size W W') : ∀ {ts : List TypeId} {vs : List Value} {ds : List (DataW H)} {ps : List MemPlace},
    ts.all (fun t => P.readableRec t && decide (t < P.types.size)) = true → DataW.TrodAll enc P W 0 (fun _ => true) true ts vs ds ps → (∀ x ∈ ps, x.block < W.heap.size) → DataW.TrodAll enc P W' 0 (fun b => decide (b < W.heap.size)) true ts vs ds ps
  | [], [], [], _, _, h, _ => h
  | [], [], _ :: _, _, _, h, _ => h.elim
  | [], _ :: _, _, _, _, h, _ => h.elim
  | _ :: _, [], _, _, _, h, _ => h.elim
  | _ :: _, _ :: _, [], _, _, h, _ => h.elim
  | t :: ts, v :: vs, d :: ds, ps, ha, h, hp => by
    simp only [List.all_cons, Bool.and_eq_true, decide_eq_true_eq] at ha
    obtain ⟨p, q, h1, h2, rfl⟩ := h
    exact ⟨p, q, Below.trod hl ha.1.1 ha.1.2 h1 hb (fun x hx => hp x (List.mem_append.2 (.inl hx))), Below.trodAll hl hb (by simpa using ha.2) h2 (fun x hx => hp x (List.mem_append.2 (.inr hx))), rfl⟩
theorem law_post {P : Program} {J : Inv} {f : FuncId} {fn : Func} {s : ChangeSpec} {tb : TypeId} (hl : laidOutB P = true) (hts : fn.params.toList.all (fun t => P.readableRec t && decide (t < P.types.size)) = true)
  (hv : s.vars = []) (hres : fn.resultTypes = #[tb]) (htb : P.underlying tb = some .bool) {H : Type} {enc : TypeId × Value → H} {W : World} {args : Array Value} {ds gs : List (DataW H)} {before : List MemPlace}
  (hW : DataW.Whole enc P fn.params.toList s.vars false W args.toList ds gs before) (hs : (s.fn H (ds ++ gs)).results = [.lit (.bool true)] ∧ (s.fn H (ds ++ gs)).args = ds ∧ (s.fn H (ds ++ gs)).vars = [])
  {us : List V} (pc : PureCall P J f us (.one (.d (.bool true)))) (hJ : J.I W) (hn : args.size = us.length) (hx : ∀ (i : Nat) (u : V) (v : Value), us[i]? = some u → args[i]? = some v → RV (noGh fun b => b < W.heap.size) noSh W u v) :
  Calls P f args W fun e W' => ∃ v, e = .returned v ∧ s.post enc P fn false true false false W args v W' := by
 have h := pc.calls (fun b => b < W.heap.size) W args.toList hJ (fun b hb => hb) (by simpa using hn) (fun i u v h1 h2 => hx i u v h1 (by simpa using h2))
 have h' : Calls P f args W _ := h
 refine h'.mono fun e W' ⟨v, im', he, hB, _, _, _, hr⟩ => ⟨v, he, ?_⟩
 obtain rfl : v = .bool true := by
  cases hr with | one _ _ h => cases h with | d _ _ h => cases h with | bool => rfl
 have hlt : ∀ x ∈ before, x.block < W.heap.size := fun x hx => by simpa using hW.lt x hx
 have hW' := hW
 obtain ⟨p, q, hA, hV, rfl, _, _⟩ := hW
 rw [hv] at hV
 have hgs : gs = [] ∧ q = [] := by
  cases gs with
  | nil => exact ⟨rfl, hV⟩
  | cons g gs => exact hV.elim
 obtain ⟨rfl, rfl⟩ := hgs
 refine ⟨ds, [], p ++ [], [], p, [], hW', ?_, ?_, ?_, hB.frame _, fun h => by cases h⟩
 ·skip
  rw [hs.1, hres]
  exact trodAll_cons_mk (shut_bool htb true) trodAll_mk0
 ·skip
  rw [hs.2.1]
  exact Below.trodAll hl hB hts hA (fun x hx => hlt x (by simp [hx]))
 ·skip
  rw [hs.2.2, hv]; rfl
theorem arg_agg {P : Program} {t : TypeId} {α : Type} (de : Dec P t α) {W : World} {r : Reach} {base : Nat} {v : Value} (ht : (match P.underlying t with | some (.struct _) | some (.array _ _) => true | _ => false) = true) (hv : Value.okWide P W r base t v)
    {H : Type} {enc : TypeId × Value → H} {d : DataW H} {ps : List MemPlace} (h : DataW.Trod enc P W 0 (fun _ => true) true t v d ps) (hlim : ∀ f, de.lim f = true := by intro _; rfl) : ∃ x : α, RV (noGh fun b => b < W.heap.size) noSh W (.agg ((de.ds x).map .d)) v ∧ de.wf (Rows.uptoBulk d) x := by
  obtain ⟨fuel, h⟩ := h
  obtain ⟨x, h1, h2, _⟩ := de.ok (hlim _) h
  refine ⟨x, ?_, h2⟩
  have hc : ∃ cs, v = .agg cs := by
    unfold Value.okWide at hv
    split at hv
    · exact ⟨_, hv.choose_spec.1⟩
    · exact ⟨_, hv.choose_spec.1⟩
    · rename_i h3 h4
      split at ht
      · rename_i fs h5; exact absurd h5 (h3 _)
      · rename_i n e h5; exact absurd h5 (h4 _ _)
      · cases ht
  obtain ⟨cs, rfl⟩ := hc
  have h3 : RDs W cs.toList (de.ds x) := h1
  have := RV.agg (g := noGh fun b => b < W.heap.size) (h := noSh) (w := W) ((de.ds x).map .d) cs.toList (by simp [h3.1]) (fun i c v hc hv => by
    simp only [List.getElem?_map, Option.map_eq_some_iff] at hc
    obtain ⟨d, hd, rfl⟩ := hc
    exact .d _ _ (h3.2 i v d hv hd))
  simpa using this
theorem arg_one {P : Program} {t : TypeId} {α : Type} (de : Dec P t α) {W : World} {r : Reach} {base : Nat} {v : Value} (ht : (match P.underlying t with | some .bool | some (.int _) | some .string | some (.slice _) | some (.pointer _) | some (.map _ _) => true | _ => false) = true) (hv : Value.okWide P W r base t v)
    {H : Type} {enc : TypeId × Value → H} {d : DataW H} {ps : List MemPlace} (h : DataW.Trod enc P W 0 (fun _ => true) true t v d ps) (hlim : ∀ f, de.lim f = true := by intro _; rfl) : ∃ x : α, (∀ e, de.ds x = [e] → RV (noGh fun b => b < W.heap.size) noSh W (.one (.d e)) v) ∧ de.wf (Rows.uptoBulk d) x := by
  obtain ⟨fuel, h⟩ := h
  obtain ⟨x, h1, h2, _⟩ := de.ok (hlim _) h
  refine ⟨x, fun e he => ?_, h2⟩
  have hc : v.cells.toList = [v] := by
    cases v with
    | agg cs =>
      exfalso
      unfold Value.okWide Cell.okWide Cell.ok at hv
      split at ht <;> simp_all
    | _ => rfl
  rw [hc, he] at h1
  exact .one _ _ (.d _ _ (h1.2 0 v e rfl rfl))
end
section
open Go Go.RowKit Go.ChangeShapes Go.WideShapes Go.ChangeAt
theorem trod_iface {H : Type} {enc : TypeId × Value → H} {P : Program} {w : World} {fuel : Nat} {t : TypeId} {cs : List Value} {nm : String} {x : DataW H} {p : List MemPlace} {ms : Array (String × TypeId)} (ht : P.underlying t = some (.interface ms))
  (h : DataW.trod enc P w 0 (fun _ => true) false fuel t cs = some (.iface nm x, p)) : ∃ u v, cs = [.iface u v] := by
 cases fuel with
 | zero => simp [DataW.trod] at h
 | succ fuel =>
  unfold DataW.trod at h
  rw [ht] at h
  split at h <;> first
   | exact ⟨_, _, rfl⟩
   | (simp_all; done)
theorem err_of {P : Program} {W : World} {n : String} {nm : String} {d : DataW Unit} {g : Nat} {t : TypeId} {ms : Array (String × TypeId)} (hg : P.globalNamed n = some g) (hty : (P.globals[g]?).map (·.type) = some t) (ht : P.underlying t = some (.interface ms))
  (h : Lib.VarReads P W n (.iface nm d)) : ∃ t p, W.var? P n = some #[.iface t p] := by
 obtain ⟨g', t', cs, fuel, p, hg', ht', hvar, hd⟩ := h
 obtain rfl := Option.some.inj (hg.symm.trans hg')
 obtain rfl := Option.some.inj (hty.symm.trans ht')
 obtain ⟨u, v, hc⟩ := trod_iface ht hd
 exact ⟨u, v, by rw [hvar]; congr 1; exact Array.ext' (by simpa using hc)⟩
theorem pow_of {W : World} (h : Lib.VarReads Tryz.prog W "internal/strconv.uint64pow10" Rows.laid_internal_strconv_uint64pow10) : Lib.TabIs Tryz.prog W "internal/strconv.uint64pow10" .u64 Lib.pow10Tab := by
 obtain ⟨g', t', cs, fuel, p, hg', ht', hvar, hd⟩ := h
 obtain rfl := Option.some.inj ((show Tryz.prog.globalNamed "internal/strconv.uint64pow10" = some 5 by kernel_rfl).symm.trans hg')
 obtain rfl := Option.some.inj ((show (Tryz.prog.globals[5]?).map (·.type) = some 367 by kernel_rfl).symm.trans ht')
 unfold Lib.TabIs
 rw [hvar, ← Lib.cells_of_tab (k := .u64) (zs := Lib.pow10Tab) Tryz.underlying367 Tryz.underlying280 (by kernel_rfl) (by kernel_rfl) hd]
theorem db_of {W : World} (h : Lib.VarReads Tryz.prog W "math/bits.deBruijn64tab" Rows.laid_math_bits_deBruijn64tab) : Lib.TabIs Tryz.prog W "math/bits.deBruijn64tab" .u8 (List.map (fun n : Nat => (n : Int)) Lib.deBruijn64tab) := by
 obtain ⟨g', t', cs, fuel, p, hg', ht', hvar, hd⟩ := h
 obtain rfl := Option.some.inj ((show Tryz.prog.globalNamed "math/bits.deBruijn64tab" = some 7 by kernel_rfl).symm.trans hg')
 obtain rfl := Option.some.inj ((show (Tryz.prog.globals[7]?).map (·.type) = some 373 by kernel_rfl).symm.trans ht')
 unfold Lib.TabIs
 rw [hvar, ← Lib.cells_of_tab (k := .u8) (zs := List.map (fun n : Nat => (n : Int)) Lib.deBruijn64tab) Tryz.underlying373 Tryz.underlying5 (by kernel_rfl) (by kernel_rfl) hd]
theorem base_of {W : World} {l : List (String × DataW Unit)} (hl : laidMet Tryz.prog l W) (h1 : ("internal/strconv.uint64pow10", Rows.laid_internal_strconv_uint64pow10) ∈ l) (h2 : ("strconv.ErrSyntax", Rows.laid_strconv_ErrSyntax) ∈ l)
  (h3 : ("strconv.ErrRange", Rows.laid_strconv_ErrRange) ∈ l) (h4 : ("math/bits.deBruijn64tab", Rows.laid_math_bits_deBruijn64tab) ∈ l) (hS : W.ShapedOpen Tryz.prog) : J.I W where
 max := cell_of_shapedOpen_int (t := 3) (zero := #[.int .i64 0]) hS (of_decide_eq_true (by kernel_rfl)) (by kernel_rfl) rfl (by kernel_rfl) (by kernel_rfl) Tryz.underlying3
 pow := pow_of (Lib.laidMet.reads hl h1)
 esyn := err_of (g := 1) (by kernel_rfl) (by kernel_rfl) Tryz.underlying128 (Lib.laidMet.reads hl h2)
 eran := err_of (g := 2) (by kernel_rfl) (by kernel_rfl) Tryz.underlying128 (Lib.laidMet.reads hl h3)
 db := db_of (Lib.laidMet.reads hl h4)
mutual
def dcells : DataW Unit → List Value
  | .lit (.int k n) => [.int k n]
  | .agg ds => dcellsL ds
  | _ => []
def dcellsL : List (DataW Unit) → List Value
  | [] => []
  | d :: ds => dcells d ++ dcellsL ds
end
def putCs (cs : List Value) : Obj → Obj
 | .cells _ t fr => .cells cs.toArray t fr
 | o => o
def errText : DataW Unit → ByteArray
 | .iface _ (.ptr (.agg [.lit (.string s)])) => ⟨s.toArray⟩
 | _ => ByteArray.empty
def errCell (b : Nat) : List Value := [.iface 310 (.pointer (some ⟨b, 0, none⟩))]
noncomputable def laidWorld (os : Os) : World :=
 { World.holding Tryz.prog os ⟨#[], #[], []⟩ with heap :=
  let h := (World.holding Tryz.prog os ⟨#[], #[], []⟩).heap
  let h := h.modify 5 (putCs (dcells Rows.laid_internal_strconv_uint64pow10))
  let h := h.modify 3 (putCs (dcells Rows.laid_unicode_utf8_first))
  let h := h.modify 4 (putCs (dcells Rows.laid_unicode_utf8_acceptRanges))
  let h := h.modify 6 (putCs (dcells Rows.laid_math_bits_deBruijn32tab))
  let h := h.modify 7 (putCs (dcells Rows.laid_math_bits_deBruijn64tab))
  let n := h.size
  let h := h.modify 1 (putCs (errCell n))
  let h := h.modify 2 (putCs (errCell (n + 1)))
  (h.push (.cells #[.string (errText Rows.laid_strconv_ErrSyntax)] 312 (0, 0))).push (.cells #[.string (errText Rows.laid_strconv_ErrRange)] 312 (0, 0)) }
end
section
open Go Go.RowKit
noncomputable def decVer : Dec Tryz.prog 64 Ver :=
  Dec.iso (Dec.struct Tryz.underlying64 (tot := 4) (by kernel_rfl)
    (DecF.cons (Dec.int .i64 Tryz.underlying3) rfl (n := 1) (by kernel_rfl) (DecF.cons (Dec.int .i64 Tryz.underlying3) rfl (n := 1) (by kernel_rfl) (DecF.cons (Dec.int .i64 Tryz.underlying3) rfl (n := 1) (by kernel_rfl) (DecF.cons (Dec.str Tryz.underlying9) rfl (n := 1) (by kernel_rfl) (DecF.nil 4))))))
    (fun x => (⟨x.1, x.2.1, x.2.2.1, x.2.2.2.1⟩ : Ver)) verD (fun N v => VerOk v ∧ v.e.length < N) (fun m n v h hv => ⟨hv.1, Nat.lt_of_lt_of_le hv.2 h⟩) (fun _ => rfl)
    (fun N x hx _ => by
      obtain ⟨h1, h2, h3, h4, _⟩ := hx
      have b1 := bounds_i64 h1
      have b2 := bounds_i64 h2
      have b3 := bounds_i64 h3
      exact ⟨⟨b1.1, b1.2, b2.1, b2.2, b3.1, b3.2⟩, h4⟩)
end
section
open Go Go.RowKit
noncomputable def decSp : Dec Tryz.prog 178 Sp :=
  Dec.iso (Dec.struct Tryz.underlying178 (tot := 10) (by kernel_rfl)
    (DecF.cons (Dec.bool Tryz.underlying4) rfl (n := 1) (by kernel_rfl) (DecF.cons (Dec.bool Tryz.underlying4) rfl (n := 1) (by kernel_rfl) (DecF.cons decVer rfl (n := 4) (by kernel_rfl) (DecF.cons decVer rfl (n := 4) (by kernel_rfl) (DecF.nil 10))))))
    (fun x => (⟨x.1, x.2.1, x.2.2.1, x.2.2.2.1⟩ : Sp)) spD (fun N s => SpOk s ∧ s.f.e.length < N ∧ s.t.e.length < N) (fun m n s h hs => ⟨hs.1, Nat.lt_of_lt_of_le hs.2.1 h, Nat.lt_of_lt_of_le hs.2.2 h⟩) (fun _ => rfl)
    (fun N x hx _ => ⟨⟨hx.2.2.1.1, hx.2.2.2.1.1⟩, hx.2.2.1.2, hx.2.2.2.1.2⟩)
noncomputable def decRg : Dec Tryz.prog 67 (List Sp) :=
  Dec.iso (Dec.struct Tryz.underlying67 (tot := 1) (by kernel_rfl) (DecF.cons (Dec.slice Tryz.underlying65 (sz := 10) (by kernel_rfl) (by decide) decSp) rfl (n := 1) (by kernel_rfl) (DecF.nil 1)))
    (fun x => x.1) (fun ss => [.vec 10 (ss.map spD)]) (fun N ss => ss.length < N ∧ ∀ s ∈ ss, SpOk s ∧ s.f.e.length < N ∧ s.t.e.length < N)
    (fun m n ss h hs => ⟨Nat.lt_of_lt_of_le hs.1 h, fun s hm => ⟨(hs.2 s hm).1, Nat.lt_of_lt_of_le (hs.2 s hm).2.1 h, Nat.lt_of_lt_of_le (hs.2 s hm).2.2 h⟩⟩) (fun _ => rfl) (fun N x hx _ => hx.1)
end
section
open Go Go.RowKit
noncomputable def decStg : Dec Tryz.prog 40 Stg :=
  Dec.iso (Dec.struct Tryz.underlying40 (tot := 2) (by kernel_rfl)
    (DecF.cons (Dec.str Tryz.underlying9) rfl (n := 1) (by kernel_rfl) (DecF.cons (Dec.str Tryz.underlying9) rfl (n := 1) (by kernel_rfl) (DecF.nil 2))))
    (fun x => (⟨x.1, x.2.1⟩ : Stg)) stgD (fun N s => s.k.length < N ∧ s.v.length < N) (fun m n v h hv => ⟨Nat.lt_of_lt_of_le hv.1 h, Nat.lt_of_lt_of_le hv.2 h⟩) (fun _ => rfl)
    (fun N x hx _ => ⟨hx.1, hx.2.1⟩)
end
end Go.Proofs.YtpelfildfidnbaaGreatDoor
namespace Go.Proofs.YtpelfildfidnbaaGreatDoor
section
open Go Go.RowKit
structure MvWf (N : Nat) (m : Mv) : Prop where
 f : m.f.length < N ∧ ∀ s ∈ m.f, SpOk s ∧ s.f.e.length < N ∧ s.t.e.length < N
 v : VerOk m.t ∧ m.t.e.length < N
 r : m.rs.length < N ∧ ∀ s ∈ m.rs, s.length < N
theorem MvWf.up {m n : Nat} (h : m ≤ n) {o : Mv} (ho : MvWf m o) : MvWf n o :=
 ⟨⟨Nat.lt_of_lt_of_le ho.f.1 h, fun s hs => ⟨(ho.f.2 s hs).1, Nat.lt_of_lt_of_le (ho.f.2 s hs).2.1 h, Nat.lt_of_lt_of_le (ho.f.2 s hs).2.2 h⟩⟩, ⟨ho.v.1, Nat.lt_of_lt_of_le ho.v.2 h⟩, ⟨Nat.lt_of_lt_of_le ho.r.1 h, fun s hs => Nat.lt_of_lt_of_le (ho.r.2 s hs) h⟩⟩
theorem MvWf.ok {N : Nat} (hN : N ≤ 1048576) {m : Mv} (h : MvWf N m) : MvB m where
 f := by have := h.f.1; omega
 sp s hs := by have := h.f.2 s hs; unfold SpLen; omega
 e := by have := h.v.2; omega
 n := by have := h.r.1; omega
 r s hs := by have := h.r.2 s hs; omega
noncomputable def decMv : Dec Tryz.prog 84 Mv :=
  Dec.iso (Dec.struct Tryz.underlying84 (tot := 6) (by kernel_rfl)
    (DecF.cons decRg rfl (n := 1) (by kernel_rfl) (DecF.cons decVer rfl (n := 4) (by kernel_rfl) (DecF.cons (Dec.slice Tryz.underlying82 (sz := 1) (by kernel_rfl) (by decide) (Dec.str Tryz.underlying9)) rfl (n := 1) (by kernel_rfl) (DecF.nil 6)))))
    (fun x => (⟨x.1, x.2.1, x.2.2.1⟩ : Mv)) mvD MvWf (fun _ _ _ h hx => MvWf.up h hx) (fun _ => rfl) (fun N x hx _ => ⟨hx.1, hx.2.1, hx.2.2.1⟩)
end
end Go.Proofs.YtpelfildfidnbaaGreatDoor
namespace Go.Proofs.YtpelfildfidnbaaGreatDoor.fnMovesMatch
open Go Go.RowKit Go.ChangeShapes Go.WideShapes Go.ChangeAt
theorem contract (H : Type) (enc : TypeId × Value → H) (W : World) (base : Nat) (args : Array Value) (ds gs : List (DataW H)) (before : List MemPlace)
  (hval : ∀ (j : Nat) t v, Tryz.f5.params[j]? = some t → args[j]? = some v → Value.okWide Tryz.prog W .any base t v)
  (hW : DataW.Whole enc Tryz.prog Tryz.f5.params.toList Rows.movesMatchSpec.vars false W args.toList ds gs before) (hc : Rows.uptoSmall H (ds ++ gs) = true)
  (hL : laidMetH Tryz.prog Rows.movesMatchUptoRow.laid W) (hS : W.ShapedOpen Tryz.prog) :
  Calls Tryz.prog 5 args W fun e W' => ∃ v, e = .returned v ∧ Rows.movesMatchSpec.post enc Tryz.prog Tryz.f5 false true false false W args v W' := by
 have hW' := hW
 obtain ⟨p, q, hA0, hV, rfl, hfz, hnd⟩ := hW
 have hA : DataW.TrodAll enc Tryz.prog W 0 (fun _ => true) true Tryz.f5.params.toList args.toList ds p := hA0
 rw [Tryz.params5] at hA hval
 obtain ⟨v0, vs0, d0, ds0, p0, q0, hargs, rfl, rfl, h0, r0⟩ := trodAll_cons hA
 obtain ⟨v1, vs1, d1, ds1, p1, q1, rfl, rfl, rfl, h1, r1⟩ := trodAll_cons r0
 obtain ⟨v2, vs2, d2, ds2, p2, q2, rfl, rfl, rfl, h2, r2⟩ := trodAll_cons r1
 obtain ⟨v3, vs3, d3, ds3, p3, q3, rfl, rfl, rfl, h3, r3⟩ := trodAll_cons r2
 obtain ⟨rfl, rfl, rfl⟩ := trodAll_nil r3
 obtain rfl : args = #[v0, v1, v2, v3] := Array.ext' (by simpa using hargs)
 obtain ⟨rfl, rfl⟩ := trodVars_none hV
 obtain ⟨ss, e0, w0⟩ := arg_one (Dec.slice Tryz.underlying22 (sz := 2) (by kernel_rfl) (by decide) decStg) (by kernel_rfl) (hval 0 22 v0 rfl rfl) h0
 obtain ⟨l, e1, w1⟩ := arg_one (Dec.slice Tryz.underlying81 (sz := 6) (by kernel_rfl) (by decide) decMv) (by kernel_rfl) (hval 1 81 v1 rfl rfl) h1
 obtain ⟨v, e2, w2⟩ := arg_agg decVer (by kernel_rfl) (hval 2 64 v2 rfl rfl) h2
 obtain ⟨u, e3, w3⟩ := arg_agg decVer (by kernel_rfl) (hval 3 64 v3 rfl rfl) h3
 have hbulk : Rows.uptoBulkAll ([d0, d1, d2, d3] ++ []) ≤ 1048576 := of_decide_eq_true hc
 simp only [List.append_nil, Rows.uptoBulkAll] at hbulk
 have h0 : ss.length < Rows.uptoBulk d0 ∧ ∀ u ∈ ss, u.k.length < Rows.uptoBulk d0 ∧ u.v.length < Rows.uptoBulk d0 := w0
 have h1 : l.length < Rows.uptoBulk d1 ∧ ∀ m ∈ l, MvWf (Rows.uptoBulk d1) m := w1
 have h2 : VerOk v ∧ v.e.length < Rows.uptoBulk d2 := w2
 have h3 : VerOk u ∧ u.e.length < Rows.uptoBulk d3 := w3
 have pc := pc_outlaw2_MovesMatch ss l v u (by omega) (fun u hu => by have := h0.2 u hu; omega) (by omega) (fun m hm => (h1.2 m hm).ok (by omega)) (by omega) (by omega)
 refine law_post (by kernel_rfl) (by kernel_rfl) rfl rfl Tryz.underlying4 hW' ⟨rfl, rfl, rfl⟩ pc (base_of (l := Rows.movesMatchUptoRow.laid) hL (.tail _ (.tail _ (.head _))) (.tail _ (.tail _ (.tail _ (.tail _ (.tail _ (.head _)))))) (.tail _ (.tail _ (.tail _ (.tail _ (.head _))))) (.tail _ (.head _)) hS) rfl (fun i u v hu hv => ?_)
 match i with
 | 0 => simp at hu hv; subst hu; subst hv; exact e0 _ rfl
 | 1 => simp at hu hv; subst hu; subst hv; exact e1 _ rfl
 | 2 => simp at hu hv; subst hu; subst hv; exact e2
 | 3 => simp at hu hv; subst hu; subst hv; exact e3
 | i + 4 => simp at hu
end Go.Proofs.YtpelfildfidnbaaGreatDoor.fnMovesMatch
namespace Go.Proofs.YtpelfildfidnbaaGreatDoor.fnMovesMatch
open Go Go.RowKit Go.ChangeShapes Go.WideShapes Go.ChangeAt
def zargs : Array Value := #[.slice none 0 0, .slice none 0 0, .agg #[.int .i64 0, .int .i64 0, .int .i64 0, .string ⟨#[]⟩], .agg #[.int .i64 0, .int .i64 0, .int .i64 0, .string ⟨#[]⟩]]
set_option maxRecDepth 100000 in
theorem laid_met (os : Os) : laidMet Tryz.prog Rows.movesMatchUptoRow.laid ((laidWorld os).forCall (fun _ _ => 0) ⟨#[], zargs, []⟩).memory :=
 laidMet_of_run' 8 (by kernel_rfl) (by kernel_rfl)
set_option maxRecDepth 100000 in
theorem reads (os : Os) {H : Type} (enc : TypeId × Value → H) : ∃ ds places, DataW.whole enc Tryz.prog ((laidWorld os).forCall (fun _ _ => 0) ⟨#[], zargs, []⟩).memory Tryz.f5.params.toList Rows.movesMatchSpec.vars false zargs.toList 8 = some (ds, [], places) ∧ Rows.uptoSmall H (ds ++ []) = true :=
 ⟨[.nil, .nil, .agg [.lit (.int .i64 0), .lit (.int .i64 0), .lit (.int .i64 0), .lit (.string [])], .agg [.lit (.int .i64 0), .lit (.int .i64 0), .lit (.int .i64 0), .lit (.string [])]], [], by kernel_rfl, by kernel_rfl⟩
theorem own : ownKnob Tryz.prog.godebug = none := by kernel_rfl
set_option maxRecDepth 100000 in
theorem liftedUpto (os : Os) (started : os.Started) (H : Type) (enc : TypeId × Value → H) (F : Stop.Interp) :
    ReturnsInHanded {} Tryz.checked os 5 .any ((Rows.OpenSpec.upto Rows.movesMatchSpec).preRow enc Tryz.prog Tryz.f5 Rows.movesMatchUptoRow.domain false Rows.movesMatchUptoRow.laid) (((Rows.OpenSpec.upto Rows.movesMatchSpec).at F).post enc Tryz.prog Tryz.f5 false true false false) := by
  obtain ⟨ds, places, hx, hsm⟩ := reads os enc
  refine returnsInHanded_of_row (C := Tryz.checked) (s := Rows.OpenSpec.upto Rows.movesMatchSpec) own started (by kernel_rfl) Tryz.func5
    (witness_row_at (enc := enc) (C := Tryz.checked) false (laidWorld os) zargs rfl (by kernel_rfl) (by kernel_rfl) (by kernel_rfl)
      (OpenSpec.preRow_of_cond 8 hx (by kernel_rfl) (fun k hk => by cases hk; exact hsm) (by kernel_rfl) (laid_met os))) ?_
  intro W base args ds gs before hval hW _ hcond _ hL hS _
  exact contract H enc W base args ds gs before hval hW (hcond _ rfl) hL hS
theorem band {a b : Bool} (ha : a = true) (hb : b = true) : (a && b) = true := by rw [ha, hb]; rfl
set_option maxRecDepth 100000 in
theorem closed : joinedFacts Tryz.pinned.checked.prog 5 Tryz.f5 (Rows.OpenSpec.upto Rows.movesMatchSpec).bare Rows.movesMatchUptoRow = true := by
 unfold joinedFacts
 refine band (band (band (band (band (band (band (band (band (band (band (band (band (band (band (band (band (band (band (band (band (band (band (band (band (band (band (band (band (band (band ?_ ?_) ?_) ?_) ?_) ?_) ?_) ?_) ?_) ?_) ?_) ?_) ?_) ?_) ?_) ?_) ?_) ?_) ?_) ?_) ?_) ?_) ?_) ?_) ?_) ?_) ?_) ?_) ?_) ?_) ?_) ?_
 all_goals (as_aux_lemma => kernel_rfl)
theorem saidUpto : Rows.MovesMatchUptoSaid :=
  OpenClaim.holds_of_cond 5 Tryz.f5 rfl rfl rfl rfl rfl rfl rfl ⟨rfl, rfl, rfl, rfl, rfl⟩ rfl rfl rfl rfl rfl (by as_aux_lemma => kernel_rfl) Tryz.func5 closed
    (of_decide_eq_true (by kernel_rfl)) (by unfold Func.isWrapper; first | (rw [if_pos (by decide +kernel)]; kernel_rfl) | (rw [if_neg (by decide +kernel)]; exact ⟨rfl, rfl⟩))
    (fun os started H enc _ F => by rw [OpenClaim.pre_eq_preRow]; exact liftedUpto os started H enc F)
theorem plain (f : FuncId) (fn : Func) (hf : Tryz.pinned.checked.prog.funcNamed "outfitter/outlaw2.MovesMatch" = some f) (hfn : Tryz.pinned.checked.prog.funcs[f]? = some fn) :
  true = Tryz.pinned.checked.prog.looks [] ∧ ∀ (j : Nat) t, fn.params[j]? = some t → Tryz.pinned.checked.prog.wantsStandIn t = false := by
 obtain rfl : f = 5 := Option.some.inj ((show Tryz.prog.funcNamed "outfitter/outlaw2.MovesMatch" = some 5 by kernel_rfl).symm.trans hf) |>.symm
 obtain rfl : fn = Tryz.f5 := (Option.some.inj (Tryz.func5.symm.trans hfn)).symm
 refine ⟨by kernel_rfl, fun j t ht => ?_⟩
 rw [Tryz.params5] at ht
 have hm : t = 81 ∨ t = 22 ∨ t = 64 := by
  have h1 := Array.mem_of_getElem? ht
  have h2 : t = 22 ∨ t = 81 ∨ t = 64 ∨ t = 64 := by simpa using h1
  rcases h2 with h | h | h | h <;> rw [h] <;> simp
 rcases hm with rfl | rfl | rfl
 ·skip
  exact (show Tryz.prog.wantsStandIn 81 = false by kernel_rfl)
 ·skip
  exact (show Tryz.prog.wantsStandIn 22 = false by kernel_rfl)
 ·skip
  exact (show Tryz.prog.wantsStandIn 64 = false by kernel_rfl)
theorem cardUpto : Rows.MovesMatchUptoCardSaid :=
 Claim7.holds_tied_plain_at .later [] _ _ _ _ saidUpto (fun _ h => by cases h) (by kernel_rfl) (fun _ h => by cases h) movesMatchUpto_row_tie rfl ⟨rfl, rfl⟩ (by kernel_rfl) rfl plain (by kernel_rfl)
end Go.Proofs.YtpelfildfidnbaaGreatDoor.fnMovesMatch
