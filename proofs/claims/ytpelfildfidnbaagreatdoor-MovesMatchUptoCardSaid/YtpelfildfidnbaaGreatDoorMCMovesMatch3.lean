/- Part 3 of a proof: W31, V60, V61, V62, W60, W32, A45, V63, V64, V65, V66, V22, V23, V24, V25, V67, W69, V71, W13, A46, L7, A47, W70, A48, A49, W71, V72, V73, A50, A51. -/
import Derived.Sort.Walk0
import Derived.Test.YtpelfildfidnbaaGreatDoorMCMovesMatch2
set_option linter.unusedVariables false
set_option linter.unusedSimpArgs false
set_option maxRecDepth 100000
set_option maxHeartbeats 4000000
namespace Go.Proofs.YtpelfildfidnbaaGreatDoor
section
open Go
open Go.RowKit
attribute [local irreducible] thenK blockK W
attribute [local irreducible] rangeB pathB nameB valueB visit visits checkP
theorem stg_at {l : List Stg} {i : Nat} (hi : i < l.length) : l.getD i Stg.z ∈ l := by
 rw [List.getD_eq_getElem?_getD, List.getElem?_eq_getElem hi]; exact List.getElem_mem hi
theorem stg_5 {φ : List UInt8 → Bool} {l : List Stg} {i : Nat} (h : (!φ (l.getD i Stg.z).k) = true) : stgAt φ l i = 5 := if_pos h
theorem stg_2 {φ : List UInt8 → Bool} {l : List Stg} {i : Nat} (h : (!φ (l.getD i Stg.z).k) = false) (h2 : (!valueB (l.getD i Stg.z).v) = true) : stgAt φ l i = 2 := by
 unfold stgAt; rw [if_neg (by rw [h]; simp), if_pos h2]
theorem stg_7 {φ : List UInt8 → Bool} {l : List Stg} {i : Nat} (h : (!φ (l.getD i Stg.z).k) = false) (h2 : (!valueB (l.getD i Stg.z).v) = false) (h3 : (decide ((i : Int) > 0) && leS (l.getD i Stg.z).k (l.getD (i - 1) Stg.z).k) = true) : stgAt φ l i = 7 := by
 unfold stgAt; rw [if_neg (by rw [h]; simp), if_neg (by rw [h2]; simp), if_pos h3]
theorem stg_0 {φ : List UInt8 → Bool} {l : List Stg} {i : Nat} (h : (!φ (l.getD i Stg.z).k) = false) (h2 : (!valueB (l.getD i Stg.z).v) = false) (h3 : (decide ((i : Int) > 0) && leS (l.getD i Stg.z).k (l.getD (i - 1) Stg.z).k) = false) : stgAt φ l i = 0 := by
 unfold stgAt; rw [if_neg (by rw [h]; simp), if_neg (by rw [h2]; simp), if_neg (by rw [h3]; simp)]
theorem pc_sF (φ : List UInt8 → Bool) (f : Nat) (hf : ∀ s : List UInt8, s.length < 4294967000 → PureCall Tryz.prog J f [.one (.d (.str s))] (.one (.d (.bool (φ s))))) (l : List Stg) (hn : l.length ≤ 4294967000) (hs : ∀ s ∈ l, s.k.length < 4294967000 ∧ s.v.length < 4294967000) :
  PureCall Tryz.prog J 273 [.one (.d (.vec 2 (l.map stgD))), .one (.d (.fn f))] (.one (.d (.int .i64 (listE φ l)))) := by
 refine PureCall.of_body tOk (fn := Tryz.f273) Tryz.func273 (by kernel_rfl) rfl (Nat.le_of_ble_eq_true rfl) (fun E => ?_)
 iterate 9 first|refine Yp rfl ?_|apply Y1|apply Yn|apply Ys
 apply Yb
 refine W.loop (fun k st => ∃ i : Nat, i ≤ l.length ∧ (((List.range l.length).map (stgAt φ l)).take i).all (· == 0) = true ∧ k = l.length - i ∧ ∃ t b2 r2 m2, st = ⟨t, [] ++ b2, [] ++ r2, [] ++ m2⟩ ∧ holdsL t [(0, .one (.d (.vec 2 (l.map stgD)))), (1, .one (.d (.fn f))), (7, .one (.d (.vec 2 (l.map stgD)))), (8, .one (.d (.int .i64 ((l.map stgD).length : Int)))), (9, .one (.d (.int .i64 (i : Int))))]) (l.length) ⟨0, Nat.zero_le _, by simp, rfl, _, _, _, _, rfl, rfl, rfl, rfl, rfl, rfl, trivial⟩ ?_
 rintro k0 _ ⟨i, f0_0, f0_1, rfl, t0, bb0, rr0, mm0, rfl, hh0⟩
 refine W.keepR _ _ _ _ _ _ _ hh0 rfl ?_
 apply Y1
 refine Yp rfl ?_
 apply Yn
 apply Ys
 refine W.cond rfl (fun c1=>?_) fun c1=>?_
 ·skip
  have hi := row_lt c1
  have hx := hs _ (stg_at hi)
  apply Yk
  apply Yn
  apply Ys
  apply Yb
  apply Y1
  refine Yp rfl ?_
  refine YE rfl (row_ok hi) (row_at Stg.z hi) rfl ?_
  iterate 10 first|refine Yp rfl ?_|apply Yb|refine S.store tOk rfl rfl rfl rfl rfl rfl rfl rfl ?_|refine S.alloc tOk rfl rfl rfl rfl ?_|apply Y1|apply Yn
  refine S.call rfl rfl rfl rfl rfl (hf (l.getD i Stg.z).k hx.1) ?_
  iterate 2 refine Yp rfl ?_
  apply Yn
  refine W.cond rfl (fun c2=>?_) fun c2=>?_
  ·skip
   iterate 10 first|apply Yu|apply Yv|apply Yt|refine Yp rfl ?_|apply Y1|apply Yn
   exact ⟨_, rfl, rfl, LeV.of_eq (congrArg (fun x => V.one (C.d (D.int .i64 x))) (listE_hit hi f0_1 (stg_5 c2) (by decide)).symm)⟩
  apply Y1
  iterate 2 refine Yp rfl ?_
  refine S.call rfl rfl rfl rfl rfl (pc_ver_IsValue (l.getD i Stg.z).v (by omega)) ?_
  iterate 2 refine Yp rfl ?_
  apply Yn
  refine W.cond rfl (fun c3=>?_) fun c3=>?_
  ·skip
   iterate 10 first|apply Yu|apply Yv|apply Yt|refine Yp rfl ?_|apply Y1|apply Yn
   exact ⟨_, rfl, rfl, LeV.of_eq (congrArg (fun x => V.one (C.d (D.int .i64 x))) (listE_hit hi f0_1 (stg_2 c2 c3) (by decide)).symm)⟩
  apply Ys
  refine W.regionD mixed (by kernel_rfl) ?_
  iterate 8 first|refine Yy rfl rfl rfl tg ?_|refine Ym rfl rfl ?_
  refine D.pureEG tOk zOk rfl rfl rfl tg (fun h => pred_ok h hi (by omega)) (row_pred Stg.z hi (by omega)) rfl ?_
  iterate 3 refine Yy rfl rfl rfl tg ?_
  refine D.pickAnd tOk zOk rfl rfl tg ?_
  refine Ym rfl rfl ?_
  apply Yn
  refine W.cond rfl (fun c4=>?_) fun c4=>?_
  ·skip
   iterate 10 first|apply Yu|apply Yv|apply Yt|refine Yp rfl ?_|apply Y1|apply Yn
   exact ⟨_, rfl, rfl, LeV.of_eq (congrArg (fun x => V.one (C.d (D.int .i64 x))) (listE_hit hi f0_1 (stg_7 c2 c3 c4) (by decide)).symm)⟩
  iterate 6 first|refine Yp rfl ?_|apply Yw|apply Yk|apply Y4
  refine loop_n (l.length - (i + 1)) (by omega) ⟨i + 1, hi, range_take hi f0_1 (stg_0 c2 c3 c4), rfl, _, _, _, _, rfl, rfl, rfl, rfl, rfl, inc_i64 (by omega), trivial⟩
 have hi := row_ge c1
 apply Yq
 apply Ye
 apply Ye
 apply Yx
 apply Y3
 refine Yp rfl ?_
 apply Yn
 apply Yt
 exact ⟨_, rfl, rfl, LeV.of_eq (congrArg (fun x => V.one (C.d (D.int .i64 x))) (listE_none hi f0_1).symm)⟩
theorem pc_sF_nil (f : Nat) :
  PureCall Tryz.prog J 273 [.one (.d .nilsl), .one (.d (.fn f))] (.one (.d (.int .i64 0))) := by
 refine PureCall.of_body tOk (fn := Tryz.f273) Tryz.func273 (by kernel_rfl) rfl (Nat.le_of_ble_eq_true rfl) (fun E => ?_)
 iterate 9 first|refine Yp rfl ?_|apply Y1|apply Yn|apply Ys
 apply Yb
 refine W.rounds 1 ?_
 refine WR.succ ?_
 apply Y1
 refine Yp rfl ?_
 apply Yn
 apply Ys
 refine W.condF rfl rfl ?_
 apply Yq
 apply Ye
 apply Ye
 apply Yx
 apply Y3
 refine Yp rfl ?_
 apply Yn
 apply Yt
 exact ⟨_, rfl, rfl, LeV.refl _⟩
theorem pc_listE (l : List Stg) (hn : l.length ≤ 4294967000) (hs : ∀ s ∈ l, s.k.length < 4294967000 ∧ s.v.length < 4294967000) :
  PureCall Tryz.prog J 88 [.one (.d (.vec 2 (l.map stgD))), .one (.d (.bool false))] (.one (.d (.int .i64 (listE pathB l)))) := by
 refine PureCall.of_body tOk (fn := Tryz.f88) Tryz.func88 (by kernel_rfl) rfl (Nat.le_of_ble_eq_true rfl) (fun E => ?_)
 iterate 9 first|refine Yp rfl ?_|apply Y1|apply Yn|apply Ys
 apply Yb
 refine W.loop (fun k st => ∃ i : Nat, i ≤ l.length ∧ (((List.range l.length).map (stgAt pathB l)).take i).all (· == 0) = true ∧ k = l.length - i ∧ ∃ t b2 r2 m2, st = ⟨t, [] ++ b2, [] ++ r2, [] ++ m2⟩ ∧ holdsL t [(0, .one (.d (.vec 2 (l.map stgD)))), (1, .one (.d (.bool false))), (7, .one (.d (.vec 2 (l.map stgD)))), (8, .one (.d (.int .i64 ((l.map stgD).length : Int)))), (9, .one (.d (.int .i64 (i : Int))))]) (l.length) ⟨0, Nat.zero_le _, by simp, rfl, _, _, _, _, rfl, rfl, rfl, rfl, rfl, rfl, trivial⟩ ?_
 rintro k0 _ ⟨i, f0_0, f0_1, rfl, t0, bb0, rr0, mm0, rfl, hh0⟩
 refine W.keepR _ _ _ _ _ _ _ hh0 rfl ?_
 apply Y1
 refine Yp rfl ?_
 apply Yn
 apply Ys
 refine W.cond rfl (fun c1=>?_) fun c1=>?_
 ·skip
  have hi := row_lt c1
  have hx := hs _ (stg_at hi)
  apply Yk
  apply Yn
  apply Ys
  apply Yb
  apply Y1
  refine Yp rfl ?_
  refine YE rfl (row_ok hi) (row_at Stg.z hi) rfl ?_
  iterate 11 first|refine Yp rfl ?_|refine Yg rfl rfl tg ?_|refine S.store tOk rfl rfl rfl rfl rfl rfl rfl rfl ?_|refine S.alloc tOk rfl rfl rfl rfl ?_|apply Y1|apply Ys|apply Yn
  refine S.callG rfl rfl rfl rfl tg rfl rfl (fun _ => pc_outref2_NameOf (l.getD i Stg.z).k (by omega)) ?_
  iterate 8 first|refine S.pickAnd tOk zOk rfl rfl tg ?_|refine Yg rfl rfl tg ?_|refine Yp rfl ?_
  refine S.callG rfl rfl rfl rfl tg rfl rfl (fun _ => pc_outref2_PathOf (l.getD i Stg.z).k (by omega)) ?_
  refine Yg rfl rfl tg ?_
  refine S.pickAndG tOk zOk rfl rfl rfl tg tg ?_
  refine S.pickOr tOk zOk rfl rfl tg ?_
  apply Yn
  refine W.cond rfl (fun c2=>?_) fun c2=>?_
  ·skip
   have c2 : (!pathB (l.getD i Stg.z).k) = true := by simpa using c2
   iterate 10 first|apply Yu|apply Yv|apply Yt|refine Yp rfl ?_|apply Y1|apply Yn
   exact ⟨_, rfl, rfl, LeV.of_eq (congrArg (fun x => V.one (C.d (D.int .i64 x))) (listE_hit hi f0_1 (stg_5 c2) (by decide)).symm)⟩
  have c2 : (!pathB (l.getD i Stg.z).k) = false := by simpa using c2
  iterate 6 first|refine Yp rfl ?_|apply Yk|apply Y1|apply Ys|apply Yn
  refine S.call rfl rfl rfl rfl rfl (pc_outref2_ValueOf (l.getD i Stg.z).v (by omega)) ?_
  refine Yp rfl ?_
  apply Yn
  refine W.cond rfl (fun c3=>?_) fun c3=>?_
  ·skip
   iterate 10 first|apply Yu|apply Yv|apply Yt|refine Yp rfl ?_|apply Y1|apply Yn
   exact ⟨_, rfl, rfl, LeV.of_eq (congrArg (fun x => V.one (C.d (D.int .i64 x))) (listE_hit hi f0_1 (stg_2 c2 c3) (by decide)).symm)⟩
  apply Yk
  apply Yn
  apply Ys
  refine W.regionD mixed (by kernel_rfl) ?_
  iterate 8 first|refine Yy rfl rfl rfl tg ?_|refine Ym rfl rfl ?_
  refine D.pureEG tOk zOk rfl rfl rfl tg (fun h => pred_ok h hi (by omega)) (row_pred Stg.z hi (by omega)) rfl ?_
  iterate 3 refine Yy rfl rfl rfl tg ?_
  refine D.pickAnd tOk zOk rfl rfl tg ?_
  apply Yn
  refine W.cond rfl (fun c4=>?_) fun c4=>?_
  ·skip
   iterate 9 first|apply Yu|apply Yv|apply Yt|refine Yp rfl ?_|apply Y1|apply Yn
   exact ⟨_, rfl, rfl, LeV.of_eq (congrArg (fun x => V.one (C.d (D.int .i64 x))) (listE_hit hi f0_1 (stg_7 c2 c3 c4) (by decide)).symm)⟩
  apply Yk
  apply Yw
  apply Y4
  iterate 2 refine Yp rfl ?_
  refine loop_n (l.length - (i + 1)) (by omega) ⟨i + 1, hi, range_take hi f0_1 (stg_0 c2 c3 c4), rfl, _, _, _, _, rfl, rfl, rfl, rfl, rfl, inc_i64 (by omega), trivial⟩
 have hi := row_ge c1
 apply Yq
 apply Ye
 apply Ye
 apply Yx
 apply Y3
 refine Yp rfl ?_
 apply Yn
 apply Yt
 exact ⟨_, rfl, rfl, LeV.of_eq (congrArg (fun x => V.one (C.d (D.int .i64 x))) (listE_none hi f0_1).symm)⟩
theorem pc_Facts (l : List Stg) (hn : l.length ≤ 4294967000) :
  HCall Tryz.prog J 55 ([.one (.d (.vec 2 (l.map stgD)))]) ([]) ([]) ([]) (isH (.one (.map 0)) ([]) ([]) ([tabD (tabOf l)])) := by
 refine HCall.ofD tOk ⟨0, 0, 1⟩ (fn := Tryz.f55) Tryz.func55 (by kernel_rfl) rfl (Nat.le_of_ble_eq_true rfl) (fun E => ?_)
 apply Y1
 refine Yp rfl ?_
 apply Y3
 refine S.makeMap rfl ?_
 iterate 9 first|refine Yp rfl ?_|apply Yb|apply Y1|apply Yn|apply Ys
 refine W.loop (fun k st => ∃ i : Nat, i ≤ l.length ∧ k = l.length - i ∧ ∃ t b2 r2 m2, st = ⟨t, [] ++ b2, [] ++ r2, [tabD (tabTo l i)] ++ m2⟩ ∧ holdsL t [(3, .one (.map 0)), (7, .one (.d (.vec 2 (l.map stgD)))), (8, .one (.d (.int .i64 ((l.map stgD).length : Int)))), (9, .one (.d (.int .i64 (i : Int))))]) (l.length) ⟨0, Nat.zero_le _, rfl, _, _, _, _, rfl, rfl, rfl, rfl, rfl, trivial⟩ ?_
 rintro k0 _ ⟨i, f0_0, rfl, t0, bb0, rr0, mm0, rfl, hh0⟩
 refine W.keepR _ _ _ _ _ _ _ hh0 rfl ?_
 apply Y1
 refine Yp rfl ?_
 apply Yn
 apply Ys
 refine W.cond rfl (fun c1=>?_) fun c1=>?_
 ·skip
  have hi := row_lt c1
  apply Yk
  apply Yn
  apply Ys
  apply Yb
  apply Y1
  refine YE rfl (row_ok hi) (row_at Stg.z hi) rfl ?_
  iterate 9 first|refine Yp rfl ?_|refine S.store tOk rfl rfl rfl rfl rfl rfl rfl rfl ?_|refine S.alloc tOk rfl rfl rfl rfl ?_|apply Y4
  refine S.mapUpdate tOk keyS (fD := fun v : List UInt8 => DV.one (.str v)) (l.getD i Stg.z).v (tabTo l i) rfl rfl rfl rfl rfl rfl rfl rfl (show _ = [tabD (tabTo l (i + 1))] from rfl) ?_
  apply Yw
  apply Y4
  iterate 2 refine Yp rfl ?_
  refine loop_n (l.length - (i + 1)) (by omega) ⟨i + 1, hi, rfl, _, _, _, _, rfl, rfl, rfl, rfl, inc_i64 (by omega), trivial⟩
 have hi := row_ge c1
 obtain rfl : i = l.length := by omega
 iterate 9 first|refine Yp rfl ?_|apply Ye|apply Yt|apply Yx|apply Yq|apply Y3|apply Yn
 exact ⟨_, rfl, rfl, LeG.refl _, rfl, rfl, rfl⟩
theorem LeV.aggLast (a b c : C) (sz : Nat) : LeV (.agg [a, b, c, .d .nilsl]) (.agg [a, b, c, .d (.vec sz [])]) := fun im w v h => by
 cases h with | agg _ vs hl hx =>
 refine .agg _ _ hl (fun i q v hc hv => ?_)
 match i with
 | 0 => exact hx 0 q v hc hv
 | 1 => exact hx 1 q v hc hv
 | 2 => exact hx 2 q v hc hv
 | 3 =>
  simp at hc; subst hc
  have h1 := hx 3 _ v rfl hv
  cases h1 with | d _ _ h1 => cases h1 with | nilsl => exact .d _ _ (.empty _ _ _)
 | i + 4 => simp at hc
theorem PureCall.arg0 {P : Program} {J : Inv} {f : FuncId} {a a' r : V} {l : List V} (pc : PureCall P J f (a :: l) r) (h : LeV a' a) : PureCall P J f (a' :: l) r :=
  ⟨pc.enter, fun im w vs h1 h2 h3 h4 => pc.calls im w vs h1 h2 (by simpa using h3) (fun i u v hu hv => by
    cases i with
    | zero => simp at hu; subst hu; exact h im w v (h4 0 a' v rfl hv)
    | succ i => exact h4 (i + 1) u v (by simpa using hu) hv)⟩
theorem pc_CheckCond0 : PureCall Tryz.prog J 172 [.agg [.d (.int .i64 1), .d (.str []), .d (.str []), .d .nilsl]] (.one (.d (.int .i64 0))) := by
 have h := pc_ver_CheckCond (.mk 1 [] [] []) (.mk 1 [] [] [] (by decide) (by decide) (fun a ha => by cases ha) (by decide))
 rw [check_0] at h
 exact h.arg0 (LeV.aggLast _ _ _ 4)
theorem pc_Holds1 (x : D) :
  HCall Tryz.prog J 274 ([.one (.d x)]) ([]) ([]) ([]) (isH (.one (.clo 275 [.ptr 0 0])) ([[.d x]]) ([]) ([])) := by
 refine HCall.ofD tOk ⟨1, 0, 0⟩ (fn := Tryz.f274) Tryz.func274 (by kernel_rfl) rfl (Nat.le_of_ble_eq_true rfl) (fun E => ?_)
 apply Y1
 refine S.box rfl rfl rfl rfl ?_
 refine Yp rfl ?_
 apply Y3
 refine S.makeFunc rfl rfl rfl ?_
 refine Yp rfl ?_
 apply Yn
 apply Yt
 exact ⟨_, rfl, rfl, LeG.refl _, rfl, rfl, rfl⟩
theorem pc_holds0 (l : List Stg) :
  HCall Tryz.prog J 277 ([.agg [.d (.int .i64 1), .d (.str []), .d (.str []), .d .nilsl], .one (.clo 275 [.ptr 0 0]), .one (.clo 275 [.ptr 1 0])]) ([[.d .nilsl], [.d (.vec 2 (l.map stgD))]]) ([]) ([]) (isH (.one (.d (.bool true))) ([[.d .nilsl], [.d (.vec 2 (l.map stgD))]]) ([]) ([])) := by
 refine HCall.ofD tOk ⟨2, 0, 0⟩ (fn := Tryz.f277) Tryz.func277 (by kernel_rfl) rfl (Nat.le_of_ble_eq_true rfl) (fun E => ?_)
 apply Y1
 iterate 3 refine S.box rfl rfl rfl rfl ?_
 refine Yp rfl ?_
 apply Y3
 refine S.makeFunc rfl rfl rfl ?_
 iterate 13 first|refine Yp rfl ?_|apply Yb|refine S.store tOk rfl rfl rfl rfl rfl rfl rfl rfl ?_|refine S.alloc tOk rfl rfl rfl rfl ?_|apply Y1|apply Yn|apply Ys
 refine W.condF rfl rfl ?_
 apply Y1
 iterate 2 refine Yp rfl ?_
 apply Yn
 refine W.condF rfl rfl ?_
 apply Y1
 iterate 2 refine Yp rfl ?_
 apply Yn
 refine W.condF rfl rfl ?_
 apply Y1
 iterate 2 refine Yp rfl ?_
 apply Yn
 refine W.condF rfl rfl ?_
 apply Y1
 iterate 2 refine Yp rfl ?_
 apply Yn
 refine W.condF rfl rfl ?_
 apply Y1
 iterate 2 refine Yp rfl ?_
 apply Yn
 refine W.condF rfl rfl ?_
 apply Y1
 iterate 2 refine Yp rfl ?_
 apply Yn
 refine W.condF rfl rfl ?_
 apply Yk
 apply Yw
 apply Y3
 refine Yp rfl ?_
 apply Yn
 apply Yt
 exact ⟨_, rfl, rfl, LeG.refl _, rfl, rfl, rfl⟩
theorem pc_Holds0 (l : List Stg) (hn : l.length ≤ 4294967000) (hs : ∀ s ∈ l, s.k.length < 4294967000 ∧ s.v.length < 4294967000) :
  PureCall Tryz.prog J 241 [.agg [.d (.int .i64 1), .d (.str []), .d (.str []), .d .nilsl], .one (.d .nilsl), .one (.d (.vec 2 (l.map stgD)))] (.tup [.one (.d (.bool (!(listE pathB l != 0)))), .one (.d (.int .i64 (listE pathB l)))]) := by
 refine PureCall.of_body tOk (fn := Tryz.f241) Tryz.func241 (by kernel_rfl) rfl (Nat.le_of_ble_eq_true rfl) (fun E => ?_)
 iterate 8 first|refine Yp rfl ?_|refine S.box rfl rfl rfl rfl ?_|apply Y1|apply Ys|apply Yn
 refine S.call rfl rfl rfl rfl rfl (pc_CheckCond0) ?_
 iterate 5 first|refine Yp rfl ?_|apply Y3|apply Yn
 refine W.condF rfl rfl ?_
 apply Yk
 apply Yn
 apply Ys
 apply Y1
 refine Yp rfl ?_
 refine S.call rfl rfl rfl rfl rfl (pc_sF_nil _) ?_
 iterate 5 first|refine Yp rfl ?_|apply Y3|apply Yn
 refine W.condF rfl rfl ?_
 apply Yk
 apply Yn
 apply Ys
 apply Y1
 refine Yp rfl ?_
 refine S.call rfl rfl rfl rfl rfl (pc_sF pathB 44 (fun s h => pc_ver_IsPath s (by omega)) l hn hs) ?_
 iterate 5 first|refine Yp rfl ?_|apply Y3|apply Yn
 refine W.cond rfl (fun c3=>?_) fun c3=>?_
 ·skip
  iterate 7 first|refine Yp rfl ?_|apply Yu|apply Yt|apply Y1|apply Yn
  exact Yz rfl rfl rfl (by rw [show (listE pathB l != 0) = true from c3]; rfl)
 apply Yk
 apply Y3
 refine Yp rfl ?_
 apply Yn
 apply Ys
 refine W.regionS 7 mixed rfl (by kernel_rfl) ?_
 refine AnyZ.eager 1 rfl (by kernel_rfl) (Eag.pure tOk zOk rfl (fun _ _ _ => rfl) rfl rfl) ?_
 refine AnyZ.eager 2 rfl (by kernel_rfl) (Eag.pure tOk zOk rfl (fun _ _ _ => rfl) rfl rfl) ?_
 refine AnyZ.eager 4 rfl (by kernel_rfl) (Eag.pure tOk zOk rfl (fun _ _ _ => rfl) rfl rfl) ?_
 refine AnyZ.eager 5 rfl (by kernel_rfl) (Eag.pure tOk zOk rfl (fun _ _ _ => rfl) rfl rfl) ?_
 refine AnyZ.two 0 3 (by kernel_rfl) rfl rfl ?_ ?_
 ·skip
  refine OpZ.d ?_
  refine Ym rfl rfl ?_
  refine WD.nil ?_
  refine AnyZ.one 3 (by kernel_rfl) rfl ?_
  refine OpZ.hcall rfl rfl rfl rfl ((pc_Holds1 .nilsl).fd [] [] [] rfl) ?_
  refine AnyZ.one 6 (by kernel_rfl) rfl ?_
  refine OpZ.hcall rfl rfl rfl rfl ((pc_Holds1 (.vec 2 (l.map stgD))).fd [] [] [] rfl) ?_
  refine AnyZ.nil (by kernel_rfl) ?_
  refine S.hcallD rfl rfl rfl rfl ((pc_holds0 l).fd [1, 2] [] [] rfl) ?_
  iterate 2 refine Yp rfl ?_
  apply Yn
  apply Yt
  exact Yz rfl rfl rfl (by rw [show listE pathB l = 0 from by simpa using c3]; rfl)
 refine OpZ.hcall rfl rfl rfl rfl ((pc_Holds1 .nilsl).fd [] [] [] rfl) ?_
 refine AnyZ.two 0 6 (by kernel_rfl) rfl rfl ?_ ?_
 ·skip
  refine OpZ.d ?_
  refine Ym rfl rfl ?_
  refine WD.nil ?_
  refine AnyZ.one 6 (by kernel_rfl) rfl ?_
  refine OpZ.hcall rfl rfl rfl rfl ((pc_Holds1 (.vec 2 (l.map stgD))).fd [] [] [] rfl) ?_
  refine AnyZ.nil (by kernel_rfl) ?_
  refine S.hcallD rfl rfl rfl rfl ((pc_holds0 l).fd [1, 2] [] [] rfl) ?_
  iterate 2 refine Yp rfl ?_
  apply Yn
  apply Yt
  exact Yz rfl rfl rfl (by rw [show listE pathB l = 0 from by simpa using c3]; rfl)
 refine OpZ.hcall rfl rfl rfl rfl ((pc_Holds1 (.vec 2 (l.map stgD))).fd [] [] [] rfl) ?_
 refine AnyZ.one 0 (by kernel_rfl) rfl ?_
 refine OpZ.d ?_
 refine Ym rfl rfl ?_
 refine WD.nil ?_
 refine AnyZ.nil (by kernel_rfl) ?_
 refine S.hcallD rfl rfl rfl rfl ((pc_holds0 l).fd [1, 2] [] [] rfl) ?_
 iterate 2 refine Yp rfl ?_
 apply Yn
 apply Yt
 exact Yz rfl rfl rfl (by rw [show listE pathB l = 0 from by simpa using c3]; rfl)
end
section
open Go
abbrev L8 := List UInt8
abbrev Fm := L8 → Option L8
def lk : Tab → Fm
 | [], _ => none
 | x :: l, k => if k == x.1 then some x.2 else lk l k
def ndT (t : Tab) : Prop := (t.map (·.1)).Nodup
theorem nd_nil : ndT [] := List.nodup_nil
theorem nd_cons {x : L8 × L8} {l : Tab} : ndT (x :: l) ↔ x.1 ∉ l.map (·.1) ∧ ndT l := by unfold ndT; rw [List.map_cons, List.nodup_cons]
theorem lk_none {t : Tab} {k : L8} : lk t k = none ↔ k ∉ t.map (·.1) := by
 induction t with
 | nil => simp [lk]
 | cons x l ih =>
  unfold lk
  by_cases h : (k == x.1) = true
  ·skip
   rw [if_pos h]; simp [beq_iff_eq.1 h]
  ·skip
   rw [if_neg h, ih]
   simp at h
   simp [h]
theorem has_lk (t : Tab) (k : L8) : hasL beqS t k = (lk t k).isSome := by
 induction t with
 | nil => rfl
 | cons x l ih =>
  unfold lk hasL
  by_cases h : (k == x.1) = true
  ·skip
   rw [if_pos h]; simp [beqS, h]
  ·skip
   rw [if_neg h]
   simp only [List.any_cons, beqS, h, Bool.false_or]
   exact ih
theorem get_lk (t : Tab) (k : L8) : getL beqS [] t k = (lk t k).getD [] := by
 induction t with
 | nil => rfl
 | cons x l ih =>
  unfold lk getL
  by_cases h : (k == x.1) = true
  ·skip
   rw [if_pos h]; simp [beqS, h]
  ·skip
   rw [if_neg h]; simp [beqS, h, ih]
def setF (f : Fm) (k v : L8) : Fm := fun q => if q == k then some v else f q
def delF (f : Fm) (k : L8) : Fm := fun q => if q == k then none else f q
theorem lk_set (t : Tab) (k v : L8) : lk (setL beqS t k v) = setF (lk t) k v := by
 funext q
 induction t with
 | nil => simp [setL, lk, setF]
 | cons x l ih =>
  unfold setL
  by_cases h : (k == x.1) = true
  ·skip
   simp only [beqS, h, cond_true]
   have hk := beq_iff_eq.1 h
   unfold lk setF
   simp only
   by_cases hq : (q == k) = true
   ·skip
    rw [if_pos hq, if_pos hq]
   ·skip
    rw [if_neg hq, if_neg hq]
    rw [hk] at hq
    conv => rhs; unfold lk
    rw [if_neg hq]
  ·skip
   simp only [beqS, h, cond_false]
   unfold lk
   by_cases hq : (q == x.1) = true
   ·skip
    rw [if_pos hq]
    unfold setF
    have : ¬ (q == k) = true := fun hqk => h (by rw [← beq_iff_eq.1 hqk]; exact hq)
    rw [if_neg this]
    conv => rhs; unfold lk
    rw [if_pos hq]
   ·skip
    rw [if_neg hq, ih]
    unfold setF
    by_cases hqk : (q == k) = true
    ·skip
     rw [if_pos hqk, if_pos hqk]
    ·skip
     rw [if_neg hqk, if_neg hqk]
     conv => rhs; unfold lk
     rw [if_neg hq]
theorem keys_set (t : Tab) (k v : L8) : ∀ q, q ∈ (setL beqS t k v).map (·.1) ↔ q = k ∨ q ∈ t.map (·.1) := fun q => by
 have h1 := lk_none (t := setL beqS t k v) (k := q)
 have h2 := lk_none (t := t) (k := q)
 rw [lk_set] at h1
 unfold setF at h1
 by_cases hq : (q == k) = true
 ·skip
  rw [if_pos hq] at h1
  simp at h1
  have := beq_iff_eq.1 hq
  exact ⟨fun _ => .inl this, fun _ => by simpa using h1⟩
 ·skip
  rw [if_neg hq] at h1
  have hne : q ≠ k := fun h => hq (by simp [h])
  have h3 := not_congr (h1.symm.trans h2)
  simp only [Classical.not_not] at h3
  exact h3.trans ⟨.inr, fun h => h.resolve_left hne⟩
theorem nd_set {t : Tab} (h : ndT t) (k v : L8) : ndT (setL beqS t k v) := by
 induction t with
 | nil => simp [setL, ndT]
 | cons x l ih =>
  unfold setL
  obtain ⟨h1, h2⟩ := nd_cons.1 h
  by_cases hk : (k == x.1) = true
  ·skip
   simp only [beqS, hk, cond_true]
   exact nd_cons.2 ⟨by rw [beq_iff_eq.1 hk]; exact h1, h2⟩
  ·skip
   simp only [beqS, hk, cond_false]
   refine nd_cons.2 ⟨fun hm => ?_, ih h2⟩
   rcases (keys_set l k v x.1).1 hm with h3 | h3
   ·skip
    exact hk (by simp [h3])
   ·skip
    exact h1 h3
theorem del_sub (t : Tab) (k : L8) : (delL beqS t k).Sublist t := by
 induction t with
 | nil => exact List.Sublist.refl _
 | cons x l ih =>
  unfold delL
  by_cases h : (k == x.1) = true
  ·skip
   simp only [beqS, h, cond_true]; exact List.sublist_cons_self _ _
  ·skip
   simp only [beqS, h, cond_false]; exact ih.cons_cons _
theorem nd_sub {t t' : Tab} (h : ndT t) (hs : t'.Sublist t) : ndT t' := (hs.map _).nodup h
theorem nd_del {t : Tab} (h : ndT t) (k : L8) : ndT (delL beqS t k) := nd_sub h (del_sub t k)
theorem lk_del {t : Tab} (h : ndT t) (k : L8) : lk (delL beqS t k) = delF (lk t) k := by
 funext q
 induction t with
 | nil => simp [delL, lk, delF]
 | cons x l ih =>
  obtain ⟨h1, h2⟩ := nd_cons.1 h
  unfold delL
  by_cases hk : (k == x.1) = true
  ·skip
   simp only [beqS, hk, cond_true]
   unfold delF
   by_cases hq : (q == k) = true
   ·skip
    rw [if_pos hq]
    refine lk_none.2 ?_
    rw [beq_iff_eq.1 hq, beq_iff_eq.1 hk]; exact h1
   ·skip
    rw [if_neg hq]
    rw [beq_iff_eq.1 hk] at hq
    conv => rhs; unfold lk
    rw [if_neg hq]
  ·skip
   simp only [beqS, hk, cond_false]
   unfold lk
   by_cases hq : (q == x.1) = true
   ·skip
    rw [if_pos hq]
    unfold delF
    have : ¬ (q == k) = true := fun hqk => hk (by rw [← beq_iff_eq.1 hqk]; exact hq)
    rw [if_neg this]
    conv => rhs; unfold lk
    rw [if_pos hq]
   ·skip
    rw [if_neg hq, ih h2]
    unfold delF
    by_cases hqk : (q == k) = true
    ·skip
     rw [if_pos hqk, if_pos hqk]
    ·skip
     rw [if_neg hqk, if_neg hqk]
     conv => rhs; unfold lk
     rw [if_neg hq]
theorem lk_mem {t : Tab} (h : ndT t) {k v : L8} : lk t k = some v ↔ (k, v) ∈ t := by
 induction t with
 | nil => simp [lk]
 | cons x l ih =>
  obtain ⟨h1, h2⟩ := nd_cons.1 h
  unfold lk
  by_cases hk : (k == x.1) = true
  ·skip
   rw [if_pos hk]
   have hk := beq_iff_eq.1 hk
   constructor
   ·skip
    intro e
    have : x.2 = v := by simpa using e
    rw [hk, ← this]; exact List.mem_cons_self
   ·skip
    intro e
    rcases List.mem_cons.1 e with e | e
    ·skip
     rw [← e]
    ·skip
     exact absurd (List.mem_map.2 ⟨_, e, rfl⟩) (by rw [hk]; exact h1)
  ·skip
   rw [if_neg hk, ih h2]
   constructor
   ·skip
    exact List.mem_cons_of_mem _
   ·skip
    intro e
    rcases List.mem_cons.1 e with e | e
    ·skip
     exact absurd (by rw [← e]; simp) hk
    ·skip
     exact e
theorem nd_pairs {t : Tab} (h : ndT t) : t.Nodup := by
 unfold ndT at h
 exact (List.pairwise_map.1 h).imp fun hne he => hne (by rw [he])
theorem perm_lk {t t' : Tab} (h : ndT t) (h' : ndT t') (e : lk t = lk t') : t.Perm t' := by
 refine (List.perm_ext_iff_of_nodup (nd_pairs h) (nd_pairs h')).2 fun x => ?_
 obtain ⟨k, v⟩ := x
 rw [← lk_mem h, ← lk_mem h', e]
theorem lk_perm {t t' : Tab} (h : ndT t) (h' : ndT t') (e : t.Perm t') : lk t = lk t' := by
 funext k
 cases hk : lk t' k with
 | none =>
  rw [lk_none] at hk ⊢
  exact fun hm => hk ((e.map _).mem_iff.1 hm)
 | some v => rw [lk_mem h'] at hk; rw [lk_mem h]; exact e.mem_iff.2 hk
theorem nd_perm {t t' : Tab} (h : ndT t) (e : t.Perm t') : ndT t' := (e.map _).nodup_iff.1 h
def listT (t : Tab) : List Stg := (sortS (t.map (·.1))).map fun k => ⟨k, getL beqS [] t k⟩
theorem listT_lk {t t' : Tab} (h : ndT t) (h' : ndT t') (e : lk t = lk t') : listT t = listT t' := by
 have hp := perm_lk h h' e
 have h1 : sortS (t.map (·.1)) = sortS (t'.map (·.1)) := mergeSort_of_perm (hp.map _)
 unfold listT
 rw [h1]
 refine List.map_congr_left fun k _ => ?_
 rw [get_lk, get_lk, e]
theorem tabTo_nd (l : List Stg) : ∀ i, ndT (tabTo l i)
 | 0 => nd_nil
 | i + 1 => nd_set (tabTo_nd l i) _ _
def tailOf (a top : L8) : Option L8 := if a == top then some [] else if Lib.hasPrefix a (top ++ [47]) then some (a.drop top.length) else none
theorem hasPrefix_iff {a b : L8} : Lib.hasPrefix a b = true ↔ ∃ s, a = b ++ s := by
 unfold Lib.hasPrefix
 constructor
 ·skip
  intro h
  have := List.isPrefixOf_iff_prefix.1 h
  obtain ⟨s, hs⟩ := this
  exact ⟨s, hs.symm⟩
 ·skip
  rintro ⟨s, rfl⟩
  exact List.isPrefixOf_iff_prefix.2 (List.prefix_append _ _)
theorem tail_some {a top s : L8} : tailOf a top = some s ↔ a = top ++ s ∧ (s = [] ∨ s.head? = some 47) := by
 unfold tailOf
 by_cases h : (a == top) = true
 ·skip
  rw [if_pos h]
  have h := beq_iff_eq.1 h
  subst h
  constructor
  ·skip
   intro e
   have : [] = s := by simpa using e
   subst this; exact ⟨by simp, .inl rfl⟩
  ·skip
   rintro ⟨e, _⟩
   have : s = [] := by simpa using e
   rw [this]
 ·skip
  rw [if_neg h]
  have hne : a ≠ top := fun e => h (by simp [e])
  by_cases hp : Lib.hasPrefix a (top ++ [47]) = true
  ·skip
   rw [if_pos hp]
   obtain ⟨z, rfl⟩ := hasPrefix_iff.1 hp
   have hd : (top ++ [47] ++ z).drop top.length = 47 :: z := by simp
   rw [hd]
   constructor
   ·skip
    intro e
    have : 47 :: z = s := by simpa using e
    subst this; exact ⟨by simp, .inr rfl⟩
   ·skip
    rintro ⟨e, _⟩
    rw [List.append_assoc] at e
    have := List.append_cancel_left e
    rw [← this]; rfl
  ·skip
   rw [if_neg hp]
   constructor
   ·skip
    intro e; cases e
   ·skip
    rintro ⟨rfl, h1 | h1⟩
    ·skip
     exact absurd (by simp [h1]) hne
    ·skip
     cases s with
     | nil => cases h1
     | cons c z =>
      have : c = 47 := by simpa using h1
      subst this
      exact absurd (hasPrefix_iff.2 ⟨z, by simp⟩) hp
def movF (f : Fm) (key tu : L8) : Fm := fun n => match tailOf n tu with | some s => f (key ++ s) | none => none
def offF (f : Fm) (key : L8) : Fm := fun n => if (tailOf n key).isSome then none else f n
def orF (f g : Fm) : Fm := fun n => match f n with | some v => some v | none => g n
def prefF (f : Fm) (key tu : L8) : Fm := orF (movF f key tu) (offF f key)
end
section
open Go
theorem lk_app (t u : Tab) : lk (t ++ u) = orF (lk t) (lk u) := by
  funext k
  induction t with
  | nil => rfl
  | cons x l ih =>
    unfold orF at ih ⊢
    by_cases h : (k == x.1) = true
    · rw [List.cons_append]
      conv => lhs; unfold lk
      rw [if_pos h]
      have : lk (x :: l) k = some x.2 := by unfold lk; rw [if_pos h]
      rw [this]
    · rw [List.cons_append]
      conv => lhs; unfold lk
      rw [if_neg h, ih]
      have : lk (x :: l) k = lk l k := by conv => lhs; unfold lk
                                          rw [if_neg h]
      rw [this]
theorem nd_app {t u : Tab} (h : ndT (t ++ u)) : ndT t ∧ ndT u ∧ ∀ k, k ∈ t.map (·.1) → k ∉ u.map (·.1) := by
 unfold ndT at h ⊢
 rw [List.map_append, List.nodup_append] at h
 exact ⟨h.1, h.2.1, fun k h1 h2 => h.2.2 k h1 k h2 rfl⟩
theorem lk_snoc {dn : Tab} {x : L8 × L8} (h : ndT (dn ++ [x])) : lk (dn ++ [x]) = setF (lk dn) x.1 x.2 := by
 obtain ⟨h1, _, h3⟩ := nd_app h
 rw [lk_app]
 funext k
 unfold orF setF
 by_cases hk : (k == x.1) = true
 ·skip
  rw [if_pos hk]
  have hk := beq_iff_eq.1 hk
  subst hk
  have : lk dn x.1 = none := lk_none.2 fun hm => h3 _ hm (by simp)
  rw [this]
  simp [lk]
 ·skip
  rw [if_neg hk]
  cases lk dn k with
  | none => simp only [lk]; rw [if_neg hk]
  | some v => rfl
theorem nd_part {l0 dn rest : Tab} {y : L8 × L8} (h : ndT l0) (hp : l0.Perm (dn ++ y :: rest)) : ndT (dn ++ [y]) := by
 have := nd_perm h hp
 rw [show dn ++ y :: rest = (dn ++ [y]) ++ rest by simp] at this
 exact (nd_app this).1
theorem mov_t {dn : Tab} {x : L8 × L8} {moved : Tab} {key tu s : L8} (h : ndT (dn ++ [x])) (hm : lk moved = movF (lk dn) key tu) (ht : tailOf x.1 key = some s) : lk (setL beqS moved (tu ++ s) x.2) = movF (lk (dn ++ [x])) key tu := by
 rw [lk_set, hm, lk_snoc h]
 have hx := (tail_some.1 ht).1
 funext n
 unfold setF movF
 by_cases hn : (n == tu ++ s) = true
 ·skip
  rw [if_pos hn]
  have hn := beq_iff_eq.1 hn
  have : tailOf n tu = some s := tail_some.2 ⟨hn, (tail_some.1 ht).2⟩
  rw [this]
  simp [hx]
 ·skip
  rw [if_neg hn]
  cases hq : tailOf n tu with
  | none => rfl
  | some s' =>
   simp only
   have hn' := (tail_some.1 hq).1
   rw [if_neg]
   intro he
   have he := beq_iff_eq.1 he
   rw [hx] at he
   have := List.append_cancel_left he
   subst this
   exact hn (by simp [hn'])
theorem mov_f {dn : Tab} {x : L8 × L8} {moved : Tab} {key tu : L8} (h : ndT (dn ++ [x])) (hm : lk moved = movF (lk dn) key tu) (ht : tailOf x.1 key = none) : lk moved = movF (lk (dn ++ [x])) key tu := by
 rw [hm, lk_snoc h]
 funext n
 unfold movF setF
 cases hq : tailOf n tu with
 | none => rfl
 | some s' =>
  simp only
  rw [if_neg]
  intro he
  have he := beq_iff_eq.1 he
  have : tailOf x.1 key = some s' := tail_some.2 ⟨he.symm, (tail_some.1 hq).2⟩
  rw [ht] at this; cases this
theorem copy_t {dn dst t0 : Tab} {x : L8 × L8} (h : ndT (dn ++ [x])) (hm : lk dst = orF (lk dn) (lk t0)) : lk (setL beqS dst x.1 x.2) = orF (lk (dn ++ [x])) (lk t0) := by
 rw [lk_set, hm, lk_snoc h]
 funext k
 unfold setF orF
 by_cases hk : (k == x.1) = true
 ·skip
  rw [if_pos hk]; simp [hk]
 ·skip
  rw [if_neg hk]; simp [hk]
theorem lk_filter {t : Tab} (h : ndT t) (p : L8 → Bool) : lk (t.filter fun x => p x.1) = fun k => if p k then lk t k else none := by
  funext k
  induction t with
  | nil => simp [lk]
  | cons x l ih =>
    obtain ⟨h1, h2⟩ := nd_cons.1 h
    rw [List.filter_cons]
    by_cases hp : p x.1 = true
    · rw [if_pos hp]
      conv => lhs; unfold lk
      by_cases hk : (k == x.1) = true
      · rw [if_pos hk]
        rw [beq_iff_eq.1 hk, if_pos hp]
        unfold lk; simp
      · rw [if_neg hk, ih h2]
        have : lk (x :: l) k = lk l k := by conv => lhs; unfold lk
                                            rw [if_neg hk]
        rw [this]
    · rw [if_neg hp, ih h2]
      by_cases hk : (k == x.1) = true
      · rw [beq_iff_eq.1 hk, if_neg hp, if_neg hp]
      · have : lk (x :: l) k = lk l k := by conv => lhs; unfold lk
                                            rw [if_neg hk]
        rw [this]
theorem off_filter {t : Tab} (h : ndT t) (key : L8) : lk (t.filter fun x => (tailOf x.1 key).isNone) = offF (lk t) key := by
 rw [lk_filter h fun k => (tailOf k key).isNone]
 funext k
 unfold offF
 cases tailOf k key <;> rfl
theorem nd_filter {t : Tab} (h : ndT t) (p : L8 × L8 → Bool) : ndT (t.filter p) := nd_sub h (List.filter_sublist)
theorem off_end {l0 dn tab : Tab} {key : L8} (h : ndT l0) (hp : l0.Perm dn) (hk : tab.Perm (dn.filter fun x => (tailOf x.1 key).isNone)) : ndT tab ∧ lk tab = offF (lk l0) key := by
 have h1 := nd_perm h hp
 have h2 : ndT (dn.filter fun x => (tailOf x.1 key).isNone) := nd_filter h1 _
 have h3 := nd_perm h2 hk.symm
 exact ⟨h3, by rw [lk_perm h3 h2 hk, off_filter h1, lk_perm h h1 hp]⟩
theorem kept_t {dn : Tab} {y : L8 × L8} {key : L8} {s : L8} (h : tailOf y.1 key = some s) : (dn ++ [y]).filter (fun x => (tailOf x.1 key).isNone) = dn.filter fun x => (tailOf x.1 key).isNone := by
 rw [List.filter_append]; simp [h]
theorem kept_f {dn : Tab} {y : L8 × L8} {key : L8} (h : tailOf y.1 key = none) : (dn ++ [y]).filter (fun x => (tailOf x.1 key).isNone) = (dn.filter fun x => (tailOf x.1 key).isNone) ++ [y] := by
 rw [List.filter_append]; simp [h]
theorem any_perm {α : Type} {l l' : List α} (p : α → Bool) (h : l.Perm l') : l.any p = l'.any p := by
 rw [Bool.eq_iff_iff, List.any_eq_true, List.any_eq_true]
 exact ⟨fun ⟨x, h1, h2⟩ => ⟨x, h.mem_iff.1 h1, h2⟩, fun ⟨x, h1, h2⟩ => ⟨x, h.mem_iff.2 h1, h2⟩⟩
structure Rul where
 kd : Int
 k : L8
 tu : L8
 old : L8
 nu : L8
def Rul.z : Rul := ⟨0, [], [], [], []⟩
def rulD (r : Rul) : List D := [.int .i64 r.kd, .str r.k, .str r.tu, .str r.old, .str r.nu]
structure EqT (t u : Tab) : Prop where
 l : ndT t
 r : ndT u
 e : lk t = lk u
theorem EqT.refl {t : Tab} (h : ndT t) : EqT t t := ⟨h, h, rfl⟩
theorem EqT.perm {t u : Tab} (h : EqT t u) : t.Perm u := perm_lk h.l h.r h.e
theorem EqT.len {t u : Tab} (h : EqT t u) : t.length = u.length := h.perm.length_eq
theorem EqT.trans {t u v : Tab} (h : EqT t u) (k : EqT u v) : EqT t v := ⟨h.l, k.r, h.e.trans k.e⟩
def movT (t : Tab) (key tu : L8) : Tab := t.filterMap fun x => (tailOf x.1 key).map fun s => (tu ++ s, x.2)
def copyT (t u : Tab) : Tab := t.foldl (fun a x => setL beqS a x.1 x.2) u
def prefT (t : Tab) (key tu : L8) : Tab := copyT (movT t key tu) (t.filter fun x => (tailOf x.1 key).isNone)
theorem mov_keys {t : Tab} {key tu k : L8} : k ∈ (movT t key tu).map (·.1) ↔ ∃ x ∈ t, ∃ s, tailOf x.1 key = some s ∧ k = tu ++ s := by
 unfold movT
 rw [List.mem_map]
 constructor
 ·skip
  rintro ⟨y, hy, rfl⟩
  obtain ⟨x, hx, he⟩ := List.mem_filterMap.1 hy
  obtain ⟨s, hs, rfl⟩ := Option.map_eq_some_iff.1 he
  exact ⟨x, hx, s, hs, rfl⟩
 ·skip
  rintro ⟨x, hx, s, hs, rfl⟩
  exact ⟨(tu ++ s, x.2), List.mem_filterMap.2 ⟨x, hx, by rw [hs]; rfl⟩, rfl⟩
theorem nd_mov {t : Tab} (h : ndT t) (key tu : L8) : ndT (movT t key tu) := by
 induction t with
 | nil => exact nd_nil
 | cons x l ih =>
  obtain ⟨h1, h2⟩ := nd_cons.1 h
  unfold movT
  rw [List.filterMap_cons]
  cases ht : tailOf x.1 key with
  | none => exact ih h2
  | some s =>
   refine nd_cons.2 ⟨fun hm => h1 ?_, ih h2⟩
   obtain ⟨y, hy, s', hs', he⟩ := mov_keys.1 hm
   have := List.append_cancel_left he
   subst this
   rw [(tail_some.1 ht).1, ← (tail_some.1 hs').1]
   exact List.mem_map.2 ⟨y, hy, rfl⟩
theorem lk_mov {t : Tab} (h : ndT t) (key tu : L8) : lk (movT t key tu) = movF (lk t) key tu := by
 funext n
 have hm := nd_mov h key tu
 cases hv : movF (lk t) key tu n with
 | some v =>
  unfold movF at hv
  cases hq : tailOf n tu with
  | none => rw [hq] at hv; cases hv
  | some s =>
   rw [hq] at hv
   have h1 := (lk_mem h).1 hv
   refine (lk_mem hm).2 (List.mem_filterMap.2 ⟨_, h1, ?_⟩)
   have h2 : tailOf (key ++ s) key = some s := tail_some.2 ⟨rfl, (tail_some.1 hq).2⟩
   simp [h2, (tail_some.1 hq).1]
 | none =>
  refine lk_none.2 fun hk => ?_
  obtain ⟨x, hx, s, hs, rfl⟩ := mov_keys.1 hk
  have h2 : tailOf (tu ++ s) tu = some s := tail_some.2 ⟨rfl, (tail_some.1 hs).2⟩
  unfold movF at hv
  rw [h2] at hv
  simp only at hv
  rw [lk_none] at hv
  exact hv (by rw [← (tail_some.1 hs).1]; exact List.mem_map.2 ⟨x, hx, rfl⟩)
theorem nd_copy : ∀ (t : Tab) {u : Tab}, ndT u → ndT (copyT t u)
 | [], u, h => h
 | x :: t, u, h => nd_copy t (nd_set h _ _)
theorem lk_copy : ∀ (t : Tab) {u : Tab}, ndT t → lk (copyT t u) = orF (lk t) (lk u)
  | [], u, _ => rfl
  | x :: t, u, h => by
    obtain ⟨h1, h2⟩ := nd_cons.1 h
    show lk (copyT t (setL beqS u x.1 x.2)) = _
    rw [lk_copy t h2, lk_set]
    funext k
    unfold orF setF
    by_cases hk : (k == x.1) = true
    · rw [if_pos hk]
      have : lk t k = none := lk_none.2 (by rw [beq_iff_eq.1 hk]; exact h1)
      have h3 : lk (x :: t) k = some x.2 := by unfold lk; rw [if_pos hk]
      rw [this, h3]
    · rw [if_neg hk]
      have h3 : lk (x :: t) k = lk t k := by conv => lhs; unfold lk
                                             rw [if_neg hk]
      rw [h3]
theorem nd_pref {t : Tab} (h : ndT t) (key tu : L8) : ndT (prefT t key tu) := nd_copy _ (nd_filter h _)
theorem lk_pref {t : Tab} (h : ndT t) (key tu : L8) : lk (prefT t key tu) = prefF (lk t) key tu := by
 unfold prefT prefF
 rw [lk_copy _ (nd_mov h key tu), lk_mov h, off_filter h]
def doT (t : Tab) (r : Rul) : Tab :=
 if r.kd == 1 then (if hasL beqS t r.k then setL beqS (delL beqS t r.k) r.tu (getL beqS [] t r.k) else t)
 else if r.kd == 2 then prefT t r.k r.tu
 else if r.kd == 3 then (if hasL beqS t r.k then setL beqS t r.tu (getL beqS [] t r.k) else t)
 else if r.kd == 4 then setL beqS t r.k r.nu
 else if r.kd == 5 then (if hasL beqS t r.k then t else setL beqS t r.k r.nu)
 else if r.kd == 6 then delL beqS t r.k
 else if hasL beqS t r.k && getL beqS [] t r.k == r.old then setL beqS t r.k r.nu
 else if hasL beqS t r.k && getL beqS [] t r.k == r.nu && r.kd == 8 then setL beqS t r.k r.old
 else t
theorem nd_do {t : Tab} (h : ndT t) (r : Rul) : ndT (doT t r) := by
 unfold doT
 repeat' split
 all_goals first | exact h | exact nd_set (nd_del h _) _ _ | exact nd_pref h _ _ | exact nd_set h _ _ | exact nd_del h _
theorem EqT.has {t u : Tab} (h : EqT t u) (k : L8) : hasL beqS t k = hasL beqS u k := by rw [has_lk, has_lk, h.e]
theorem EqT.get {t u : Tab} (h : EqT t u) (k : L8) : getL beqS [] t k = getL beqS [] u k := by rw [get_lk, get_lk, h.e]
theorem EqT.set {t u : Tab} (h : EqT t u) (k v : L8) : EqT (setL beqS t k v) (setL beqS u k v) := ⟨nd_set h.l _ _, nd_set h.r _ _, by rw [lk_set, lk_set, h.e]⟩
theorem EqT.del {t u : Tab} (h : EqT t u) (k : L8) : EqT (delL beqS t k) (delL beqS u k) := ⟨nd_del h.l _, nd_del h.r _, by rw [lk_del h.l, lk_del h.r, h.e]⟩
theorem EqT.pref {t u : Tab} (h : EqT t u) (key tu : L8) : EqT (prefT t key tu) (prefT u key tu) := ⟨nd_pref h.l _ _, nd_pref h.r _ _, by rw [lk_pref h.l, lk_pref h.r, h.e]⟩
theorem EqT.do {t u : Tab} (h : EqT t u) (r : Rul) : EqT (doT t r) (doT u r) := by
 unfold doT
 simp only [h.has, h.get]
 repeat' split
 all_goals first | exact h | exact (h.del _).set _ _ | exact h.pref _ _ | exact h.set _ _ | exact h.del _
theorem EqT.any {t u : Tab} (h : EqT t u) (p : L8 × L8 → Bool) : t.any p = u.any p := any_perm p h.perm
theorem EqT.list {t u : Tab} (h : EqT t u) : listT t = listT u := listT_lk h.l h.r h.e
end
section
open Go
def usTu (kd : Int) : Bool := kd == 1 || kd == 2 || kd == 3
def usOld (kd : Int) : Bool := kd == 7 || kd == 8
def usNew (kd : Int) : Bool := kd == 4 || kd == 5 || kd == 7 || kd == 8
def belowB (a b : L8) : Bool := Lib.hasPrefix a (b ++ [47])
def ruleC (r : Rul) : Int :=
 if decide (r.kd < 1) || decide (r.kd > 8) then 1
 else if !pathB r.k || usTu r.kd && !pathB r.tu then 5
 else if !usTu r.kd && !(r.tu == []) || !usOld r.kd && !(r.old == []) || !usNew r.kd && !(r.nu == []) || !valueB r.old || !valueB r.nu then 2
 else if usTu r.kd && r.k == r.tu then 11
 else if r.kd == 2 && (belowB r.k r.tu || belowB r.tu r.k) then 13
 else if usOld r.kd && r.old == r.nu then 11
 else 0
theorem path_len {s : L8} (h : pathB s = true) : s.length ≤ 200 := by
 unfold pathB at h
 rw [Bool.and_eq_true] at h
 have := of_decide_eq_true h.2
 omega
theorem path_nil : pathB [] = false := by decide
structure RulOk (r : Rul) : Prop where
 lo : 1 ≤ r.kd
 hi : r.kd ≤ 8
 k : pathB r.k = true
 tu : usTu r.kd = true → pathB r.tu = true
 tu0 : usTu r.kd = false → r.tu = []
 old0 : usOld r.kd = false → r.old = []
 nu0 : usNew r.kd = false → r.nu = []
 vo : valueB r.old = true
 vn : valueB r.nu = true
theorem rul_ok {r : Rul} (h : ruleC r = 0) : RulOk r := by
 unfold ruleC at h
 repeat' split at h
 all_goals first | (cases h; done) | skip
 rename_i h1 h2 h3 h4 h5 h6
 simp only [Bool.or_eq_true, Bool.and_eq_true, decide_eq_true_eq, Bool.not_eq_true', not_or, not_and, beq_eq_false_iff_ne, ne_eq, Bool.not_eq_false] at h1 h2 h3
 refine ⟨by omega, by omega, h2.1, h2.2, fun h => ?_, fun h => ?_, fun h => ?_, h3.1.2, h3.2⟩
 ·skip
  exact Classical.not_not.1 (h3.1.1.1.1 h)
 ·skip
  exact Classical.not_not.1 (h3.1.1.1.2 h)
 ·skip
  exact Classical.not_not.1 (h3.1.1.2 h)
theorem RulOk.len {r : Rul} (h : RulOk r) : r.k.length ≤ 200 ∧ r.tu.length ≤ 200 := by
 refine ⟨path_len h.k, ?_⟩
 cases hu : usTu r.kd with
 | true => exact path_len (h.tu hu)
 | false => rw [h.tu0 hu]; simp
def allP (t : Tab) : Bool := t.all fun x => pathB x.1
def badP (t : Tab) (key tu : L8) : Bool := (movT t key tu).any fun x => !pathB x.1
def stepE (t : Tab) (r : Rul) : Int := if r.kd == 2 && badP t r.k r.tu then 5 else if decide (((doT t r).length : Int) > 2000) then 4 else 0
def stepR (t : Tab) (r : Rul) : Int := if (doT t r).any (fun x => !pathB x.1) then 5 else if decide (((doT t r).length : Int) > 2000) then 4 else 0
theorem all_keys {t : Tab} : allP t = true ↔ ∀ k ∈ t.map (·.1), pathB k = true := by
 unfold allP
 rw [List.all_eq_true]
 constructor
 ·skip
  intro h k hk
  obtain ⟨x, hx, rfl⟩ := List.mem_map.1 hk
  exact h x hx
 ·skip
  intro h x hx
  exact h _ (List.mem_map.2 ⟨x, hx, rfl⟩)
theorem any_not {t : Tab} : t.any (fun x => !pathB x.1) = !allP t := by
 unfold allP
 rw [List.not_all_eq_any_not]
theorem keys_copy {t : Tab} : ∀ {u : Tab} {k : L8}, k ∈ (copyT t u).map (·.1) ↔ k ∈ t.map (·.1) ∨ k ∈ u.map (·.1) := by
 induction t with
 | nil => intro u k; simp [copyT]
 | cons x l ih =>
  intro u k
  show k ∈ (copyT l (setL beqS u x.1 x.2)).map (·.1) ↔ _
  rw [ih, keys_set]
  simp only [List.map_cons, List.mem_cons]
  constructor
  ·skip
   rintro (h | h | h)
   ·skip
    exact .inl (.inr h)
   ·skip
    exact .inl (.inl h)
   ·skip
    exact .inr h
  ·skip
   rintro ((h | h) | h)
   ·skip
    exact .inr (.inl h)
   ·skip
    exact .inl h
   ·skip
    exact .inr (.inr h)
theorem keys_del {t : Tab} {k q : L8} (h : q ∈ (delL beqS t k).map (·.1)) : q ∈ t.map (·.1) := ((del_sub t k).map _).subset h
theorem pref_all {t : Tab} (h : allP t = true) (key tu : L8) : allP (prefT t key tu) = !badP t key tu := by
 unfold badP
 rw [any_not, Bool.not_not, Bool.eq_iff_iff, all_keys, all_keys]
 unfold prefT
 constructor
 ·skip
  exact fun h1 k hk => h1 k (keys_copy.2 (.inl hk))
 ·skip
  intro h1 k hk
  rcases keys_copy.1 hk with h2 | h2
  ·skip
   exact h1 k h2
  ·skip
   obtain ⟨x, hx, rfl⟩ := List.mem_map.1 h2
   exact all_keys.1 h _ (List.mem_map.2 ⟨x, (List.mem_filter.1 hx).1, rfl⟩)
theorem set_all {t : Tab} (h : allP t = true) {k v : L8} (hk : pathB k = true) : allP (setL beqS t k v) = true := by
 rw [all_keys] at *
 intro q hq
 rcases (keys_set t k v q).1 hq with h1 | h1
 ·skip
  rw [h1]; exact hk
 ·skip
  exact h q h1
theorem del_all {t : Tab} (h : allP t = true) (k : L8) : allP (delL beqS t k) = true := by
 rw [all_keys] at *
 exact fun q hq => h q (keys_del hq)
theorem do_all {t : Tab} (h : allP t = true) {r : Rul} (hr : RulOk r) : allP (doT t r) = !(r.kd == 2 && badP t r.k r.tu) := by
 have hk := hr.k
 unfold doT
 by_cases h1 : (r.kd == 1) = true
 ·skip
  have e := beq_iff_eq.1 h1
  have ht : pathB r.tu = true := hr.tu (by rw [e]; rfl)
  rw [if_pos h1]
  have h2 : (r.kd == 2) = false := by rw [e]; rfl
  rw [h2]
  split
  ·skip
   exact set_all (del_all h _) ht
  ·skip
   exact h
 ·skip
  rw [if_neg h1]
  by_cases h2 : (r.kd == 2) = true
  ·skip
   rw [if_pos h2, pref_all h, h2]; rfl
  ·skip
   rw [if_neg h2]
   have h2 : (r.kd == 2) = false := Bool.eq_false_iff.2 h2
   rw [h2]
   show _ = true
   by_cases h3 : (r.kd == 3) = true
   ·skip
    have e := beq_iff_eq.1 h3
    have ht : pathB r.tu = true := hr.tu (by rw [e]; rfl)
    rw [if_pos h3]
    split
    ·skip
     exact set_all h ht
    ·skip
     exact h
   ·skip
    rw [if_neg h3]
    repeat' split
    all_goals first | exact h | exact set_all h hk | exact del_all h _
theorem step_eq {t : Tab} (h : allP t = true) {r : Rul} (hr : RulOk r) : stepR t r = stepE t r := by
 unfold stepR stepE
 rw [any_not, do_all h hr, Bool.not_not]
theorem step_all {t : Tab} (h : allP t = true) {r : Rul} (hr : RulOk r) (hs : stepE t r = 0) : allP (doT t r) = true ∧ (doT t r).length ≤ 2000 := by
 unfold stepE at hs
 split at hs
 ·skip
  cases hs
 ·skip
  rename_i h1
  split at hs
  ·skip
   cases hs
  ·skip
   rename_i h2
   refine ⟨by rw [do_all h hr, Bool.eq_false_iff.2 h1]; rfl, ?_⟩
   have := h2
   simp only [decide_eq_true_eq] at this
   omega
theorem EqT.allP {t u : Tab} (h : EqT t u) : allP t = allP u := by
 have := h.any (fun x => !pathB x.1)
 rw [any_not, any_not] at this
 simpa using this
theorem EqT.mov {t u : Tab} (h : EqT t u) (key tu : L8) : EqT (movT t key tu) (movT u key tu) := ⟨nd_mov h.l _ _, nd_mov h.r _ _, by rw [lk_mov h.l, lk_mov h.r, h.e]⟩
theorem EqT.bad {t u : Tab} (h : EqT t u) (key tu : L8) : badP t key tu = badP u key tu := (h.mov key tu).any _
theorem EqT.stepE {t u : Tab} (h : EqT t u) (r : Rul) : stepE t r = stepE u r := by
 unfold Go.Proofs.YtpelfildfidnbaaGreatDoor.stepE
 rw [h.bad, (h.do r).len]
def runT (ss : List Stg) (rs : List Rul) : Nat → Tab
 | 0 => tabOf ss
 | i + 1 => doT (runT ss rs i) (rs.getD i Rul.z)
theorem run_nd (ss : List Stg) (rs : List Rul) : ∀ i, ndT (runT ss rs i)
 | 0 => tabTo_nd _ _
 | i + 1 => nd_do (run_nd ss rs i) _
def rulesE (rs : List Rul) : Int := firstNe (rs.map ruleC)
def runF (ss : List Stg) (rs : List Rul) : Int := firstNe [listE pathB ss, if decide ((ss.length : Int) > 2000) then 4 else 0, if decide ((rs.length : Int) > 100) then 4 else 0, rulesE rs]
def stepsE (ss : List Stg) (rs : List Rul) : Int := firstNe ((List.range rs.length).map fun i => stepE (runT ss rs i) (rs.getD i Rul.z))
def runP (ss : List Stg) (rs : List Rul) : List Stg × Int :=
 if runF ss rs != 0 then ([], runF ss rs) else if stepsE ss rs != 0 then ([], stepsE ss rs) else (listT (runT ss rs rs.length), 0)
end
section
open Go
open Go.RowKit
attribute [local irreducible] thenK blockK W
attribute [local irreducible] rangeB pathB nameB valueB firstNe
structure RulB (r : Rul) : Prop where
 k : r.k.length ≤ 2000000
 tu : r.tu.length ≤ 2000000
 old : r.old.length ≤ 2000000
 nu : r.nu.length ≤ 2000000
theorem RulB.z : RulB Rul.z := ⟨by decide, by decide, by decide, by decide⟩
theorem pc_uses (x : Int) :
  PureCall Tryz.prog J 100 [.one (.d (.int .i64 x))] (.tup [.one (.d (.bool (usTu x))), .one (.d (.bool (usOld x))), .one (.d (.bool (usNew x)))]) := by
 refine PureCall.of_body tOk (fn := Tryz.f100) Tryz.func100 (by kernel_rfl) rfl (Nat.le_of_ble_eq_true rfl) (fun E => ?_)
 iterate 15 first|refine Yp rfl ?_|apply Yb|apply Y1|apply Yn|apply Ys
 refine W.cond rfl (fun c1=>?_) fun c1=>?_
 ·skip
  apply Yk
  apply Yn
  refine W.cond rfl (fun c2=>?_) fun c2=>?_
  ·skip
   iterate 8 first|refine Yp rfl ?_|apply Yu|apply Yv|apply Yt|apply Y1|apply Yn
   exact Yz rfl rfl rfl (by simp_all [usTu, usOld, usNew])
  apply Ys
  apply Y1
  iterate 2 refine Yp rfl ?_
  apply Yn
  refine W.cond rfl (fun c3=>?_) fun c3=>?_
  ·skip
   apply Yk
   apply Yn
   refine W.cond rfl (fun c4=>?_) fun c4=>?_
   ·skip
    iterate 8 first|refine Yp rfl ?_|apply Yu|apply Yv|apply Yt|apply Y1|apply Yn
    exact Yz rfl rfl rfl (by simp_all [usTu, usOld, usNew])
   iterate 5 first|refine Yp rfl ?_|apply Y1|apply Yn|apply Ys
   refine W.cond rfl (fun c5=>?_) fun c5=>?_
   ·skip
    apply Yk
    apply Yn
    refine W.cond rfl (fun c6=>?_) fun c6=>?_
    ·skip
     iterate 8 first|refine Yp rfl ?_|apply Yu|apply Yv|apply Yt|apply Y1|apply Yn
     exact Yz rfl rfl rfl (by simp_all [usTu, usOld, usNew])
    iterate 8 first|refine Yp rfl ?_|apply Yt|apply Yw|apply Yk|apply Y3|apply Yn
    exact Yz rfl rfl rfl (by simp_all [usTu, usOld, usNew])
   apply Yr
   iterate 2 refine Yp rfl ?_
   apply Yn
   refine W.cond rfl (fun c7=>?_) fun c7=>?_
   ·skip
    iterate 8 first|refine Yp rfl ?_|apply Yu|apply Yv|apply Yt|apply Y1|apply Yn
    exact Yz rfl rfl rfl (by simp_all [usTu, usOld, usNew])
   iterate 8 first|refine Yp rfl ?_|apply Yt|apply Yw|apply Yk|apply Y3|apply Yn
   exact Yz rfl rfl rfl (by simp_all [usTu, usOld, usNew])
  apply Yr
  iterate 2 refine Yp rfl ?_
  apply Yn
  refine W.cond rfl (fun c8=>?_) fun c8=>?_
  ·skip
   iterate 8 first|refine Yp rfl ?_|apply Yu|apply Yv|apply Yt|apply Y1|apply Yn
   exact Yz rfl rfl rfl (by simp_all [usTu, usOld, usNew])
  apply Ys
  apply Y1
  iterate 2 refine Yp rfl ?_
  apply Yn
  refine W.cond rfl (fun c9=>?_) fun c9=>?_
  ·skip
   apply Yk
   apply Yn
   refine W.cond rfl (fun c10=>?_) fun c10=>?_
   ·skip
    iterate 8 first|refine Yp rfl ?_|apply Yu|apply Yv|apply Yt|apply Y1|apply Yn
    exact Yz rfl rfl rfl (by simp_all [usTu, usOld, usNew])
   iterate 8 first|refine Yp rfl ?_|apply Yt|apply Yw|apply Yk|apply Y3|apply Yn
   exact Yz rfl rfl rfl (by simp_all [usTu, usOld, usNew])
  apply Yr
  iterate 2 refine Yp rfl ?_
  apply Yn
  refine W.cond rfl (fun c11=>?_) fun c11=>?_
  ·skip
   iterate 8 first|refine Yp rfl ?_|apply Yu|apply Yv|apply Yt|apply Y1|apply Yn
   exact Yz rfl rfl rfl (by simp_all [usTu, usOld, usNew])
  iterate 8 first|refine Yp rfl ?_|apply Yt|apply Yw|apply Yk|apply Y3|apply Yn
  exact Yz rfl rfl rfl (by simp_all [usTu, usOld, usNew])
 apply Y1
 iterate 2 refine Yp rfl ?_
 apply Yn
 refine W.cond rfl (fun c12=>?_) fun c12=>?_
 ·skip
  apply Yk
  apply Yn
  refine W.cond rfl (fun c13=>?_) fun c13=>?_
  ·skip
   iterate 8 first|refine Yp rfl ?_|apply Yu|apply Yv|apply Yt|apply Y1|apply Yn
   exact Yz rfl rfl rfl (by simp_all [usTu, usOld, usNew])
  apply Ys
  apply Y1
  iterate 2 refine Yp rfl ?_
  apply Yn
  refine W.cond rfl (fun c14=>?_) fun c14=>?_
  ·skip
   apply Yk
   apply Yn
   refine W.cond rfl (fun c15=>?_) fun c15=>?_
   ·skip
    iterate 8 first|refine Yp rfl ?_|apply Yu|apply Yv|apply Yt|apply Y1|apply Yn
    exact Yz rfl rfl rfl (by simp_all [usTu, usOld, usNew])
   iterate 5 first|refine Yp rfl ?_|apply Y1|apply Yn|apply Ys
   refine W.cond rfl (fun c16=>?_) fun c16=>?_
   ·skip
    apply Yk
    apply Yn
    refine W.cond rfl (fun c17=>?_) fun c17=>?_
    ·skip
     iterate 8 first|refine Yp rfl ?_|apply Yu|apply Yv|apply Yt|apply Y1|apply Yn
     exact Yz rfl rfl rfl (by simp_all [usTu, usOld, usNew])
    iterate 8 first|refine Yp rfl ?_|apply Yt|apply Yw|apply Yk|apply Y3|apply Yn
    exact Yz rfl rfl rfl (by simp_all [usTu, usOld, usNew])
   apply Yr
   iterate 2 refine Yp rfl ?_
   apply Yn
   refine W.cond rfl (fun c18=>?_) fun c18=>?_
   ·skip
    iterate 8 first|refine Yp rfl ?_|apply Yu|apply Yv|apply Yt|apply Y1|apply Yn
    exact Yz rfl rfl rfl (by simp_all [usTu, usOld, usNew])
   iterate 8 first|refine Yp rfl ?_|apply Yt|apply Yw|apply Yk|apply Y3|apply Yn
   exact Yz rfl rfl rfl (by simp_all [usTu, usOld, usNew])
  apply Yr
  iterate 2 refine Yp rfl ?_
  apply Yn
  refine W.cond rfl (fun c19=>?_) fun c19=>?_
  ·skip
   iterate 8 first|refine Yp rfl ?_|apply Yu|apply Yv|apply Yt|apply Y1|apply Yn
   exact Yz rfl rfl rfl (by simp_all [usTu, usOld, usNew])
  apply Ys
  apply Y1
  iterate 2 refine Yp rfl ?_
  apply Yn
  refine W.cond rfl (fun c20=>?_) fun c20=>?_
  ·skip
   apply Yk
   apply Yn
   refine W.cond rfl (fun c21=>?_) fun c21=>?_
   ·skip
    iterate 8 first|refine Yp rfl ?_|apply Yu|apply Yv|apply Yt|apply Y1|apply Yn
    exact Yz rfl rfl rfl (by simp_all [usTu, usOld, usNew])
   iterate 8 first|refine Yp rfl ?_|apply Yt|apply Yw|apply Yk|apply Y3|apply Yn
   exact Yz rfl rfl rfl (by simp_all [usTu, usOld, usNew])
  apply Yr
  iterate 2 refine Yp rfl ?_
  apply Yn
  refine W.cond rfl (fun c22=>?_) fun c22=>?_
  ·skip
   iterate 8 first|refine Yp rfl ?_|apply Yu|apply Yv|apply Yt|apply Y1|apply Yn
   exact Yz rfl rfl rfl (by simp_all [usTu, usOld, usNew])
  iterate 8 first|refine Yp rfl ?_|apply Yt|apply Yw|apply Yk|apply Y3|apply Yn
  exact Yz rfl rfl rfl (by simp_all [usTu, usOld, usNew])
 apply Yr
 iterate 2 refine Yp rfl ?_
 apply Yn
 refine W.cond rfl (fun c23=>?_) fun c23=>?_
 ·skip
  iterate 8 first|refine Yp rfl ?_|apply Yu|apply Yv|apply Yt|apply Y1|apply Yn
  exact Yz rfl rfl rfl (by simp_all [usTu, usOld, usNew])
 apply Ys
 apply Y1
 iterate 2 refine Yp rfl ?_
 apply Yn
 refine W.cond rfl (fun c24=>?_) fun c24=>?_
 ·skip
  apply Yk
  apply Yn
  refine W.cond rfl (fun c25=>?_) fun c25=>?_
  ·skip
   iterate 8 first|refine Yp rfl ?_|apply Yu|apply Yv|apply Yt|apply Y1|apply Yn
   exact Yz rfl rfl rfl (by simp_all [usTu, usOld, usNew])
  apply Ys
  apply Y1
  iterate 2 refine Yp rfl ?_
  apply Yn
  refine W.cond rfl (fun c26=>?_) fun c26=>?_
  ·skip
   apply Yk
   apply Yn
   refine W.cond rfl (fun c27=>?_) fun c27=>?_
   ·skip
    iterate 8 first|refine Yp rfl ?_|apply Yu|apply Yv|apply Yt|apply Y1|apply Yn
    exact Yz rfl rfl rfl (by simp_all [usTu, usOld, usNew])
   iterate 8 first|refine Yp rfl ?_|apply Yt|apply Yw|apply Yk|apply Y3|apply Yn
   exact Yz rfl rfl rfl (by simp_all [usTu, usOld, usNew])
  apply Yr
  iterate 2 refine Yp rfl ?_
  apply Yn
  refine W.cond rfl (fun c28=>?_) fun c28=>?_
  ·skip
   iterate 8 first|refine Yp rfl ?_|apply Yu|apply Yv|apply Yt|apply Y1|apply Yn
   exact Yz rfl rfl rfl (by simp_all [usTu, usOld, usNew])
  iterate 8 first|refine Yp rfl ?_|apply Yt|apply Yw|apply Yk|apply Y3|apply Yn
  exact Yz rfl rfl rfl (by simp_all [usTu, usOld, usNew])
 apply Yr
 iterate 2 refine Yp rfl ?_
 apply Yn
 refine W.cond rfl (fun c29=>?_) fun c29=>?_
 ·skip
  iterate 8 first|refine Yp rfl ?_|apply Yu|apply Yv|apply Yt|apply Y1|apply Yn
  exact Yz rfl rfl rfl (by simp_all [usTu, usOld, usNew])
 apply Ys
 apply Y1
 iterate 2 refine Yp rfl ?_
 apply Yn
 refine W.cond rfl (fun c30=>?_) fun c30=>?_
 ·skip
  apply Yk
  apply Yn
  refine W.cond rfl (fun c31=>?_) fun c31=>?_
  ·skip
   iterate 8 first|refine Yp rfl ?_|apply Yu|apply Yv|apply Yt|apply Y1|apply Yn
   exact Yz rfl rfl rfl (by simp_all [usTu, usOld, usNew])
  iterate 8 first|refine Yp rfl ?_|apply Yt|apply Yw|apply Yk|apply Y3|apply Yn
  exact Yz rfl rfl rfl (by simp_all [usTu, usOld, usNew])
 apply Yr
 iterate 2 refine Yp rfl ?_
 apply Yn
 refine W.cond rfl (fun c32=>?_) fun c32=>?_
 ·skip
  iterate 8 first|refine Yp rfl ?_|apply Yu|apply Yv|apply Yt|apply Y1|apply Yn
  exact Yz rfl rfl rfl (by simp_all [usTu, usOld, usNew])
 apply Yk
 apply Yw
 apply Y3
 iterate 3 refine Yp rfl ?_
 apply Yn
 apply Yt
 exact Yz rfl rfl rfl (by simp_all [usTu, usOld, usNew])
theorem pc_mbelow (a b : List UInt8) (hb : b.length ≤ 1000000000) :
  PureCall Tryz.prog J 155 [.one (.d (.str a)), .one (.d (.str b))] (.one (.d (.bool (belowB a b)))) := by
 refine PureCall.of_body tOk (fn := Tryz.f155) Tryz.func155 (by kernel_rfl) rfl (Nat.le_of_ble_eq_true rfl) (fun E => ?_)
 iterate 5 first|refine Yp rfl ?_|apply Y3|apply Y1
 refine YP rfl (cat_ok (by simp [-List.getD_eq_getElem?_getD]; omega)) rfl ?_
 refine S.call rfl rfl rfl rfl rfl (pc_HasPrefix a (b ++ [47])) ?_
 refine Yp rfl ?_
 apply Yn
 apply Yt
 exact ⟨_, rfl, rfl, LeV.refl _⟩
theorem pc_CheckRule (r : Rul) (hr : RulB r) :
  PureCall Tryz.prog J 104 [.agg [.d (.int .i64 r.kd), .d (.str r.k), .d (.str r.tu), .d (.str r.old), .d (.str r.nu)]] (.one (.d (.int .i64 (ruleC r)))) := by
 obtain ⟨hr1, hr2, hr3, hr4⟩ := hr
 refine PureCall.of_body tOk (fn := Tryz.f104) Tryz.func104 (by kernel_rfl) rfl (Nat.le_of_ble_eq_true rfl) (fun E => ?_)
 iterate 15 first|refine S.pickOr tOk zOk rfl rfl tg ?_|refine Yp rfl ?_|refine Yg rfl rfl tg ?_|refine S.box rfl rfl rfl rfl ?_|apply Y1|apply Yn|apply Ys
 refine W.cond rfl (fun c1=>?_) fun c1=>?_
 ·skip
  apply Y1
  refine Yp rfl ?_
  apply Yn
  apply Yt
  apply Yu
  exact Yz rfl rfl rfl (congrArg (fun x : Int => V.one (C.d (D.int .i64 x))) ((if_pos c1) : ruleC r = _)).symm
 apply Yk
 apply Y3
 iterate 2 refine Yp rfl ?_
 refine S.call rfl rfl rfl rfl rfl (pc_uses _) ?_
 iterate 13 first|refine Yp rfl ?_|apply Yb|apply Y1|apply Ys|apply Yn
 refine S.call rfl rfl rfl rfl rfl (pc_ver_IsPath r.k (by omega)) ?_
 iterate 6 first|refine Yg rfl rfl tg ?_|refine Yp rfl ?_
 refine S.callG rfl rfl rfl rfl tg rfl rfl (fun _ => pc_ver_IsPath r.tu (by omega)) ?_
 refine Yg rfl rfl tg ?_
 refine S.pickAndG tOk zOk rfl rfl rfl tg tg ?_
 refine S.pickOr tOk zOk rfl rfl tg ?_
 refine Yp rfl ?_
 apply Yn
 refine W.cond rfl (fun c2=>?_) fun c2=>?_
 ·skip
  apply Y1
  refine Yp rfl ?_
  apply Yn
  apply Yt
  apply Yv
  apply Yu
  exact Yz rfl rfl rfl (congrArg (fun x : Int => V.one (C.d (D.int .i64 x))) (((if_neg (Bool.eq_false_iff.1 c1)).trans (if_pos c2)) : ruleC r = _)).symm
 iterate 29 first|refine S.pickOr tOk zOk rfl rfl tg ?_|refine S.pickAndG tOk zOk rfl rfl rfl tg tg ?_|refine S.pickAnd tOk zOk rfl rfl tg ?_|refine Yg rfl rfl tg ?_|refine Yp rfl ?_|apply Y1
 refine S.callG rfl rfl rfl rfl tg rfl rfl (fun _ => pc_ver_IsValue r.old (by omega)) ?_
 iterate 5 first|refine S.pickOr tOk zOk rfl rfl tg ?_|refine Yg rfl rfl tg ?_|refine Yp rfl ?_
 refine S.callG rfl rfl rfl rfl tg rfl rfl (fun _ => pc_ver_IsValue r.nu (by omega)) ?_
 refine Yg rfl rfl tg ?_
 refine S.pickOr tOk zOk rfl rfl tg ?_
 refine Yp rfl ?_
 apply Yn
 refine W.cond rfl (fun c3=>?_) fun c3=>?_
 ·skip
  apply Y1
  refine Yp rfl ?_
  apply Yn
  apply Yt
  apply Yv
  apply Yu
  exact Yz rfl rfl rfl (congrArg (fun x : Int => V.one (C.d (D.int .i64 x))) (((if_neg (Bool.eq_false_iff.1 c1)).trans ((if_neg (Bool.eq_false_iff.1 c2)).trans (if_pos c3))) : ruleC r = _)).symm
 iterate 11 first|refine S.pickAnd tOk zOk rfl rfl tg ?_|refine Yg rfl rfl tg ?_|refine Yp rfl ?_|apply Y1|apply Yn
 refine W.cond rfl (fun c4=>?_) fun c4=>?_
 ·skip
  apply Y1
  refine Yp rfl ?_
  apply Yn
  apply Yt
  apply Yv
  apply Yu
  exact Yz rfl rfl rfl (congrArg (fun x : Int => V.one (C.d (D.int .i64 x))) (((if_neg (Bool.eq_false_iff.1 c1)).trans ((if_neg (Bool.eq_false_iff.1 c2)).trans ((if_neg (Bool.eq_false_iff.1 c3)).trans (if_pos c4)))) : ruleC r = _)).symm
 iterate 9 first|refine Yg rfl rfl tg ?_|refine Yp rfl ?_|apply Y1
 refine S.callG rfl rfl rfl rfl tg rfl rfl (fun _ => pc_mbelow r.k r.tu (by omega)) ?_
 iterate 5 refine Yg rfl rfl tg ?_
 refine S.callG rfl rfl rfl rfl tg rfl rfl (fun _ => pc_mbelow r.tu r.k (by omega)) ?_
 refine S.pickOrG tOk zOk rfl rfl rfl tg tg ?_
 refine S.pickAnd tOk zOk rfl rfl tg ?_
 refine Yp rfl ?_
 apply Yn
 refine W.cond rfl (fun c5=>?_) fun c5=>?_
 ·skip
  apply Y1
  refine Yp rfl ?_
  apply Yn
  apply Yt
  apply Yv
  apply Yu
  exact Yz rfl rfl rfl (congrArg (fun x : Int => V.one (C.d (D.int .i64 x))) (((if_neg (Bool.eq_false_iff.1 c1)).trans ((if_neg (Bool.eq_false_iff.1 c2)).trans ((if_neg (Bool.eq_false_iff.1 c3)).trans ((if_neg (Bool.eq_false_iff.1 c4)).trans (if_pos c5))))) : ruleC r = _)).symm
 iterate 11 first|refine S.pickAnd tOk zOk rfl rfl tg ?_|refine Yg rfl rfl tg ?_|refine Yp rfl ?_|apply Y1|apply Yn
 refine W.cond rfl (fun c6=>?_) fun c6=>?_
 ·skip
  apply Y1
  refine Yp rfl ?_
  apply Yn
  apply Yt
  apply Yv
  apply Yu
  exact Yz rfl rfl rfl (congrArg (fun x : Int => V.one (C.d (D.int .i64 x))) (((if_neg (Bool.eq_false_iff.1 c1)).trans ((if_neg (Bool.eq_false_iff.1 c2)).trans ((if_neg (Bool.eq_false_iff.1 c3)).trans ((if_neg (Bool.eq_false_iff.1 c4)).trans ((if_neg (Bool.eq_false_iff.1 c5)).trans (if_pos c6)))))) : ruleC r = _)).symm
 apply Yk
 apply Yw
 apply Y3
 refine Yp rfl ?_
 apply Yn
 apply Yt
 exact Yz rfl rfl rfl (congrArg (fun x : Int => V.one (C.d (D.int .i64 x))) (((if_neg (Bool.eq_false_iff.1 c1)).trans ((if_neg (Bool.eq_false_iff.1 c2)).trans ((if_neg (Bool.eq_false_iff.1 c3)).trans ((if_neg (Bool.eq_false_iff.1 c4)).trans ((if_neg (Bool.eq_false_iff.1 c5)).trans (if_neg (Bool.eq_false_iff.1 c6))))))) : ruleC r = _)).symm
def ruleW (x : Int) : L8 := if x == 1 then [114, 101, 110, 97, 109, 101] else if x == 2 then [112, 114, 101, 102, 105, 120] else if x == 3 then [99, 111, 112, 121] else if x == 4 then [115, 101, 116] else if x == 5 then [100, 101, 102, 97, 117, 108, 116] else if x == 6 then [100, 114, 111, 112] else if x == 7 then [109, 97, 112] else if x == 8 then [115, 119, 97, 112] else []
theorem pc_ruleWord (x : Int) :
  PureCall Tryz.prog J 132 [.one (.d (.int .i64 x))] (.tup [.one (.d (.str (ruleW x))), .one (.d (.bool (usTu x))), .one (.d (.bool (usOld x))), .one (.d (.bool (usNew x)))]) := by
 refine PureCall.of_body tOk (fn := Tryz.f132) Tryz.func132 (by kernel_rfl) rfl (Nat.le_of_ble_eq_true rfl) (fun E => ?_)
 iterate 15 first|refine Yp rfl ?_|apply Yb|apply Y1|apply Yn|apply Ys
 refine W.cond rfl (fun c1=>?_) fun c1=>?_
 ·skip
  iterate 9 first|refine Yp rfl ?_|apply Yu|apply Yv|apply Yt|apply Y1|apply Yn
  exact Yz rfl rfl rfl (by simp_all [ruleW, usTu, usOld, usNew])
 apply Y1
 iterate 2 refine Yp rfl ?_
 apply Yn
 refine W.cond rfl (fun c2=>?_) fun c2=>?_
 ·skip
  iterate 9 first|refine Yp rfl ?_|apply Yu|apply Yv|apply Yt|apply Y1|apply Yn
  exact Yz rfl rfl rfl (by simp_all [ruleW, usTu, usOld, usNew])
 apply Y1
 iterate 2 refine Yp rfl ?_
 apply Yn
 refine W.cond rfl (fun c3=>?_) fun c3=>?_
 ·skip
  iterate 9 first|refine Yp rfl ?_|apply Yu|apply Yv|apply Yt|apply Y1|apply Yn
  exact Yz rfl rfl rfl (by simp_all [ruleW, usTu, usOld, usNew])
 apply Y1
 iterate 2 refine Yp rfl ?_
 apply Yn
 refine W.cond rfl (fun c4=>?_) fun c4=>?_
 ·skip
  iterate 9 first|refine Yp rfl ?_|apply Yu|apply Yv|apply Yt|apply Y1|apply Yn
  exact Yz rfl rfl rfl (by simp_all [ruleW, usTu, usOld, usNew])
 apply Y1
 iterate 2 refine Yp rfl ?_
 apply Yn
 refine W.cond rfl (fun c5=>?_) fun c5=>?_
 ·skip
  iterate 9 first|refine Yp rfl ?_|apply Yu|apply Yv|apply Yt|apply Y1|apply Yn
  exact Yz rfl rfl rfl (by simp_all [ruleW, usTu, usOld, usNew])
 apply Y1
 iterate 2 refine Yp rfl ?_
 apply Yn
 refine W.cond rfl (fun c6=>?_) fun c6=>?_
 ·skip
  iterate 9 first|refine Yp rfl ?_|apply Yu|apply Yv|apply Yt|apply Y1|apply Yn
  exact Yz rfl rfl rfl (by simp_all [ruleW, usTu, usOld, usNew])
 apply Y1
 iterate 2 refine Yp rfl ?_
 apply Yn
 refine W.cond rfl (fun c7=>?_) fun c7=>?_
 ·skip
  iterate 9 first|refine Yp rfl ?_|apply Yu|apply Yv|apply Yt|apply Y1|apply Yn
  exact Yz rfl rfl rfl (by simp_all [ruleW, usTu, usOld, usNew])
 apply Y1
 iterate 2 refine Yp rfl ?_
 apply Yn
 refine W.cond rfl (fun c8=>?_) fun c8=>?_
 ·skip
  iterate 9 first|refine Yp rfl ?_|apply Yu|apply Yv|apply Yt|apply Y1|apply Yn
  exact Yz rfl rfl rfl (by simp_all [ruleW, usTu, usOld, usNew])
 apply Yk
 apply Yw
 apply Y3
 iterate 4 refine Yp rfl ?_
 apply Yn
 apply Yt
 exact Yz rfl rfl rfl (by simp_all [ruleW, usTu, usOld, usNew])
theorem word_none (x : Int) : (ruleW x == []) = (decide (x < 1) || decide (x > 8)) := by
  unfold ruleW
  by_cases h : 1 ≤ x ∧ x ≤ 8
  · have : x = 1 ∨ x = 2 ∨ x = 3 ∨ x = 4 ∨ x = 5 ∨ x = 6 ∨ x = 7 ∨ x = 8 := by omega
    rcases this with h | h | h | h | h | h | h | h <;> subst h <;> decide
  · have : ∀ k : Int, 1 ≤ k → k ≤ 8 → (x == k) = false := fun k h1 h2 => by
      rw [beq_eq_false_iff_ne]; rintro rfl; exact h ⟨h1, h2⟩
    rw [this 1 (by omega) (by omega), this 2 (by omega) (by omega), this 3 (by omega) (by omega), this 4 (by omega) (by omega), this 5 (by omega) (by omega), this 6 (by omega) (by omega), this 7 (by omega) (by omega), this 8 (by omega) (by omega)]
    have : (decide (x < 1) || decide (x > 8)) = true := by
      rw [Bool.or_eq_true, decide_eq_true_eq, decide_eq_true_eq]; omega
    rw [this]; rfl
def ruleE (r : Rul) : Int :=
 if ruleW r.kd == [] then 1
 else if !pathB r.k || usTu r.kd && !pathB r.tu then 5
 else if !usTu r.kd && !(r.tu == []) || !usOld r.kd && !(r.old == []) || !usNew r.kd && !(r.nu == []) || !valueB r.old || !valueB r.nu then 2
 else if r.k == r.tu then 11
 else if r.kd == 2 && (Lib.hasPrefix r.k (r.tu ++ [47]) || Lib.hasPrefix r.tu (r.k ++ [47])) then 13
 else if usOld r.kd && r.old == r.nu then 11
 else 0
theorem ruleE_eq (r : Rul) : ruleE r = ruleC r := by
 unfold ruleE ruleC
 rw [word_none]
 split
 ·skip
  rfl
 ·skip
  split
  ·skip
   rfl
  ·skip
   rename_i h2
   split
   ·skip
    rfl
   ·skip
    rename_i h3
    have e : (r.k == r.tu) = (usTu r.kd && r.k == r.tu) := by
     cases hu : usTu r.kd with
     | true => rfl
     | false =>
      rw [hu] at h3
      have h4 : r.tu = [] := by
       by_cases hz : r.tu = []
       ·skip
        exact hz
       ·skip
        exfalso; apply h3; simp [hz]
      have h5 : pathB r.k = true := by
       cases hp : pathB r.k with
       | true => rfl
       | false => exfalso; apply h2; simp [hp]
      have : r.k ≠ [] := fun h => by rw [h, path_nil] at h5; cases h5
      rw [h4]; simpa using this
    rw [← e]
    rfl
theorem pc_RuleError (r : Rul) (hr : RulB r) :
  PureCall Tryz.prog J 136 [.agg [.d (.int .i64 r.kd), .d (.str r.k), .d (.str r.tu), .d (.str r.old), .d (.str r.nu)]] (.one (.d (.int .i64 (ruleC r)))) := by
 obtain ⟨hr1, hr2, hr3, hr4⟩ := hr
 rw [← ruleE_eq]
 refine PureCall.of_body tOk (fn := Tryz.f136) Tryz.func136 (by kernel_rfl) rfl (Nat.le_of_ble_eq_true rfl) (fun E => ?_)
 iterate 6 first|refine Yp rfl ?_|refine S.box rfl rfl rfl rfl ?_|apply Y3|apply Y1
 refine S.call rfl rfl rfl rfl rfl (pc_ruleWord _) ?_
 iterate 17 first|refine Yp rfl ?_|apply Yb|apply Y1|apply Yn|apply Ys
 refine W.cond rfl (fun c1=>?_) fun c1=>?_
 ·skip
  apply Y1
  refine Yp rfl ?_
  apply Yn
  apply Yt
  apply Yv
  apply Yu
  exact Yz rfl rfl rfl (congrArg (fun x : Int => V.one (C.d (D.int .i64 x))) ((if_pos c1) : ruleE r = _)).symm
 apply Y1
 iterate 2 refine Yp rfl ?_
 refine S.call rfl rfl rfl rfl rfl (pc_outref2_PathOf r.k (by omega)) ?_
 iterate 6 first|refine Yg rfl rfl tg ?_|refine Yp rfl ?_
 refine S.callG rfl rfl rfl rfl tg rfl rfl (fun _ => pc_outref2_PathOf r.tu (by omega)) ?_
 refine Yg rfl rfl tg ?_
 refine S.pickAndG tOk zOk rfl rfl rfl tg tg ?_
 refine S.pickOr tOk zOk rfl rfl tg ?_
 refine Yp rfl ?_
 apply Yn
 refine W.cond rfl (fun c2=>?_) fun c2=>?_
 ·skip
  apply Y1
  refine Yp rfl ?_
  apply Yn
  apply Yt
  apply Yv
  apply Yu
  exact Yz rfl rfl rfl (congrArg (fun x : Int => V.one (C.d (D.int .i64 x))) (((if_neg (Bool.eq_false_iff.1 c1)).trans (if_pos c2)) : ruleE r = _)).symm
 iterate 29 first|refine S.pickOr tOk zOk rfl rfl tg ?_|refine S.pickAndG tOk zOk rfl rfl rfl tg tg ?_|refine S.pickAnd tOk zOk rfl rfl tg ?_|refine Yg rfl rfl tg ?_|refine Yp rfl ?_|apply Y1
 refine S.callG rfl rfl rfl rfl tg rfl rfl (fun _ => pc_outref2_ValueOf r.old (by omega)) ?_
 iterate 5 first|refine S.pickOr tOk zOk rfl rfl tg ?_|refine Yg rfl rfl tg ?_|refine Yp rfl ?_
 refine S.callG rfl rfl rfl rfl tg rfl rfl (fun _ => pc_outref2_ValueOf r.nu (by omega)) ?_
 refine Yg rfl rfl tg ?_
 refine S.pickOr tOk zOk rfl rfl tg ?_
 refine Yp rfl ?_
 apply Yn
 refine W.cond rfl (fun c3=>?_) fun c3=>?_
 ·skip
  apply Y1
  refine Yp rfl ?_
  apply Yn
  apply Yt
  apply Yv
  apply Yu
  exact Yz rfl rfl rfl (congrArg (fun x : Int => V.one (C.d (D.int .i64 x))) (((if_neg (Bool.eq_false_iff.1 c1)).trans ((if_neg (Bool.eq_false_iff.1 c2)).trans (if_pos c3))) : ruleE r = _)).symm
 apply Y1
 iterate 6 refine Yp rfl ?_
 apply Yn
 refine W.cond rfl (fun c4=>?_) fun c4=>?_
 ·skip
  apply Y1
  refine Yp rfl ?_
  apply Yn
  apply Yt
  apply Yv
  apply Yu
  exact Yz rfl rfl rfl (congrArg (fun x : Int => V.one (C.d (D.int .i64 x))) (((if_neg (Bool.eq_false_iff.1 c1)).trans ((if_neg (Bool.eq_false_iff.1 c2)).trans ((if_neg (Bool.eq_false_iff.1 c3)).trans (if_pos c4)))) : ruleE r = _)).symm
 iterate 9 first|refine Yg rfl rfl tg ?_|refine Yp rfl ?_|apply Y1
 refine YG rfl rfl tg (fun _ => cat_ok (by simp [-List.getD_eq_getElem?_getD]; omega)) rfl ?_
 refine S.callG rfl rfl rfl rfl tg rfl rfl (fun _ => pc_HasPrefix r.k (r.tu ++ [47])) ?_
 iterate 5 refine Yg rfl rfl tg ?_
 refine YG rfl rfl tg (fun _ => cat_ok (by simp [-List.getD_eq_getElem?_getD]; omega)) rfl ?_
 refine S.callG rfl rfl rfl rfl tg rfl rfl (fun _ => pc_HasPrefix r.tu (r.k ++ [47])) ?_
 refine S.pickOrG tOk zOk rfl rfl rfl tg tg ?_
 refine S.pickAnd tOk zOk rfl rfl tg ?_
 refine Yp rfl ?_
 apply Yn
 refine W.cond rfl (fun c5=>?_) fun c5=>?_
 ·skip
  apply Y1
  refine Yp rfl ?_
  apply Yn
  apply Yt
  apply Yv
  apply Yu
  exact Yz rfl rfl rfl (congrArg (fun x : Int => V.one (C.d (D.int .i64 x))) (((if_neg (Bool.eq_false_iff.1 c1)).trans ((if_neg (Bool.eq_false_iff.1 c2)).trans ((if_neg (Bool.eq_false_iff.1 c3)).trans ((if_neg (Bool.eq_false_iff.1 c4)).trans (if_pos c5))))) : ruleE r = _)).symm
 iterate 11 first|refine S.pickAnd tOk zOk rfl rfl tg ?_|refine Yg rfl rfl tg ?_|refine Yp rfl ?_|apply Y1|apply Yn
 refine W.cond rfl (fun c6=>?_) fun c6=>?_
 ·skip
  apply Y1
  refine Yp rfl ?_
  apply Yn
  apply Yt
  apply Yv
  apply Yu
  exact Yz rfl rfl rfl (congrArg (fun x : Int => V.one (C.d (D.int .i64 x))) (((if_neg (Bool.eq_false_iff.1 c1)).trans ((if_neg (Bool.eq_false_iff.1 c2)).trans ((if_neg (Bool.eq_false_iff.1 c3)).trans ((if_neg (Bool.eq_false_iff.1 c4)).trans ((if_neg (Bool.eq_false_iff.1 c5)).trans (if_pos c6)))))) : ruleE r = _)).symm
 apply Yk
 apply Yw
 apply Y3
 refine Yp rfl ?_
 apply Yn
 apply Yt
 exact Yz rfl rfl rfl (congrArg (fun x : Int => V.one (C.d (D.int .i64 x))) (((if_neg (Bool.eq_false_iff.1 c1)).trans ((if_neg (Bool.eq_false_iff.1 c2)).trans ((if_neg (Bool.eq_false_iff.1 c3)).trans ((if_neg (Bool.eq_false_iff.1 c4)).trans ((if_neg (Bool.eq_false_iff.1 c5)).trans (if_neg (Bool.eq_false_iff.1 c6))))))) : ruleE r = _)).symm
end
section
open Go
open Go.RowKit
attribute [local irreducible] thenK blockK W
attribute [local irreducible] rangeB nameB valueB visit visits checkP listE firstNe
def ruleWs : List (List UInt8) := [[], [114, 101, 110, 97, 109, 101], [112, 114, 101, 102, 105, 120], [99, 111, 112, 121], [115, 101, 116], [100, 101, 102, 97, 117, 108, 116], [100, 114, 111, 112], [109, 97, 112], [115, 119, 97, 112]]
theorem pc_pathAB : PureCall Tryz.prog J 44 [.one (.d (.str [97, 47, 98]))] (.one (.d (.bool true))) := by
 have h := pc_ver_IsPath [97, 47, 98] (by decide)
 rw [path_ab] at h; exact h
theorem pc_valE : PureCall Tryz.prog J 92 [.one (.d (.str []))] (.one (.d (.bool true))) := by
 have h := pc_ver_IsValue [] (by decide)
 rw [val_e] at h; exact h
theorem pc_migrate_settingsFault (l : List Stg) (hn : l.length ≤ 2000000) (hs : ∀ s ∈ l, s.k.length < 4294967000 ∧ s.v.length < 4294967000) :
  PureCall Tryz.prog J 202 [.one (.d (.vec 2 (l.map stgD)))] (.one (.d (.int .i64 (listE pathB l)))) := by
 refine PureCall.of_body tOk (fn := Tryz.f202) Tryz.func202 (by kernel_rfl) rfl (Nat.le_of_ble_eq_true rfl) (fun E => ?_)
 iterate 5 first|refine Yp rfl ?_|apply Y3|apply Y1
 refine S.call rfl rfl rfl rfl rfl (pc_Holds0 l (by omega) hs) ?_
 iterate 9 first|refine Yp rfl ?_|apply Y3|apply Yn
 apply Yt
 exact ⟨_, rfl, rfl, LeV.refl _⟩
theorem pc_tableOf (l : List Stg) (hn : l.length ≤ 4294967000) :
  HCall Tryz.prog J 144 ([.one (.d (.vec 2 (l.map stgD)))]) ([]) ([]) ([]) (isH (.one (.map 0)) ([]) ([]) ([tabD (tabOf l)])) := by
 refine HCall.ofD tOk ⟨0, 0, 1⟩ (fn := Tryz.f144) Tryz.func144 (by kernel_rfl) rfl (Nat.le_of_ble_eq_true rfl) (fun E => ?_)
 apply Y1
 refine Yp rfl ?_
 apply Y3
 refine S.makeMap rfl ?_
 iterate 9 first|refine Yp rfl ?_|apply Yb|apply Y1|apply Yn|apply Ys
 refine W.loop (fun k st => ∃ i : Nat, i ≤ l.length ∧ k = l.length - i ∧ ∃ t b2 r2 m2, st = ⟨t, [] ++ b2, [] ++ r2, [tabD (tabTo l i)] ++ m2⟩ ∧ holdsL t [(3, .one (.map 0)), (7, .one (.d (.vec 2 (l.map stgD)))), (8, .one (.d (.int .i64 ((l.map stgD).length : Int)))), (9, .one (.d (.int .i64 (i : Int))))]) (l.length) ⟨0, Nat.zero_le _, rfl, _, _, _, _, rfl, rfl, rfl, rfl, rfl, trivial⟩ ?_
 rintro k0 _ ⟨i, f0_0, rfl, t0, bb0, rr0, mm0, rfl, hh0⟩
 refine W.keepR _ _ _ _ _ _ _ hh0 rfl ?_
 apply Y1
 refine Yp rfl ?_
 apply Yn
 apply Ys
 refine W.cond rfl (fun c1=>?_) fun c1=>?_
 ·skip
  have hi := row_lt c1
  apply Yk
  apply Yn
  apply Ys
  apply Yb
  apply Y1
  refine YE rfl (row_ok hi) (row_at Stg.z hi) rfl ?_
  iterate 9 first|refine Yp rfl ?_|refine S.store tOk rfl rfl rfl rfl rfl rfl rfl rfl ?_|refine S.alloc tOk rfl rfl rfl rfl ?_|apply Y4
  refine S.mapUpdate tOk keyS (fD := fun v : List UInt8 => DV.one (.str v)) (l.getD i Stg.z).v (tabTo l i) rfl rfl rfl rfl rfl rfl rfl rfl (show _ = [tabD (tabTo l (i + 1))] from rfl) ?_
  apply Yw
  apply Y4
  iterate 2 refine Yp rfl ?_
  refine loop_n (l.length - (i + 1)) (by omega) ⟨i + 1, hi, rfl, _, _, _, _, rfl, rfl, rfl, rfl, inc_i64 (by omega), trivial⟩
 have hi := row_ge c1
 obtain rfl : i = l.length := by omega
 iterate 9 first|refine Yp rfl ?_|apply Ye|apply Yt|apply Yx|apply Yq|apply Y3|apply Yn
 exact ⟨_, rfl, rfl, LeG.refl _, rfl, rfl, rfl⟩
theorem pc_migrate_ruleWords  :
  PureCall Tryz.prog J 99 [] (.one (.d (.vec 1 (ruleWs.map fun x => [.str x])))) := by
 refine PureCall.of_body tOk (fn := Tryz.f99) Tryz.func99 (by kernel_rfl) rfl (Nat.le_of_ble_eq_true rfl) (fun E => ?_)
 apply Y1
 refine Yp rfl ?_
 apply Y3
 refine S.slice tOk rfl rfl ?_
 refine Yp rfl ?_
 apply Yn
 apply Yt
 exact ⟨_, rfl, rfl, LeV.refl _⟩
theorem pc_IndexS (l : List (List UInt8)) (x : List UInt8) (hl : l.length ≤ 1000000000) :
  PureCall Tryz.prog J 98 [.one (.d (.vec 1 (l.map fun x => [.str x]))), .one (.d (.str x))] (.one (.d (.int .i64 (idxOf (fun y => x == y) l)))) := by
 refine PureCall.of_body tOk (fn := Tryz.f98) Tryz.func98 (by kernel_rfl) rfl (Nat.le_of_ble_eq_true rfl) (fun E => ?_)
 iterate 9 first|refine Yp rfl ?_|apply Y1|apply Yn|apply Ys
 apply Yb
 refine W.loop (fun k st => ∃ i : Nat, i ≤ l.length ∧ (l.take i).any (fun y => x == y) = false ∧ k = l.length - i ∧ ∃ t b2 r2 m2, st = ⟨t, [] ++ b2, [] ++ r2, [] ++ m2⟩ ∧ holdsL t [(0, .one (.d (.vec 1 (l.map fun x => [.str x])))), (1, .one (.d (.str x))), (7, .one (.d (.int .i64 ((l.map fun x => ([.str x] : List D)).length : Int)))), (8, .one (.d (.int .i64 (i : Int))))]) (l.length) ⟨0, Nat.zero_le _, by simp, rfl, _, _, _, _, rfl, rfl, rfl, rfl, rfl, trivial⟩ ?_
 rintro k0 _ ⟨i, f0_0, f0_1, rfl, t0, bb0, rr0, mm0, rfl, hh0⟩
 refine W.keepR _ _ _ _ _ _ _ hh0 rfl ?_
 apply Y1
 refine Yp rfl ?_
 apply Yn
 apply Ys
 refine W.cond rfl (fun c1=>?_) fun c1=>?_
 ·skip
  have hi := row_lt c1
  iterate 11 first|refine Yp rfl ?_|apply Yb|apply Yk|apply Y3|apply Y1|apply Ys|apply Yn
  refine YE rfl (row_ok hi) (row_at [] hi) rfl ?_
  iterate 2 refine Yp rfl ?_
  apply Yn
  refine W.cond rfl (fun c2=>?_) fun c2=>?_
  ·skip
   iterate 10 first|apply Yu|apply Yv|refine Yp rfl ?_|apply Yt|apply Y1|apply Yn
   exact ⟨_, rfl, rfl, LeV.of_eq (congrArg (fun x => V.one (C.d (D.int .i64 x))) (idxOf_at (d := []) hi f0_1 c2).symm)⟩
  apply Yk
  apply Yw
  apply Y4
  iterate 2 refine Yp rfl ?_
  refine loop_n (l.length - (i + 1)) (by omega) ⟨i + 1, hi, any_take (d := []) hi f0_1 c2, rfl, _, _, _, _, rfl, rfl, rfl, rfl, inc_i64 (by omega), trivial⟩
 have hi := row_ge c1
 apply Yq
 apply Ye
 apply Ye
 apply Yx
 apply Y3
 refine Yp rfl ?_
 apply Yn
 apply Yt
 exact ⟨_, rfl, rfl, LeV.of_eq (congrArg (fun x => V.one (C.d (D.int .i64 x))) (idxOf_none (any_end hi f0_1)).symm)⟩
theorem pc_idx6 : PureCall Tryz.prog J 98 [.one (.d (.vec 1 (ruleWs.map fun x => [.str x]))), .one (.d (.str [100, 114, 111, 112]))] (.one (.d (.int .i64 6))) := by
 have h := pc_IndexS ruleWs [100, 114, 111, 112] (by decide)
 rw [show idxOf (fun y => [100, 114, 111, 112] == y) ruleWs = 6 from by decide] at h
 exact h
theorem pc_cutA : PureCall Tryz.prog J 53 [.one (.d (.str [100, 114, 111, 112, 32, 97, 47, 98])), .one (.d (.str [32]))] (.tup [.one (.d (.str [100, 114, 111, 112])), .one (.d (.str [97, 47, 98])), .one (.d (.bool true))]) := by
 have h := pc_Cut [100, 114, 111, 112, 32, 97, 47, 98] [32] (by decide)
 rw [show Lib.cut [100, 114, 111, 112, 32, 97, 47, 98] [32] = ([100, 114, 111, 112], [97, 47, 98], true) from by decide] at h
 exact h
theorem pc_cutB : PureCall Tryz.prog J 53 [.one (.d (.str [97, 47, 98])), .one (.d (.str [32]))] (.tup [.one (.d (.str [97, 47, 98])), .one (.d (.str [])), .one (.d (.bool false))]) := by
 have h := pc_Cut [97, 47, 98] [32] (by decide)
 rw [show Lib.cut [97, 47, 98] [32] = ([97, 47, 98], [], false) from by decide] at h
 exact h
theorem pc_uses6  :
  PureCall Tryz.prog J 100 [.one (.d (.int .i64 6))] (.tup [.one (.d (.bool false)), .one (.d (.bool false)), .one (.d (.bool false))]) := by
 refine PureCall.of_body tOk (fn := Tryz.f100) Tryz.func100 (by kernel_rfl) rfl (Nat.le_of_ble_eq_true rfl) (fun E => ?_)
 iterate 15 first|refine Yp rfl ?_|apply Yb|apply Y1|apply Yn|apply Ys
 refine W.condF rfl rfl ?_
 apply Y1
 iterate 2 refine Yp rfl ?_
 apply Yn
 refine W.condF rfl rfl ?_
 apply Yr
 iterate 2 refine Yp rfl ?_
 apply Yn
 refine W.condF rfl rfl ?_
 apply Ys
 apply Y1
 iterate 2 refine Yp rfl ?_
 apply Yn
 refine W.condF rfl rfl ?_
 apply Yr
 iterate 2 refine Yp rfl ?_
 apply Yn
 refine W.condF rfl rfl ?_
 apply Ys
 apply Y1
 iterate 2 refine Yp rfl ?_
 apply Yn
 refine W.condF rfl rfl ?_
 apply Yr
 iterate 2 refine Yp rfl ?_
 apply Yn
 refine W.condF rfl rfl ?_
 apply Yk
 apply Yw
 apply Y3
 iterate 3 refine Yp rfl ?_
 apply Yn
 apply Yt
 exact ⟨_, rfl, rfl, LeV.refl _⟩
theorem pc_migrate_below (a b : List UInt8) (hb : b.length ≤ 1000000000) :
  PureCall Tryz.prog J 155 [.one (.d (.str a)), .one (.d (.str b))] (.one (.d (.bool (Lib.hasPrefix a (b ++ [47]))))) := by
 refine PureCall.of_body tOk (fn := Tryz.f155) Tryz.func155 (by kernel_rfl) rfl (Nat.le_of_ble_eq_true rfl) (fun E => ?_)
 iterate 5 first|refine Yp rfl ?_|apply Y3|apply Y1
 refine YP rfl (cat_ok (by simp [-List.getD_eq_getElem?_getD]; omega)) rfl ?_
 refine S.call rfl rfl rfl rfl rfl (pc_HasPrefix a (b ++ [47])) ?_
 refine Yp rfl ?_
 apply Yn
 apply Yt
 exact ⟨_, rfl, rfl, LeV.refl _⟩
theorem pc_CheckRule6  :
  PureCall Tryz.prog J 104 [.agg [.d (.int .i64 6), .d (.str [97, 47, 98]), .d (.str []), .d (.str []), .d (.str [])]] (.one (.d (.int .i64 0))) := by
 refine PureCall.of_body tOk (fn := Tryz.f104) Tryz.func104 (by kernel_rfl) rfl (Nat.le_of_ble_eq_true rfl) (fun E => ?_)
 iterate 15 first|refine S.pickOr tOk zOk rfl rfl tg ?_|refine Yp rfl ?_|refine Yg rfl rfl tg ?_|refine S.box rfl rfl rfl rfl ?_|apply Y1|apply Yn|apply Ys
 refine W.condF rfl rfl ?_
 apply Yk
 apply Y3
 iterate 2 refine Yp rfl ?_
 refine S.call rfl rfl rfl rfl rfl (pc_uses6) ?_
 iterate 13 first|refine Yp rfl ?_|apply Yb|apply Y1|apply Ys|apply Yn
 refine S.call rfl rfl rfl rfl rfl (pc_pathAB) ?_
 iterate 6 first|refine Yg rfl rfl tg ?_|refine Yp rfl ?_
 refine S.callG rfl rfl rfl rfl tg rfl rfl (fun _ => pc_ver_IsPath [] (by decide)) ?_
 refine Yg rfl rfl tg ?_
 refine S.pickAndG tOk zOk rfl rfl rfl tg tg ?_
 refine S.pickOr tOk zOk rfl rfl tg ?_
 refine Yp rfl ?_
 apply Yn
 refine W.condF rfl rfl ?_
 iterate 29 first|refine S.pickOr tOk zOk rfl rfl tg ?_|refine S.pickAndG tOk zOk rfl rfl rfl tg tg ?_|refine S.pickAnd tOk zOk rfl rfl tg ?_|refine Yg rfl rfl tg ?_|refine Yp rfl ?_|apply Y1
 refine S.callG rfl rfl rfl rfl tg rfl rfl (fun _ => pc_valE) ?_
 iterate 5 first|refine S.pickOr tOk zOk rfl rfl tg ?_|refine Yg rfl rfl tg ?_|refine Yp rfl ?_
 refine S.callG rfl rfl rfl rfl tg rfl rfl (fun _ => pc_valE) ?_
 refine Yg rfl rfl tg ?_
 refine S.pickOr tOk zOk rfl rfl tg ?_
 refine Yp rfl ?_
 apply Yn
 refine W.condF rfl rfl ?_
 iterate 11 first|refine S.pickAnd tOk zOk rfl rfl tg ?_|refine Yg rfl rfl tg ?_|refine Yp rfl ?_|apply Y1|apply Yn
 refine W.condF rfl rfl ?_
 iterate 9 first|refine Yg rfl rfl tg ?_|refine Yp rfl ?_|apply Y1
 refine S.callG rfl rfl rfl rfl tg rfl rfl (fun _ => pc_migrate_below [97, 47, 98] [] (by decide)) ?_
 iterate 5 refine Yg rfl rfl tg ?_
 refine S.callG rfl rfl rfl rfl tg rfl rfl (fun _ => pc_migrate_below [] [97, 47, 98] (by decide)) ?_
 refine S.pickOrG tOk zOk rfl rfl rfl tg tg ?_
 refine S.pickAnd tOk zOk rfl rfl tg ?_
 refine Yp rfl ?_
 apply Yn
 refine W.condF rfl rfl ?_
 iterate 11 first|refine S.pickAnd tOk zOk rfl rfl tg ?_|refine Yg rfl rfl tg ?_|refine Yp rfl ?_|apply Y1|apply Yn
 refine W.condF rfl rfl ?_
 apply Yk
 apply Yw
 apply Y3
 refine Yp rfl ?_
 apply Yn
 apply Yt
 exact ⟨_, rfl, rfl, LeV.refl _⟩
theorem pc_ParseRule6  :
  PureCall Tryz.prog J 48 [.one (.d (.str [100, 114, 111, 112, 32, 97, 47, 98]))] (.tup [.agg [.d (.int .i64 6), .d (.str [97, 47, 98]), .d (.str []), .d (.str []), .d (.str [])], .one (.d (.int .i64 0))]) := by
 refine PureCall.of_body tOk (fn := Tryz.f48) Tryz.func48 (by kernel_rfl) rfl (Nat.le_of_ble_eq_true rfl) (fun E => ?_)
 iterate 10 first|refine Yp rfl ?_|refine S.alloc tOk rfl rfl rfl rfl ?_|apply Y1|apply Yn|apply Ys
 refine W.condF rfl rfl ?_
 apply Yk
 apply Y3
 refine Yp rfl ?_
 refine S.call rfl rfl rfl rfl rfl (pc_cutA) ?_
 iterate 7 refine Yp rfl ?_
 apply Y3
 refine S.call rfl rfl rfl rfl rfl (pc_migrate_ruleWords) ?_
 refine Yp rfl ?_
 refine S.call rfl rfl rfl rfl rfl (pc_idx6) ?_
 iterate 14 first|refine S.pickOr tOk zOk rfl rfl tg ?_|refine Yp rfl ?_|refine Yg rfl rfl tg ?_|refine S.store tOk rfl rfl rfl rfl rfl rfl rfl rfl ?_|refine S.alloc tOk rfl rfl rfl rfl ?_|apply Y1|apply Yn|apply Ys
 refine W.condF rfl rfl ?_
 apply Yk
 apply Y3
 iterate 2 refine Yp rfl ?_
 refine S.call rfl rfl rfl rfl rfl (pc_uses6) ?_
 iterate 11 first|refine Yp rfl ?_|apply Y3
 refine S.call rfl rfl rfl rfl rfl (pc_cutB) ?_
 iterate 19 first|refine Yp rfl ?_|refine Yg rfl rfl tg ?_|refine S.store tOk rfl rfl rfl rfl rfl rfl rfl rfl ?_|apply Y1|apply Ys|apply Yn
 refine S.pickOrG tOk zOk rfl rfl rfl tg tg ?_
 iterate 2 refine Yg rfl rfl tg ?_
 refine S.pickOrG tOk zOk rfl rfl rfl tg tg ?_
 refine Yg rfl rfl tg ?_
 refine S.pickOr tOk zOk rfl rfl tg ?_
 apply Yn
 refine W.condF rfl rfl ?_
 apply Yk
 apply Yn
 apply Ys
 apply Y1
 refine Yp rfl ?_
 apply Yn
 refine W.condF rfl rfl ?_
 apply Yk
 apply Yn
 apply Ys
 apply Y1
 refine Yp rfl ?_
 apply Yn
 refine W.condF rfl rfl ?_
 apply Yk
 apply Yn
 apply Ys
 apply Y1
 refine Yp rfl ?_
 apply Yn
 refine W.condF rfl rfl ?_
 iterate 7 first|refine Yp rfl ?_|apply Yk|apply Y1|apply Yn|apply Ys
 refine W.condF rfl rfl ?_
 apply Yk
 apply Yn
 apply Ys
 apply Y1
 refine Yp rfl ?_
 refine S.call rfl rfl rfl rfl rfl (pc_CheckRule6) ?_
 iterate 5 first|refine Yp rfl ?_|apply Y3|apply Yn
 refine W.condF rfl rfl ?_
 iterate 7 first|refine Yp rfl ?_|apply Yt|refine S.store tOk rfl rfl rfl rfl rfl rfl rfl rfl ?_|apply Yk|apply Y3|apply Yn
 exact ⟨_, rfl, rfl, LeV.refl _⟩
theorem pc_outlaw2_migrates  :
  PureCall Tryz.prog J 8 [] (.one (.d (.bool true))) := by
 refine PureCall.of_body tOk (fn := Tryz.f8) Tryz.func8 (by kernel_rfl) rfl (Nat.le_of_ble_eq_true rfl) (fun E => ?_)
 apply Y1
 refine Yp rfl ?_
 apply Y3
 refine S.call rfl rfl rfl rfl rfl (pc_ParseRule6) ?_
 iterate 17 first|refine S.pickAnd tOk zOk rfl rfl tg ?_|refine Yp rfl ?_|refine Yg rfl rfl tg ?_|apply Yt|refine S.store tOk rfl rfl rfl rfl rfl rfl rfl rfl ?_|refine S.alloc tOk rfl rfl rfl rfl ?_|apply Y3|apply Yn
 exact ⟨_, rfl, rfl, LeV.refl _⟩
end
section
open Go Go.RowKit
section
variable {J : Inv} {k0 : Lens} {E : Env J k0} {P : Program} {T : TypeId → Option TI} {n : Nat} {t : Nat → V} {b : List (List C)} {r : List (Option RowO)} {m : List (List (DV × DV))} {ops : Array Oper} {l : List Oper}
  {K : St → Prop} {i : Nat} {ty : TypeId} {pos : String} {after : Array Edge}
theorem OpZ.convRow (hT : TabOk P T) {ta tb e : TypeId} {ia ib ie : TI} {x : Operand} {ri ver kk : Nat} {al : Bool} {te : TypeId} (bs : List UInt8) (hta : T ta = some ia) (hda : ia.desc = .slice e) (hte : T e = some ie) (hde : ie.desc = .int .u8) (htb : T tb = some ib) (hdb : ib.desc = .string)
  (hx : opd n ⟨t, b, r, m⟩ x = (true, .one (.row ri ver 0 kk))) (ho : r[ri]? = some (some ⟨al, ver, 1, te, byteRow bs⟩)) (hk : kk = bs.length)
  (k : K ⟨upd t i (.one (.d (.str bs))), b, r, m⟩) : OpZ E P n ops (⟨some i, .convert ta tb x, ty, pos, after, none⟩ : Oper) K ⟨t, b, r, m⟩ := by
 have hm : (⟨some i, .convert ta tb x, ty, pos, after, none⟩ : Oper).op.operands.toList = [x] := by simp [Op.operands]
 refine ⟨fun v1 b1 r1 m1 => v1 = .one (.d (.str bs)) ∧ b1 = b ∧ r1 = r ∧ m1 = m, fun t' ht => ?_, fun v1 b1 r1 m1 ⟨e0, e1, e2, e3⟩ => by subst e0; subst e1; subst e2; subst e3; exact k⟩
 have h1 := looks_opd (r := r) (m := m) (b := b) (b1 := b) (n := n) (x := x) (o := ⟨some i, .convert ta tb x, ty, pos, after, none⟩) (by rw [hm]; simp) ht
 exact S.convRow (sz := 1) (t := t') (l := []) (K := fun s1 => ∃ v b2 r2 m2, s1 = ⟨updO t' (some i) v, b2, r2, m2⟩ ∧ (v = .one (.d (.str bs)) ∧ b2 = b ∧ r2 = r ∧ m2 = m)) hT bs hta hda hte hde htb hdb (h1.trans hx) ho hk ⟨_, b, r, m, rfl, rfl, rfl, rfl, rfl⟩
end
end
section
open Go
theorem beqS_iff (a b : L8) : beqS a b = true ↔ a = b := by unfold beqS; simp
theorem tail_is (a top : L8) : (tailOf a top).isSome = (a == top || belowB a top) := by
 unfold tailOf belowB
 by_cases h : (a == top) = true
 ·skip
  rw [if_pos h, h]; rfl
 ·skip
  rw [if_neg h, Bool.eq_false_iff.2 h, Bool.false_or]
  by_cases h2 : Lib.hasPrefix a (top ++ [47]) = true
  ·skip
   rw [if_pos h2, h2]; rfl
  ·skip
   rw [if_neg h2, Bool.eq_false_iff.2 h2]; rfl
theorem tail_t {a top : L8} (h : (a == top || belowB a top) = true) : ∃ s, tailOf a top = some s := by
 rw [← tail_is] at h; exact Option.isSome_iff_exists.1 h
theorem tail_f {a top : L8} (h : (a == top || belowB a top) = false) : tailOf a top = none := by
 rw [← tail_is] at h
 cases ht : tailOf a top with
 | none => rfl
 | some s => rw [ht] at h; cases h
theorem tail_nt {a top : L8} (h : (!(a == top) && !belowB a top) = true) : tailOf a top = none := tail_f (by cases h1 : (a == top) <;> cases h2 : belowB a top <;> simp_all)
theorem tail_nf {a top : L8} (h : (!(a == top) && !belowB a top) = false) : ∃ s, tailOf a top = some s := tail_t (by cases h1 : (a == top) <;> cases h2 : belowB a top <;> simp_all)
theorem tail_len {a top s : L8} (h : tailOf a top = some s) : top.length ≤ a.length ∧ a.drop top.length = s ∧ a.length = top.length + s.length := by
 have := (tail_some.1 h).1
 subst this
 simp
def okM (key tu : L8) (x : L8 × L8) : Bool := match tailOf x.1 key with | some s => pathB (tu ++ s) | none => true
theorem okM_t {key tu s : L8} {x : L8 × L8} (h : tailOf x.1 key = some s) : okM key tu x = pathB (tu ++ s) := by unfold okM; rw [h]
theorem okM_f {key tu : L8} {x : L8 × L8} (h : tailOf x.1 key = none) : okM key tu x = true := by unfold okM; rw [h]
theorem bad_ok (t : Tab) (key tu : L8) : badP t key tu = !t.all (okM key tu) := by
 rw [List.not_all_eq_any_not, Bool.eq_iff_iff]
 unfold badP
 rw [List.any_eq_true, List.any_eq_true]
 constructor
 ·skip
  rintro ⟨x, hx, h⟩
  obtain ⟨y, hy, s, hs, he⟩ := mov_keys.1 (List.mem_map.2 ⟨x, hx, rfl⟩)
  exact ⟨y, hy, by rw [okM_t hs, ← he]; exact h⟩
 ·skip
  rintro ⟨y, hy, h⟩
  cases ht : tailOf y.1 key with
  | none => rw [okM_f ht] at h; cases h
  | some s =>
   rw [okM_t ht] at h
   obtain ⟨x, hx, he⟩ := List.mem_map.1 (mov_keys.2 ⟨y, hy, s, ht, rfl⟩ : tu ++ s ∈ (movT t key tu).map (·.1))
   exact ⟨x, hx, by rw [he]; exact h⟩
theorem all_perm {α : Type} {l l' : List α} (p : α → Bool) (h : l.Perm l') : l.all p = l'.all p := by
 rw [Bool.eq_iff_iff, List.all_eq_true, List.all_eq_true]
 exact ⟨fun q x h1 => q x (h.mem_iff.2 h1), fun q x h1 => q x (h.mem_iff.1 h1)⟩
theorem bad_hit {t dn rest : Tab} {y : L8 × L8} {key tu s : L8} (hp : t.Perm (dn ++ y :: rest)) (h : tailOf y.1 key = some s) (hb : (!pathB (tu ++ s)) = true) : badP t key tu = true := by
 rw [bad_ok, Bool.not_eq_true', ← Bool.not_eq_true, List.all_eq_true]
 intro hall
 have := hall y (hp.mem_iff.2 (by simp))
 rw [okM_t h] at this
 rw [this] at hb; cases hb
theorem bad_none {t dn : Tab} {key tu : L8} (hp : t.Perm dn) (h : dn.all (okM key tu) = true) : badP t key tu = false := by
 rw [bad_ok, all_perm _ hp, h]; rfl
theorem all_snoc {α : Type} {p : α → Bool} {l : List α} {x : α} (h : l.all p = true) (hx : p x = true) : (l ++ [x]).all p = true := by
 rw [List.all_append, h]; simp [hx]
theorem any_snoc {α : Type} {p : α → Bool} {l : List α} {x : α} (h : l.any p = false) (hx : p x = false) : (l ++ [x]).any p = false := by
 rw [List.any_append, h]; simp [hx]
theorem mem_len {t dn rest : Tab} {y : L8 × L8} {N : Nat} (hl : ∀ x ∈ t, x.1.length ≤ N) (hp : t.Perm (dn ++ y :: rest)) : y.1.length ≤ N := hl y (hp.mem_iff.2 (by simp))
theorem sum_pref {t tab1 tab2 mv : Tab} {key tu : L8} (hd : ndT t) (hm : ndT mv) (hmv : lk mv = movF (lk t) key tu) (h1 : EqT tab1 (t.filter fun x => (tailOf x.1 key).isNone)) (h2 : EqT tab2 (copyT mv tab1)) : EqT tab2 (prefT t key tu) :=
 ⟨h2.l, nd_pref hd _ _, by rw [h2.e, lk_copy _ hm, h1.e, off_filter hd, lk_pref hd, hmv]; rfl⟩
theorem orF_nil (g : Fm) : g = orF (lk []) g := rfl
theorem mov_nil (key tu : L8) : lk [] = movF (lk []) key tu := by
 funext n
 unfold movF
 cases tailOf n tu <;> rfl
theorem nd_keys {t : Tab} (h : ndT t) : (t.map (·.1)).Nodup := h
def cutPre (s p : L8) : L8 × Bool := (Lib.trimPrefix s p, Lib.hasPrefix s p)
theorem cutPre_eq (s p : L8) : cutPre s p = if Lib.hasPrefix s p then (s.drop p.length, true) else (s, false) := by
 unfold cutPre Lib.trimPrefix
 cases h : Lib.hasPrefix s p with
 | true => simp_all [Lib.hasPrefix]
 | false => simp_all [Lib.hasPrefix]
def belowR (a top : L8) : L8 × Bool := if a == top then ([], true) else ([47] ++ (cutPre a (top ++ [47])).1, (cutPre a (top ++ [47])).2)
theorem belowR_t {a top : L8} (h : (belowR a top).2 = true) : tailOf a top = some (belowR a top).1 := by
 unfold belowR at h ⊢
 by_cases he : (a == top) = true
 ·skip
  rw [if_pos he]
  unfold tailOf; rw [if_pos he]
 ·skip
  rw [if_neg he] at h ⊢
  have h : (cutPre a (top ++ [47])).2 = true := h
  rw [cutPre_eq] at h ⊢
  by_cases hp : Lib.hasPrefix a (top ++ [47]) = true
  ·skip
   rw [if_pos hp]
   obtain ⟨z, rfl⟩ := hasPrefix_iff.1 hp
   refine tail_some.2 ⟨by simp, .inr (by simp)⟩
  ·skip
   rw [if_neg hp] at h; cases h
theorem belowR_f {a top : L8} (h : (belowR a top).2 = false) : tailOf a top = none := by
 unfold belowR at h
 by_cases he : (a == top) = true
 ·skip
  rw [if_pos he] at h; cases h
 ·skip
  rw [if_neg he] at h
  have h : (cutPre a (top ++ [47])).2 = false := h
  unfold tailOf
  rw [if_neg he]
  rw [cutPre_eq] at h
  by_cases hp : Lib.hasPrefix a (top ++ [47]) = true
  ·skip
   rw [if_pos hp] at h; cases h
  ·skip
   rw [if_neg hp]
def keysT (t : Tab) : List L8 := sortS (t.map (·.1))
def listTo (t : Tab) (i : Nat) : List Stg := ((keysT t).take i).map fun k => ⟨k, getL beqS [] t k⟩
theorem listTo_0 (t : Tab) : listTo t 0 = [] := rfl
theorem listTo_succ {t : Tab} {i : Nat} (hi : i < (keysT t).length) : (listTo t i).map stgD ++ [[.str ((keysT t).getD i []), .str (getL beqS [] t ((keysT t).getD i []))]] = (listTo t (i + 1)).map stgD := by
 unfold listTo
 rw [take_getD (d := []) hi]
 simp [stgD]
theorem listTo_end (t : Tab) : listTo t (keysT t).length = listT t := by unfold listTo listT; rw [List.take_length]; rfl
theorem listTo_len (t : Tab) {i : Nat} (hi : i ≤ (keysT t).length) : (listTo t i).length = i := by unfold listTo; simp [hi]
theorem keysT_len (t : Tab) : (keysT t).length = t.length := by unfold keysT sortS; rw [List.length_mergeSort, List.length_map]
theorem step_4 {t tab : Tab} {r : Rul} (h : EqT tab (doT t r)) (hb : (r.kd == 2 && badP t r.k r.tu) = false) (c : decide ((tab.length : Int) > 2000) = true) : stepE t r = 4 := by
 unfold stepE
 rw [if_neg (Bool.eq_false_iff.1 hb), ← h.len, if_pos c]
theorem step_0 {t tab : Tab} {r : Rul} (h : EqT tab (doT t r)) (hb : (r.kd == 2 && badP t r.k r.tu) = false) (c : decide ((tab.length : Int) > 2000) = false) : stepE t r = 0 := by
 unfold stepE
 rw [if_neg (Bool.eq_false_iff.1 hb), ← h.len, if_neg (Bool.eq_false_iff.1 c)]
theorem step_5 {t : Tab} {r : Rul} (hb : (r.kd == 2 && badP t r.k r.tu) = true) : stepE t r = 5 := by unfold stepE; rw [if_pos hb]
end
section
open Go
theorem mem_getD {α : Type} {l : List α} {i : Nat} {d : α} (hi : i < l.length) : l.getD i d ∈ l := by
 rw [List.getD_eq_getElem?_getD, List.getElem?_eq_getElem hi]; exact List.getElem_mem hi
section
variable {α : Type} {l : List α} {f : α → Int} {d : α} {i : Nat}
theorem map_at (hi : i < l.length) : (l.map f).getD i 0 = f (l.getD i d) := by simp [List.getD_eq_getElem?_getD, hi]
theorem fe_next (hi : i < l.length) (h : ((l.map f).take i).all (· == 0) = true) (c : (f (l.getD i d) != 0) = false) : ((l.map f).take (i + 1)).all (· == 0) = true :=
 all_take_succ (d := 0) (by simpa using hi) h (by rw [map_at (d := d) hi]; simpa using c)
theorem fe_hit (hi : i < l.length) (h : ((l.map f).take i).all (· == 0) = true) (c : (f (l.getD i d) != 0) = true) : firstNe (l.map f) = f (l.getD i d) := by
 rw [firstNe_hit (by simpa using hi) h (by rw [map_at (d := d) hi]; simpa using c), map_at (d := d) hi]
theorem fe_end (hi : l.length ≤ i) (h : ((l.map f).take i).all (· == 0) = true) : firstNe (l.map f) = 0 := firstNe_none (by simpa using hi) h
end
theorem runF_eq (ss : List Stg) (rs : List Rul) : runF ss rs = firstB (listE pathB ss) (firstB (if decide ((ss.length : Int) > 2000) then 4 else 0) (firstB (if decide ((rs.length : Int) > 100) then 4 else 0) (rulesE rs))) := by
 unfold runF
 rw [firstNe_cons, firstNe_cons, first2]
theorem runF_1 {ss : List Stg} {rs : List Rul} (h : (listE pathB ss != 0) = true) : runF ss rs = listE pathB ss := by
 rw [runF_eq]; unfold firstB; rw [if_pos h]
theorem runF_2 {ss : List Stg} {rs : List Rul} (h : (listE pathB ss != 0) = false) (c : (decide ((ss.length : Int) > 2000) || decide ((rs.length : Int) > 100)) = true) : runF ss rs = 4 := by
 rw [runF_eq]; unfold firstB; rw [if_neg (Bool.eq_false_iff.1 h)]
 cases h1 : decide ((ss.length : Int) > 2000) with
 | true => rfl
 | false => rw [h1, Bool.false_or] at c; rw [c]; rfl
theorem runF_3 {ss : List Stg} {rs : List Rul} (h : (listE pathB ss != 0) = false) (c : (decide ((ss.length : Int) > 2000) || decide ((rs.length : Int) > 100)) = false) : runF ss rs = rulesE rs := by
 rw [Bool.or_eq_false_iff] at c
 rw [runF_eq]; unfold firstB; rw [if_neg (Bool.eq_false_iff.1 h), c.1, c.2]; rfl
structure RunOk (ss : List Stg) (rs : List Rul) : Prop where
 all : allP (tabOf ss) = true
 len : ss.length ≤ 2000
 many : rs.length ≤ 100
 ok : ∀ r ∈ rs, RulOk r
theorem tabTo_len (l : List Stg) : ∀ i, (tabTo l i).length ≤ i
  | 0 => Nat.le_refl _
  | i + 1 => by
    show (setL beqS (tabTo l i) _ _).length ≤ _
    have h := tabTo_len l i
    have : ∀ (t : Tab) (k v : L8), (setL beqS t k v).length ≤ t.length + 1 := fun t k v => by
      induction t with
      | nil => simp [setL]
      | cons x t ih =>
        unfold setL
        cases beqS k x.1 with
        | true => simp
        | false => simp only [cond_false, List.length_cons]; omega
    exact Nat.le_trans (this _ _ _) (by omega)
theorem tabTo_all {l : List Stg} (h : listE pathB l = 0) : ∀ i, i ≤ l.length → allP (tabTo l i) = true
  | 0, _ => rfl
  | i + 1, hi => by
    have h1 := firstNe_zero h
    have h2 := h1 (stgAt pathB l i) (List.mem_map.2 ⟨i, List.mem_range.2 (by omega), rfl⟩)
    refine set_all (tabTo_all h i (by omega)) ?_
    unfold stgAt at h2
    cases hp : pathB (l.getD i Stg.z).k with
    | true => rfl
    | false => rw [hp] at h2; simp at h2
theorem run_ok {ss : List Stg} {rs : List Rul} (h : (runF ss rs != 0) = false) : RunOk ss rs := by
 have h0 : runF ss rs = 0 := by simpa using h
 have hz := firstNe_zero h0
 have e1 := hz (listE pathB ss) (by simp)
 have e2 := hz (if decide ((ss.length : Int) > 2000) then 4 else 0) (by simp)
 have e3 := hz (if decide ((rs.length : Int) > 100) then 4 else 0) (by simp)
 have e4 := hz (rulesE rs) (by simp)
 refine ⟨tabTo_all e1 _ (Nat.le_refl _), ?_, ?_, fun r hr => rul_ok (firstNe_zero e4 _ (List.mem_map.2 ⟨r, hr, rfl⟩))⟩
 ·skip
  by_cases c : (ss.length : Int) > 2000
  ·skip
   rw [if_pos (by simpa using c)] at e2; cases e2
  ·skip
   omega
 ·skip
  by_cases c : (rs.length : Int) > 100
  ·skip
   rw [if_pos (by simpa using c)] at e3; cases e3
  ·skip
   omega
structure Way (ss : List Stg) (rs : List Rul) (i : Nat) (tab : Tab) : Prop where
 eq : EqT tab (runT ss rs i)
 all : allP tab = true
 len : tab.length ≤ 2000
theorem way_0 {ss : List Stg} {rs : List Rul} (h : RunOk ss rs) : Way ss rs 0 (tabOf ss) := ⟨EqT.refl (tabTo_nd _ _), h.all, Nat.le_trans (tabTo_len ss _) h.len⟩
def stepAt (ss : List Stg) (rs : List Rul) (i : Nat) : Int := stepE (runT ss rs i) (rs.getD i Rul.z)
theorem Way.key {ss : List Stg} {rs : List Rul} {i : Nat} {tab : Tab} (h : Way ss rs i tab) : ∀ x ∈ tab, x.1.length ≤ 2000000 := fun x hx =>
 Nat.le_trans (path_len (all_keys.1 h.all _ (List.mem_map.2 ⟨x, hx, rfl⟩))) (by decide)
theorem Way.at {ss : List Stg} {rs : List Rul} {i : Nat} {tab : Tab} (h : Way ss rs i tab) : stepE tab (rs.getD i Rul.z) = stepAt ss rs i := h.eq.stepE _
theorem way_next {ss : List Stg} {rs : List Rul} {i : Nat} {tab tab1 : Tab} (h : Way ss rs i tab) (hr : RulOk (rs.getD i Rul.z)) (hs : stepE tab (rs.getD i Rul.z) = 0) (h1 : EqT tab1 (doT tab (rs.getD i Rul.z))) : Way ss rs (i + 1) tab1 := by
 obtain ⟨e1, e2⟩ := step_all h.all hr hs
 exact ⟨h1.trans (h.eq.do _), by rw [h1.allP]; exact e1, by rw [h1.len]; exact e2⟩
theorem step_bad {tab : Tab} {r : Rul} (hs : stepE tab r = 0) : (r.kd == 2 && badP tab r.k r.tu) = false := by
 unfold stepE at hs
 split at hs
 ·skip
  cases hs
 ·skip
  rename_i h; exact Bool.eq_false_iff.2 h
theorem se_next {ss : List Stg} {rs : List Rul} {i : Nat} (hi : i < rs.length) (h : (((List.range rs.length).map (stepAt ss rs)).take i).all (· == 0) = true) (c : stepAt ss rs i = 0) : (((List.range rs.length).map (stepAt ss rs)).take (i + 1)).all (· == 0) = true :=
 all_take_succ (d := 0) (by simpa using hi) h (by simp [List.getD_eq_getElem?_getD, hi, c])
theorem se_hit {ss : List Stg} {rs : List Rul} {i : Nat} (hi : i < rs.length) (h : (((List.range rs.length).map (stepAt ss rs)).take i).all (· == 0) = true) (c : stepAt ss rs i ≠ 0) : stepsE ss rs = stepAt ss rs i := by
 have hg : ((List.range rs.length).map (stepAt ss rs)).getD i 0 = stepAt ss rs i := by simp [List.getD_eq_getElem?_getD, hi]
 show firstNe ((List.range rs.length).map (stepAt ss rs)) = _
 rw [firstNe_hit (by simpa using hi) h (by rw [hg]; exact c), hg]
theorem se_end {ss : List Stg} {rs : List Rul} {i : Nat} (hi : rs.length ≤ i) (h : (((List.range rs.length).map (stepAt ss rs)).take i).all (· == 0) = true) : stepsE ss rs = 0 := firstNe_none (by simpa using hi) h
theorem runP_1 {ss : List Stg} {rs : List Rul} (h : (runF ss rs != 0) = true) : runP ss rs = ([], runF ss rs) := if_pos h
theorem runP_2 {ss : List Stg} {rs : List Rul} (h : (runF ss rs != 0) = false) (e : Int) (h2 : stepsE ss rs = e) (hne : e ≠ 0) : runP ss rs = ([], e) := by
 unfold runP; rw [if_neg (Bool.eq_false_iff.1 h), if_pos (by rw [h2]; simpa using hne), h2]
theorem runP_3 {ss : List Stg} {rs : List Rul} (h : (runF ss rs != 0) = false) (h2 : stepsE ss rs = 0) : runP ss rs = (listT (runT ss rs rs.length), 0) := by
 unfold runP; rw [if_neg (Bool.eq_false_iff.1 h), if_neg (by rw [h2]; simp)]
theorem keys_do {tab : Tab} {r : Rul} (h : allP tab = true) (hr : RulOk r) : ∀ x ∈ doT tab r, x.1.length ≤ 400 := fun x hx => by
  have hd := do_all h hr
  by_cases hb : (r.kd == 2 && badP tab r.k r.tu) = true
  · have h2 : (r.kd == 2) = true := by rw [Bool.and_eq_true] at hb; exact hb.1
    have h3 : doT tab r = prefT tab r.k r.tu := by have := beq_iff_eq.1 h2; unfold doT; rw [this]; rfl
    rw [h3] at hx
    rcases keys_copy.1 (List.mem_map.2 ⟨x, hx, rfl⟩ : x.1 ∈ (prefT tab r.k r.tu).map (·.1)) with h4 | h4
    · obtain ⟨y, hy, s, hs, he⟩ := mov_keys.1 h4
      have h5 := path_len (all_keys.1 h _ (List.mem_map.2 ⟨y, hy, rfl⟩))
      have h6 := (tail_len hs).2.2
      have h7 := hr.len.2
      rw [he]; simp; omega
    · obtain ⟨y, hy, he⟩ := List.mem_map.1 h4
      have h5 := path_len (all_keys.1 h _ (List.mem_map.2 ⟨y, (List.mem_filter.1 hy).1, rfl⟩))
      rw [← he]; omega
  · rw [Bool.eq_false_iff.2 hb] at hd
    have := path_len (all_keys.1 hd _ (List.mem_map.2 ⟨x, hx, rfl⟩))
    omega
theorem stepR_5 {tab tab1 : Tab} {r : Rul} (h1 : EqT tab1 (doT tab r)) (h : tab1.any (fun x => !pathB x.1) = true) : stepR tab r = 5 := by
 unfold stepR; rw [← h1.any, if_pos h]
theorem stepR_4 {tab tab1 : Tab} {r : Rul} (h1 : EqT tab1 (doT tab r)) (h : tab1.any (fun x => !pathB x.1) = false) (c : decide ((tab1.length : Int) > 2000) = true) : stepR tab r = 4 := by
 unfold stepR; rw [← h1.any, if_neg (Bool.eq_false_iff.1 h), ← h1.len, if_pos c]
theorem stepR_0 {tab tab1 : Tab} {r : Rul} (h1 : EqT tab1 (doT tab r)) (h : tab1.any (fun x => !pathB x.1) = false) (c : decide ((tab1.length : Int) > 2000) = false) : stepR tab r = 0 := by
 unfold stepR; rw [← h1.any, if_neg (Bool.eq_false_iff.1 h), ← h1.len, if_neg (Bool.eq_false_iff.1 c)]
end
end Go.Proofs.YtpelfildfidnbaaGreatDoor
namespace Go.Proofs.YtpelfildfidnbaaGreatDoor
section
open Go
theorem way_all {ss : List Stg} {rs : List Rul} (hok : RunOk ss rs) (hs : stepsE ss rs = 0) : ∀ i, i ≤ rs.length → Way ss rs i (runT ss rs i)
  | 0, _ => way_0 hok
  | i + 1, hi => by
    have hw := way_all hok hs i (by omega)
    have hz : stepAt ss rs i = 0 := firstNe_zero hs _ (List.mem_map.2 ⟨i, List.mem_range.2 (by omega), rfl⟩)
    exact way_next hw (hok.ok _ (mem_getD (by omega))) hz (EqT.refl (nd_do (run_nd _ _ _) _))
def allV (t : Tab) : Prop := ∀ x ∈ t, valueB x.2 = true
theorem set_mem {t : Tab} {k v : L8} : ∀ {x : L8 × L8}, x ∈ setL beqS t k v → x ∈ t ∨ x = (k, v) := by
 induction t with
 | nil => intro x h; exact .inr (by simpa [setL] using h)
 | cons y t ih =>
  intro x h
  unfold setL at h
  cases hb : beqS k y.1 with
  | true =>
   rw [hb] at h
   rcases List.mem_cons.1 h with h | h
   ·skip
    exact .inr h
   ·skip
    exact .inl (List.mem_cons_of_mem _ h)
  | false =>
   rw [hb] at h
   rcases List.mem_cons.1 h with h | h
   ·skip
    exact .inl (by rw [h]; exact List.mem_cons_self)
   ·skip
    rcases ih h with h | h
    ·skip
     exact .inl (List.mem_cons_of_mem _ h)
    ·skip
     exact .inr h
theorem setV {t : Tab} (h : allV t) {k v : L8} (hv : valueB v = true) : allV (setL beqS t k v) := fun x hx => by
 rcases set_mem hx with h1 | h1
 ·skip
  exact h x h1
 ·skip
  rw [h1]; exact hv
theorem delV {t : Tab} (h : allV t) (k : L8) : allV (delL beqS t k) := fun x hx => h x ((del_sub t k).subset hx)
theorem get_mem {t : Tab} (hd : ndT t) {k : L8} (hk : hasL beqS t k = true) : (k, getL beqS [] t k) ∈ t := by
 rw [has_lk] at hk
 obtain ⟨v, hv⟩ := Option.isSome_iff_exists.1 hk
 rw [get_lk, hv]
 exact (lk_mem hd).1 hv
theorem copyV : ∀ (t : Tab) {u : Tab}, allV t → allV u → allV (copyT t u)
 | [], u, _, h => h
 | x :: t, u, h1, h2 => copyV t (fun y hy => h1 y (List.mem_cons_of_mem _ hy)) (setV h2 (h1 x List.mem_cons_self))
theorem movV {t : Tab} (h : allV t) (key tu : L8) : allV (movT t key tu) := fun x hx => by
 obtain ⟨y, hy, he⟩ := List.mem_filterMap.1 hx
 obtain ⟨s, _, rfl⟩ := Option.map_eq_some_iff.1 he
 exact h y hy
theorem doV {t : Tab} (hd : ndT t) (h : allV t) {r : Rul} (hr : RulOk r) : allV (doT t r) := by
 have hn := hr.vn
 have ho := hr.vo
 have hg : ∀ k, hasL beqS t k = true → valueB (getL beqS [] t k) = true := fun k hk => h _ (get_mem hd hk)
 unfold doT
 split
 ·skip
  split
  ·skip
   rename_i hh; exact setV (delV h _) (hg _ hh)
  ·skip
   exact h
 ·skip
  split
  ·skip
   exact copyV _ (movV h _ _) (fun x hx => h x (List.mem_filter.1 hx).1)
  ·skip
   split
   ·skip
    split
    ·skip
     rename_i hh; exact setV h (hg _ hh)
    ·skip
     exact h
   ·skip
    repeat' split
    all_goals first | exact h | exact setV h hn | exact setV h ho | exact delV h _
theorem tabTo_val {l : List Stg} (h : listE pathB l = 0) : ∀ i, i ≤ l.length → allV (tabTo l i)
  | 0, _ => fun x hx => by cases hx
  | i + 1, hi => by
    have h1 := firstNe_zero h
    have h2 := h1 (stgAt pathB l i) (List.mem_map.2 ⟨i, List.mem_range.2 (by omega), rfl⟩)
    refine setV (tabTo_val h i (by omega)) ?_
    unfold stgAt at h2
    cases hp : valueB (l.getD i Stg.z).v with
    | true => rfl
    | false => rw [hp] at h2; split at h2 <;> simp at h2
theorem runV {ss : List Stg} {rs : List Rul} (h : listE pathB ss = 0) (hok : RunOk ss rs) : ∀ i, i ≤ rs.length → allV (runT ss rs i)
 | 0, _ => tabTo_val h _ (Nat.le_refl _)
 | i + 1, hi => doV (run_nd _ _ _) (runV h hok i (by omega)) (hok.ok _ (mem_getD (by omega)))
theorem runF_list {ss : List Stg} {rs : List Rul} (h : (runF ss rs != 0) = false) : listE pathB ss = 0 := firstNe_zero (by simpa using h : runF ss rs = 0) _ (by simp)
theorem keys_rise {t : Tab} (hd : ndT t) : (keysT t).Pairwise fun a b => a < b := by
 unfold keysT sortS
 have tr : ∀ a b c : List UInt8, leB a b = true → leB b c = true → leB a c = true := fun a b c h1 h2 => by simp only [leB, decide_eq_true_eq] at *; exact List.le_trans h1 h2
 have tot : ∀ a b : List UInt8, (leB a b || leB b a) = true := fun a b => by simp only [leB, Bool.or_eq_true, decide_eq_true_eq]; exact List.le_total a b
 have h1 := List.pairwise_mergeSort tr tot (t.map (·.1))
 have h2 : ((t.map (·.1)).mergeSort leB).Nodup := (List.mergeSort_perm _ _).nodup_iff.2 hd
 rw [List.nodup_iff_pairwise_ne] at h2
 refine (h1.and h2).imp fun {a b} ⟨ha, hb⟩ => ?_
 simp only [leB, decide_eq_true_eq] at ha
 by_cases hlt : a < b
 ·skip
  exact hlt
 ·skip
  exact absurd (List.le_antisymm ha (List.not_lt.1 hlt)) hb
theorem keys_mem {t : Tab} {k : L8} : k ∈ keysT t ↔ k ∈ t.map (·.1) := by unfold keysT sortS; exact (List.mergeSort_perm _ _).mem_iff
theorem listT_get {t : Tab} {i : Nat} (hi : i < (keysT t).length) : (listT t).getD i Stg.z = ⟨(keysT t).getD i [], getL beqS [] t ((keysT t).getD i [])⟩ := by
 show (((keysT t)).map fun k => (⟨k, getL beqS [] t k⟩ : Stg)).getD i Stg.z = _
 simp [List.getD_eq_getElem?_getD, hi]
theorem listT_len (t : Tab) : (listT t).length = t.length := by
 show ((keysT t).map fun k => (⟨k, getL beqS [] t k⟩ : Stg)).length = _
 rw [List.length_map, keysT_len]
theorem list_ok {t : Tab} (hd : ndT t) (hp : allP t = true) (hv : allV t) : listE pathB (listT t) = 0 := by
  have hall : ∀ i, i < (listT t).length → stgAt pathB (listT t) i = 0 := fun i hi => by
    rw [listT_len, ← keysT_len] at hi
    have hk : (keysT t).getD i [] ∈ t.map (·.1) := keys_mem.1 (mem_getD hi)
    have h1 : pathB ((keysT t).getD i []) = true := all_keys.1 hp _ hk
    have h2 : hasL beqS t ((keysT t).getD i []) = true := by
      rw [has_lk]
      cases hq : lk t ((keysT t).getD i []) with
      | some v => rfl
      | none => exact absurd hk (lk_none.1 hq)
    have h3 : valueB (getL beqS [] t ((keysT t).getD i [])) = true := hv _ (get_mem hd h2)
    unfold stgAt
    rw [listT_get hi]
    simp only [h1, h3, Bool.not_true, Bool.false_eq_true, if_false]
    by_cases h0 : i = 0
    · subst h0; simp
    · rw [listT_get (by omega)]
      have hlt : (keysT t).getD (i - 1) [] < (keysT t).getD i [] := by
        have := List.pairwise_iff_getElem.1 (keys_rise hd) (i - 1) i (by omega) hi (by omega)
        simpa [List.getD_eq_getElem?_getD, hi, show i - 1 < (keysT t).length by omega] using this
      have : leS ((keysT t).getD i []) ((keysT t).getD (i - 1) []) = false := by
        unfold leS
        rw [bytesLess_eq]
        have h5 : ¬ (keysT t).getD i [] < (keysT t).getD (i - 1) [] := fun h => List.lt_irrefl _ (List.lt_trans h hlt)
        have h6 : (keysT t).getD i [] ≠ (keysT t).getD (i - 1) [] := fun h => by rw [h] at hlt; exact List.lt_irrefl _ hlt
        rw [decide_eq_false h5, Bool.false_or]
        exact beq_eq_false_iff_ne.2 h6
      simp only [this, Bool.and_false, Bool.false_eq_true, if_false]
  unfold listE
  refine firstNe_none (i := (listT t).length) (by simp) (List.all_eq_true.2 fun x hx => ?_)
  obtain ⟨i, hi, rfl⟩ := List.mem_map.1 (List.mem_of_mem_take hx)
  rw [hall i (List.mem_range.1 hi)]; rfl
theorem value_len {v : L8} (h : valueB v = true) : v.length ≤ 1000 := by
 unfold valueB at h
 rw [Bool.or_eq_true] at h
 rcases h with h | h
 ·skip
  rw [beq_iff_eq.1 h]; simp
 ·skip
  unfold eachB at h; simp at h; omega
theorem list_len {t : Tab} (hd : ndT t) (hp : allP t = true) (hv : allV t) : ∀ s ∈ listT t, s.k.length < 4294967000 ∧ s.v.length < 4294967000 := fun s hs => by
 obtain ⟨k, hk, rfl⟩ := List.mem_map.1 hs
 have hk' : k ∈ t.map (·.1) := keys_mem.1 hk
 have h1 := path_len (all_keys.1 hp _ hk')
 have h2 : hasL beqS t k = true := by
  rw [has_lk]
  cases hq : lk t k with
  | some v => rfl
  | none => exact absurd hk' (lk_none.1 hq)
 have h3 := value_len (hv _ (get_mem hd h2))
 exact ⟨by show k.length < _; omega, by show (getL beqS [] t k).length < _; simp only at h3; omega⟩
theorem run_zero {ss : List Stg} {rs : List Rul} (h : ((runP ss rs).2 != 0) = false) : (runF ss rs != 0) = false ∧ stepsE ss rs = 0 := by
 by_cases h1 : (runF ss rs != 0) = true
 ·skip
  rw [runP_1 h1] at h; rw [h1] at h; cases h
 ·skip
  have h1 := Bool.eq_false_iff.2 h1
  refine ⟨h1, ?_⟩
  by_cases h2 : stepsE ss rs = 0
  ·skip
   exact h2
  ·skip
   rw [runP_2 h1 _ rfl h2] at h; simp at h; exact absurd h h2
theorem runP_ok {ss : List Stg} {rs : List Rul} (h : ((runP ss rs).2 != 0) = false) : (runP ss rs).1 = listT (runT ss rs rs.length) ∧ listE pathB ss = 0 ∧ listE pathB (runP ss rs).1 = 0 := by
 obtain ⟨h1, h2⟩ := run_zero h
 have hok := run_ok h1
 have hw := way_all hok h2 rs.length (Nat.le_refl _)
 have hv := runV (runF_list h1) hok rs.length (Nat.le_refl _)
 rw [runP_3 h1 h2]
 exact ⟨rfl, runF_list h1, list_ok (run_nd _ _ _) hw.all hv⟩
theorem runP_len (ss : List Stg) (rs : List Rul) : (runP ss rs).1.length ≤ 2000 ∧ ∀ s ∈ (runP ss rs).1, s.k.length < 4294967000 ∧ s.v.length < 4294967000 := by
  by_cases h : ((runP ss rs).2 != 0) = false
  · obtain ⟨h1, h2⟩ := run_zero h
    have hok := run_ok h1
    have hw := way_all hok h2 rs.length (Nat.le_refl _)
    have hv := runV (runF_list h1) hok rs.length (Nat.le_refl _)
    rw [(runP_ok h).1]
    exact ⟨by rw [listT_len]; exact hw.len, list_len (run_nd _ _ _) hw.all hv⟩
  · have h : ((runP ss rs).2 != 0) = true := by simpa using h
    have : (runP ss rs).1 = [] := by
      by_cases h1 : (runF ss rs != 0) = true
      · rw [runP_1 h1]
      · have h1 := Bool.eq_false_iff.2 h1
        by_cases h2 : stepsE ss rs = 0
        · rw [runP_3 h1 h2] at h; cases h
        · rw [runP_2 h1 _ rfl h2]
    rw [this]
    exact ⟨by simp, fun s hs => by cases hs⟩
end
section
open Go
def quoteL : List UInt8 → List UInt8 → Nat → Option (List UInt8 × Nat)
 | [], _, _ => none
 | c :: l, o, i =>
  if c == 34 then some (o, i + 1)
  else if c == 92 then
   match l with
   | [] => none
   | d :: m => if d != 34 && d != 92 then none else quoteL m (o ++ [d]) (i + 2)
  else quoteL l (o ++ [c]) (i + 1)
theorem drop_at {s : List UInt8} {i : Nat} (h : i < s.length) : s.drop i = s.getD i 0 :: s.drop (i + 1) := by
 rw [List.getD_eq_getElem?_getD, List.getElem?_eq_getElem h]; exact List.drop_eq_getElem_cons h
theorem drop_end {s : List UInt8} {i : Nat} (h : s.length ≤ i) : s.drop i = [] := List.drop_of_length_le h
theorem qL_end {s o : List UInt8} {i : Nat} {q : Option (List UInt8 × Nat)} (h : s.length ≤ i) (hq : quoteL (s.drop i) o i = q) : q = none := by
 rw [drop_end h] at hq; exact hq.symm
theorem qL_q {s o : List UInt8} {i : Nat} {q : Option (List UInt8 × Nat)} (h : i < s.length) (hc : (s.getD i 0 == 34) = true) (hq : quoteL (s.drop i) o i = q) : q = some (o, i + 1) := by
 rw [drop_at h] at hq; unfold quoteL at hq; rw [if_pos hc] at hq; exact hq.symm
theorem qL_bad {s o : List UInt8} {i : Nat} {q : Option (List UInt8 × Nat)} (h : i < s.length) (hc : (s.getD i 0 == 34) = false) (hb : (s.getD i 0 == 92) = true)
  (hd : ((i + 1 : Nat) : Int) = (s.length : Int) ∨ ((s.getD (i + 1) 0 != 34) && (s.getD (i + 1) 0 != 92)) = true) (hq : quoteL (s.drop i) o i = q) : q = none := by
 rw [drop_at h] at hq; unfold quoteL at hq; rw [if_neg (by rw [hc]; simp), if_pos hb] at hq
 rcases Nat.lt_or_ge (i + 1) s.length with h1 | h1
 ·skip
  rw [drop_at h1] at hq
  have h2 : (s.getD (i + 1) 0 != 34 && s.getD (i + 1) 0 != 92) = true := hd.resolve_left (by omega)
  simp only [h2, if_true] at hq
  exact hq.symm
 ·skip
  rw [drop_end h1] at hq; exact hq.symm
theorem qL_esc {s o : List UInt8} {i : Nat} {q : Option (List UInt8 × Nat)} (h : i + 1 < s.length) (hc : (s.getD i 0 == 34) = false) (hb : (s.getD i 0 == 92) = true)
  (hd : ((s.getD (i + 1) 0 != 34) && (s.getD (i + 1) 0 != 92)) = false) (hq : quoteL (s.drop i) o i = q) : quoteL (s.drop (i + 1 + 1)) (o ++ [s.getD (i + 1) 0]) (i + 1 + 1) = q := by
 rw [drop_at (by omega)] at hq; unfold quoteL at hq; rw [if_neg (by rw [hc]; simp), if_pos hb, drop_at h] at hq
 simp only [hd, if_false, Bool.false_eq_true] at hq
 exact hq
theorem qL_c {s o : List UInt8} {i : Nat} {q : Option (List UInt8 × Nat)} (h : i < s.length) (hc : (s.getD i 0 == 34) = false) (hb : (s.getD i 0 == 92) = false)
  (hq : quoteL (s.drop i) o i = q) : quoteL (s.drop (i + 1)) (o ++ [s.getD i 0]) (i + 1) = q := by
 rw [drop_at h] at hq; unfold quoteL at hq; rw [if_neg (by rw [hc]; simp), if_neg (by rw [hb]; simp)] at hq
 exact hq
def qAt (s : List UInt8) (f : Nat) : Option (List UInt8 × Nat) := quoteL (s.drop (f + 1)) [] (f + 1)
def qT (q : Option (List UInt8 × Nat)) : List UInt8 := (q.map Prod.fst).getD []
def qE (q : Option (List UInt8 × Nat)) : Nat := (q.map Prod.snd).getD 0
theorem qL_le : ∀ (n : Nat) (l o : List UInt8) (i : Nat) (x : List UInt8) (e : Nat), l.length ≤ n → quoteL l o i = some (x, e) → i < e ∧ e ≤ i + l.length ∧ x.length ≤ o.length + l.length
  | 0, l, o, i, x, e, h, hq => by
    obtain rfl : l = [] := List.length_eq_zero_iff.1 (by omega)
    cases hq
  | n + 1, [], o, i, x, e, h, hq => by cases hq
  | n + 1, c :: l, o, i, x, e, h, hq => by
    unfold quoteL at hq
    by_cases h1 : (c == 34) = true
    · rw [if_pos h1] at hq
      simp only [Option.some.injEq, Prod.mk.injEq] at hq
      obtain ⟨rfl, rfl⟩ := hq
      simp
    · rw [if_neg h1] at hq
      by_cases h2 : (c == 92) = true
      · rw [if_pos h2] at hq
        match l, hq with
        | [], hq => cases hq
        | d :: m, hq =>
          by_cases h3 : (d != 34 && d != 92) = true
          · simp only [h3, if_true] at hq; cases hq
          · rw [Bool.not_eq_true] at h3
            simp only [h3, if_false, Bool.false_eq_true] at hq
            have := qL_le n m (o ++ [d]) (i + 2) x e (by simp at h; omega) hq
            simp at this ⊢; omega
      · rw [if_neg h2] at hq
        have := qL_le n l (o ++ [c]) (i + 1) x e (by simp at h; omega) hq
        simp at this ⊢; omega
end
section
open Go
theorem u8i {c k : UInt8} {b : Bool} (h : ((c.toNat : Int) == (k.toNat : Int)) = b) : (c == k) = b := by
 rw [← h]
 by_cases h1 : c = k
 ·skip
  subst h1; simp
 ·skip
  have h2 : c.toNat ≠ k.toNat := fun h => h1 (UInt8.toNat_inj.1 h)
  have h3 : ((c.toNat : Int) == (k.toNat : Int)) = false := by simp; omega
  rw [h3]; simpa using h1
theorem u8e (c k : UInt8) : ((c.toNat : Int) == (k.toNat : Int)) = (c == k) := (u8i rfl).symm
theorem u8n (c k : UInt8) : ((c.toNat : Int) != (k.toNat : Int)) = (c != k) := by
 show (!((c.toNat : Int) == (k.toNat : Int))) = !(c == k); rw [u8e]
theorem byteRow_add (o : List UInt8) (c : UInt8) : byteRow o ++ [[D.int .u8 (c.toNat : Int)]] = byteRow (o ++ [c]) := by simp [byteRow]
section
variable {s o : List UInt8} {i : Nat}
theorem qm1 (h : i < s.length) : s.length - (i + 1) < s.length - i := by omega
theorem qm2 (h : i < s.length) : s.length - (i + 1 + 1) < s.length - i := by omega
theorem qbad {x y : UInt8} (h : (((i + 1 : Nat) : Int) == (s.length : Int) || (((x.toNat : Int) != 34) && ((y.toNat : Int) != 92))) = true) : ((i + 1 : Nat) : Int) = (s.length : Int) ∨ ((x != 34) && (y != 92)) = true := by
 rcases Bool.or_eq_true_iff.1 h with h | h
 ·skip
  exact .inl (by simpa using h)
 ·skip
  right; rw [← u8n x 34, ← u8n y 92]; exact h
theorem qok1 {b : Bool} (hi : i < s.length) (h : (((i + 1 : Nat) : Int) == (s.length : Int) || b) = false) : i + 1 < s.length := by
 have : ¬ ((i + 1 : Nat) : Int) = (s.length : Int) := fun he => by rw [he] at h; simp at h
 omega
theorem qok2 {b : Bool} {x y : UInt8} (h : (b || (((x.toNat : Int) != 34) && ((y.toNat : Int) != 92))) = false) : ((x != 34) && (y != 92)) = false := by
 rw [← u8n x 34, ← u8n y 92]; exact (Bool.or_eq_false_iff.1 h).2
theorem qidx (hi : i < s.length) (h : (!(((i + 1 : Nat) : Int) == (s.length : Int))) = true) : (decide (0 ≤ ((i + 1 : Nat) : Int)) && decide (((i + 1 : Nat) : Int) < (s.length : Int))) = true := by
 have : ¬ ((i + 1 : Nat) : Int) = (s.length : Int) := fun he => by rw [he] at h; simp at h
 exact idx_ok (by omega) (by omega)
theorem qlen {x : List D} (hs : s.length ≤ 4000) (hi : i ≤ s.length) (ho : o.length ≤ i) : (byteRow o).length + [x].length ≤ 34359738368 := by simp [byteRow]; omega
theorem q_start {f : Nat} : quoteL (s.drop (f + 1)) [] (f + 1) = qAt s f := rfl
end
end
end Go.Proofs.YtpelfildfidnbaaGreatDoor
namespace Go.Proofs.YtpelfildfidnbaaGreatDoor
section
open Go
theorem qAt_le {s : List UInt8} {f : Nat} (hf : f < s.length) (h : (qAt s f).isSome = true) : f < qE (qAt s f) ∧ qE (qAt s f) ≤ s.length ∧ (qT (qAt s f)).length ≤ s.length := by
 obtain ⟨⟨x, e⟩, hq⟩ := Option.isSome_iff_exists.1 h
 have := qL_le _ _ _ _ _ _ (Nat.le_refl _) (show quoteL (s.drop (f + 1)) [] (f + 1) = some (x, e) from hq)
 rw [hq]
 simp at this
 simp [qE, qT]
 omega
end
section
open Go
def quoP (s : L8) : L8 × L8 × Bool :=
 if s == [] || (bI (s.getD 0 0) != 34) then ([], [], false)
 else match qAt s 0 with
  | some q => (q.1, s.drop q.2, true)
  | none => ([], [], false)
theorem quo_1 {s : L8} (h : (s == [] || (bI (s.getD 0 0) != 34)) = true) : quoP s = ([], [], false) := if_pos h
theorem quo_2 {s : L8} (h : (s == [] || (bI (s.getD 0 0) != 34)) = false) {x : L8} {e : Nat} (hq : qAt s 0 = some (x, e)) : quoP s = (x, s.drop e, true) := by
 unfold quoP; rw [if_neg (Bool.eq_false_iff.1 h), hq]
theorem quo_3 {s : L8} (h : (s == [] || (bI (s.getD 0 0) != 34)) = false) (hq : qAt s 0 = none) : quoP s = ([], [], false) := by
 unfold quoP; rw [if_neg (Bool.eq_false_iff.1 h), hq]
theorem quo_nil {s : L8} (h : (s == [] || (bI (s.getD 0 0) != 34)) = false) : 0 < s.length := by
 cases s with
 | nil => simp at h
 | cons a l => simp
theorem quo_le (s : L8) : (quoP s).1.length ≤ s.length ∧ (quoP s).2.1.length ≤ s.length := by
 unfold quoP
 split
 ·skip
  simp
 ·skip
  rename_i h
  have hs := quo_nil (s := s) (Bool.eq_false_iff.2 h)
  cases hq : qAt s 0 with
  | none => simp
  | some q =>
   have h1 := qAt_le hs (by rw [hq]; rfl)
   rw [hq] at h1
   exact ⟨h1.2.2, by simp⟩
theorem quo_b {s : L8} {N : Nat} (h : s.length ≤ N) : (quoP s).1.length ≤ N := Nat.le_trans (quo_le s).1 h
theorem quo_r {s : L8} {N : Nat} (h : s.length ≤ N) : (quoP s).2.1.length ≤ N := Nat.le_trans (quo_le s).2 h
theorem drop_b {s : L8} {N : Nat} (h : s.length ≤ N) : (s.drop 1).length ≤ N := by simp; omega
theorem pre_len {s : L8} {a : Bool} (h : (a || !Lib.hasPrefix s [32]) = false) : 1 ≤ s.length := by
 rw [Bool.or_eq_false_iff] at h
 have h2 : Lib.hasPrefix s [32] = true := by simpa using h.2
 obtain ⟨z, rfl⟩ := hasPrefix_iff.1 h2
 simp
theorem q0 {s : L8} (h : (!(s == [])) = true) : (decide (0 ≤ (0 : Int)) && decide ((0 : Int) < (s.length : Int))) = true := by
 cases s with
 | nil => simp at h
 | cons a l => simp
theorem sl_drop (s : L8) (i : Nat) : V.one (.d (.str ((s.take ((s.length : Int)).toNat).drop (((i + 1 : Nat) : Int)).toNat))) = V.one (.d (.str (s.drop (i + 1)))) := by
 rw [Int.toNat_natCast, Int.toNat_natCast, List.take_length]
theorem sl_drop1 (s : L8) : V.one (.d (.str ((s.take ((s.length : Int)).toNat).drop ((1 : Int)).toNat))) = V.one (.d (.str (s.drop 1))) := by
 rw [Int.toNat_natCast, List.take_length]; rfl
def prEnd (r : Rul) (rest : L8) : Rul × Int := if !(rest == []) then (Rul.z, 8) else if ruleC r != 0 then (Rul.z, ruleC r) else (r, 0)
def prNew (r : Rul) (rest : L8) : Rul × Int :=
 if usNew r.kd then (if !(quoP rest).2.2 then (Rul.z, 8) else prEnd ⟨r.kd, r.k, r.tu, r.old, (quoP rest).1⟩ (quoP rest).2.1) else prEnd r rest
def prOld (r : Rul) (rest : L8) : Rul × Int :=
 if usOld r.kd then (if !(quoP rest).2.2 || !Lib.hasPrefix (quoP rest).2.1 [32] then (Rul.z, 8) else prNew ⟨r.kd, r.k, r.tu, (quoP rest).1, r.nu⟩ ((quoP rest).2.1.drop 1)) else prNew r rest
def prTo (r : Rul) (rest : L8) : Rul × Int :=
 if usTu r.kd then (if rest == [] || Lib.contains rest [32] then (Rul.z, 8) else prOld ⟨r.kd, r.k, rest, r.old, r.nu⟩ []) else prOld r rest
def parK (kd : Int) (rest : L8) : Rul × Int :=
 if (Lib.cut rest [32]).1 == [] || ((Lib.cut rest [32]).2.2 != (usTu kd || usOld kd || usNew kd)) then (Rul.z, 8) else prTo ⟨kd, (Lib.cut rest [32]).1, [], [], []⟩ (Lib.cut rest [32]).2.1
end
section
open Go
open Go.RowKit
attribute [local irreducible] thenK blockK W
attribute [local irreducible] rangeB pathB nameB valueB quoteL qAt ruleC idxOf quoP Lib.cut Lib.contains
theorem pc_mquoted (s : List UInt8) (hs : s.length ≤ 4000) :
  PureCall Tryz.prog J 102 [.one (.d (.str s))] (.tup [.one (.d (.str (quoP s).1)), .one (.d (.str (quoP s).2.1)), .one (.d (.bool (quoP s).2.2))]) := by
 refine PureCall.of_body tOk (fn := Tryz.f102) Tryz.func102 (by kernel_rfl) rfl (Nat.le_of_ble_eq_true rfl) (fun E => ?_)
 iterate 11 first|refine Yp rfl ?_|refine Yg rfl rfl tg ?_|apply Y1|apply Ys|apply Yn
 refine YG rfl rfl tg (fun h => q0 h) rfl ?_
 refine Yg rfl rfl tg ?_
 refine S.pickOr tOk zOk rfl rfl tg ?_
 apply Yn
 refine W.cond rfl (fun c1=>?_) fun c1=>?_
 ·skip
  iterate 7 first|refine Yp rfl ?_|apply Yu|apply Yt|apply Y1|apply Yn
  exact Yz rfl rfl rfl (by rw [quo_1 c1]; rfl)
 have hf := quo_nil c1
 iterate 8 first|refine Yp rfl ?_|apply Yk|apply Y1|apply Y3|apply Yn|apply Ys
 refine W.newRow 5 1 5 rfl ?_
 apply Yb
 refine W.loop (fun k st => ∃ i : Nat, ∃ o : List UInt8, ∃ v : Nat, ∃ al : Bool, i ≤ s.length ∧ quoteL (s.drop i) o i = (qAt s 0) ∧ o.length ≤ i ∧ k = s.length - i ∧ ∃ t b2 r2 m2, st = ⟨t, [] ++ b2, [some ⟨al, v, 1, 5, byteRow o⟩] ++ r2, [] ++ m2⟩ ∧ holdsL t [(0, .one (.d (.str s))), (5, .one (.row 0 v 0 (byteRow o).length)), (6, .one (.d (.int .i64 (i : Int))))]) (s.length - 1) ⟨1, [], 0, false, hf, q_start, Nat.zero_le _, rfl, _, _, _, _, rfl, rfl, rfl, rfl, trivial⟩ ?_
 rintro k0 _ ⟨i, o, v, al, f0_0, f0_1, f0_2, rfl, t0, bb0, rr0, mm0, rfl, hh0⟩
 refine W.keepR _ _ _ _ _ _ _ hh0 rfl ?_
 apply Ys
 apply Y1
 iterate 4 refine Yp rfl ?_
 apply Yn
 refine W.cond rfl (fun c2=>?_) fun c2=>?_
 ·skip
  have hi : i < s.length := by simpa using c2
  iterate 8 first|refine Yp rfl ?_|apply Yb|apply Yk|apply Y1|apply Ys|apply Yn
  refine YP rfl (str_ok hi) rfl ?_
  iterate 6 first|refine Yp rfl ?_|apply Yb|apply Y1|apply Yn
  refine W.cond rfl (fun c3=>?_) fun c3=>?_
  ·skip
   have hq := qL_q hi (u8i (k := 34) c3) f0_1
   apply Ys
   refine W.regionS 9 mixed rfl (by kernel_rfl) ?_
   refine AnyZ.eager 0 rfl (by kernel_rfl) (Eag.pure tOk zOk rfl (fun _ _ _ => rfl) rfl rfl) ?_
   refine AnyZ.eager 2 rfl (by kernel_rfl) (Eag.pure tOk zOk rfl (fun _ _ _ => rfl) rfl rfl) ?_
   refine AnyZ.eager 3 rfl (by kernel_rfl) (Eag.pure tOk zOk rfl (fun _ _ _ => rfl) rfl rfl) ?_
   refine AnyZ.eager 4 rfl (by kernel_rfl) (Eag.pure tOk zOk rfl (fun _ _ _ => congrArg (fun x => some (_, x)) (inc_i64 (by omega))) rfl rfl) ?_
   refine AnyZ.two 1 5 (by kernel_rfl) rfl rfl ?_ ?_
   ·skip
    refine OpZ.convRow tOk o rfl rfl rfl rfl rfl rfl rfl rfl (by simp [byteRow]) ?_
    refine AnyZ.eager 6 rfl (by kernel_rfl) (Eag.pure tOk zOk rfl (fun _ _ _ => rfl) rfl rfl) ?_
    refine AnyZ.one 5 (by kernel_rfl) rfl ?_
    refine OpZ.d ?_
    refine D.pureE tOk zOk rfl rfl (sl_ok (by omega) (by omega) (by omega)) (sl_drop s i) rfl ?_
    refine WD.nil ?_
    refine AnyZ.eager 7 rfl (by kernel_rfl) (Eag.pure tOk zOk rfl (fun _ _ _ => rfl) rfl rfl) ?_
    refine AnyZ.eager 8 rfl (by kernel_rfl) (Eag.pure tOk zOk rfl (fun _ _ _ => rfl) rfl rfl) ?_
    refine AnyZ.nil (by kernel_rfl) ?_
    iterate 9 first|apply Yu|apply Yv|apply Yt|apply Yn
    exact Yz rfl rfl rfl (by first | (rw [quo_2 c1 hq]; rfl) | (rw [quo_3 c1 hq]; rfl))
   refine OpZ.d ?_
   refine D.pureE tOk zOk rfl rfl (sl_ok (by omega) (by omega) (by omega)) (sl_drop s i) rfl ?_
   refine WD.nil ?_
   refine AnyZ.one 1 (by kernel_rfl) rfl ?_
   refine OpZ.convRow tOk o rfl rfl rfl rfl rfl rfl rfl rfl (by simp [byteRow]) ?_
   refine AnyZ.eager 6 rfl (by kernel_rfl) (Eag.pure tOk zOk rfl (fun _ _ _ => rfl) rfl rfl) ?_
   refine AnyZ.eager 7 rfl (by kernel_rfl) (Eag.pure tOk zOk rfl (fun _ _ _ => rfl) rfl rfl) ?_
   refine AnyZ.eager 8 rfl (by kernel_rfl) (Eag.pure tOk zOk rfl (fun _ _ _ => rfl) rfl rfl) ?_
   refine AnyZ.nil (by kernel_rfl) ?_
   iterate 9 first|apply Yu|apply Yv|apply Yt|apply Yn
   exact Yz rfl rfl rfl (by first | (rw [quo_2 c1 hq]; rfl) | (rw [quo_3 c1 hq]; rfl))
  have hc := u8i (c := s.getD i 0) (k := 34) c3
  apply Y1
  iterate 2 refine Yp rfl ?_
  apply Yn
  refine W.cond rfl (fun c4=>?_) fun c4=>?_
  ·skip
   have hb := u8i (c := s.getD i 0) (k := 92) c4
   apply Y1
   refine Yp rfl ?_
   refine YE rfl rfl (inc_i64 (by omega)) rfl ?_
   iterate 9 first|refine Yp rfl ?_|refine Yg rfl rfl tg ?_|apply Y3
   refine YG rfl rfl tg (fun h => qidx hi h) rfl ?_
   iterate 4 refine Yg rfl rfl tg ?_
   refine YG rfl rfl tg (fun h => qidx hi (andl h)) rfl ?_
   refine Yg rfl rfl tg ?_
   refine S.pickAndG tOk zOk rfl rfl rfl tg tg ?_
   refine S.pickOr tOk zOk rfl rfl tg ?_
   apply Yn
   refine W.cond rfl (fun c5=>?_) fun c5=>?_
   ·skip
    have hq := qL_bad hi hc hb (qbad c5) f0_1
    iterate 13 first|apply Yu|apply Yv|refine Yp rfl ?_|apply Yt|apply Y1|apply Yn
    exact Yz rfl rfl rfl (by first | (rw [quo_2 c1 hq]; rfl) | (rw [quo_3 c1 hq]; rfl))
   have hi1 : i + 1 < s.length := qok1 hi c5
   have hd := qok2 c5
   iterate 6 first|refine Yp rfl ?_|apply Yw|apply Yk|apply Y4
   refine YP rfl (by first | exact str_ok hi1 | exact str_ok hi) rfl ?_
   refine S.slice tOk rfl rfl ?_
   refine S.append tOk rfl rfl rfl rfl rfl rfl rfl rfl rfl rfl rfl rfl (qlen hs f0_0 f0_2) rfl (byteRow_add o (s.getD (i + 1) 0)) rfl ?_
   iterate 6 first|refine Yp rfl ?_|apply Yw|apply Y4
   refine loop_n (s.length - _) (by first | exact qm2 hi | exact qm1 hi) ⟨i + 1 + 1, _, _, _, hi1, qL_esc hi1 hc hb hd f0_1, (by simp; omega), rfl, _, _, _, _, rfl, rfl, rfl, inc_i64 (by omega), trivial⟩
  have hb := u8i (c := s.getD i 0) (k := 92) c4
  apply Yk
  apply Yw
  apply Y4
  iterate 3 refine Yp rfl ?_
  refine YP rfl (by first | exact str_ok hi1 | exact str_ok hi) rfl ?_
  refine S.slice tOk rfl rfl ?_
  refine S.append tOk rfl rfl rfl rfl rfl rfl rfl rfl rfl rfl rfl rfl (qlen hs f0_0 f0_2) rfl (byteRow_add o (s.getD i 0)) rfl ?_
  iterate 6 first|refine Yp rfl ?_|apply Yw|apply Y4
  refine loop_n (s.length - _) (by first | exact qm2 hi | exact qm1 hi) ⟨i + 1, _, _, _, hi, qL_c hi hc hb f0_1, (by simp; omega), rfl, _, _, _, _, rfl, rfl, rfl, inc_i64 (by omega), trivial⟩
 have hi : s.length ≤ i := by simpa using c2
 have hq := qL_end hi f0_1
 iterate 9 first|refine Yp rfl ?_|apply Ye|apply Yx|apply Yq|apply Y3|apply Yn
 apply Yt
 exact Yz rfl rfl rfl (by first | (rw [quo_2 c1 hq]; rfl) | (rw [quo_3 c1 hq]; rfl))
def parR (s : L8) : Rul × Int :=
 if decide ((s.length : Int) > 4000) then (Rul.z, 4)
 else if !(Lib.cut s [32]).2.2 || decide (idxOf (fun y => (Lib.cut s [32]).1 == y) ruleWs < 1) then (Rul.z, 8)
 else parK (idxOf (fun y => (Lib.cut s [32]).1 == y) ruleWs) (Lib.cut s [32]).2.1
theorem pc_ParseRule (s : List UInt8) (hs : s.length ≤ 4000000) :
  PureCall Tryz.prog J 48 [.one (.d (.str s))] (.tup [.agg [.d (.int .i64 (parR s).1.kd), .d (.str (parR s).1.k), .d (.str (parR s).1.tu), .d (.str (parR s).1.old), .d (.str (parR s).1.nu)], .one (.d (.int .i64 (parR s).2))]) := by
 have hc1 := cut_le s [32]
 have hc2 := cut_le (Lib.cut s [32]).2.1 [32]
 refine PureCall.of_body tOk (fn := Tryz.f48) Tryz.func48 (by kernel_rfl) rfl (Nat.le_of_ble_eq_true rfl) (fun E => ?_)
 iterate 10 first|refine Yp rfl ?_|refine S.alloc tOk rfl rfl rfl rfl ?_|apply Y1|apply Yn|apply Ys
 refine W.cond rfl (fun c1=>?_) fun c1=>?_
 ·skip
  iterate 7 first|refine Yp rfl ?_|apply Yu|apply Yt|refine S.store tOk rfl rfl rfl rfl rfl rfl rfl rfl ?_|apply Y1|apply Yn
  exact Yz rfl rfl rfl (congrArg (fun x : Rul × Int => V.tup [V.agg [.d (.int .i64 x.1.kd), .d (.str x.1.k), .d (.str x.1.tu), .d (.str x.1.old), .d (.str x.1.nu)], V.one (C.d (D.int .i64 x.2))]) ((if_pos c1) : parR s = _)).symm
 have hs4 : s.length ≤ 4000 := by simp at c1; omega
 apply Yk
 apply Y3
 refine Yp rfl ?_
 refine S.call rfl rfl rfl rfl rfl (pc_Cut s [32] (by omega)) ?_
 iterate 7 refine Yp rfl ?_
 apply Y3
 refine S.call rfl rfl rfl rfl rfl (pc_migrate_ruleWords) ?_
 refine Yp rfl ?_
 refine S.call rfl rfl rfl rfl rfl (pc_IndexS ruleWs (Lib.cut s [32]).1 (by decide)) ?_
 iterate 14 first|refine S.pickOr tOk zOk rfl rfl tg ?_|refine Yp rfl ?_|refine Yg rfl rfl tg ?_|refine S.store tOk rfl rfl rfl rfl rfl rfl rfl rfl ?_|refine S.alloc tOk rfl rfl rfl rfl ?_|apply Y1|apply Yn|apply Ys
 refine W.cond rfl (fun c2=>?_) fun c2=>?_
 ·skip
  iterate 7 first|refine Yp rfl ?_|apply Yu|apply Yt|refine S.store tOk rfl rfl rfl rfl rfl rfl rfl rfl ?_|apply Y1|apply Yn
  exact Yz rfl rfl rfl (congrArg (fun x : Rul × Int => V.tup [V.agg [.d (.int .i64 x.1.kd), .d (.str x.1.k), .d (.str x.1.tu), .d (.str x.1.old), .d (.str x.1.nu)], V.one (C.d (D.int .i64 x.2))]) (((if_neg (Bool.eq_false_iff.1 c1)).trans (if_pos c2)) : parR s = _)).symm
 apply Yk
 apply Y3
 iterate 2 refine Yp rfl ?_
 refine S.call rfl rfl rfl rfl rfl (pc_uses (idxOf (fun y => (Lib.cut s [32]).1 == y) ruleWs)) ?_
 iterate 11 first|refine Yp rfl ?_|apply Y3
 refine S.call rfl rfl rfl rfl rfl (pc_Cut (Lib.cut s [32]).2.1 [32] (by omega)) ?_
 iterate 19 first|refine Yp rfl ?_|refine Yg rfl rfl tg ?_|refine S.store tOk rfl rfl rfl rfl rfl rfl rfl rfl ?_|apply Y1|apply Ys|apply Yn
 refine S.pickOrG tOk zOk rfl rfl rfl tg tg ?_
 iterate 2 refine Yg rfl rfl tg ?_
 refine S.pickOrG tOk zOk rfl rfl rfl tg tg ?_
 refine Yg rfl rfl tg ?_
 refine S.pickOr tOk zOk rfl rfl tg ?_
 apply Yn
 refine W.cond rfl (fun c3=>?_) fun c3=>?_
 ·skip
  iterate 7 first|refine Yp rfl ?_|apply Yu|apply Yt|refine S.store tOk rfl rfl rfl rfl rfl rfl rfl rfl ?_|apply Y1|apply Yn
  exact Yz rfl rfl rfl (congrArg (fun x : Rul × Int => V.tup [V.agg [.d (.int .i64 x.1.kd), .d (.str x.1.k), .d (.str x.1.tu), .d (.str x.1.old), .d (.str x.1.nu)], V.one (C.d (D.int .i64 x.2))]) (((if_neg (Bool.eq_false_iff.1 c1)).trans ((if_neg (Bool.eq_false_iff.1 c2)).trans (if_pos c3))) : parR s = _)).symm
 apply Yk
 apply Yn
 apply Ys
 apply Y1
 refine Yp rfl ?_
 apply Yn
 refine W.cond rfl (fun c4=>?_) fun c4=>?_
 ·skip
  iterate 12 first|refine Yp rfl ?_|refine Yg rfl rfl tg ?_|refine S.store tOk rfl rfl rfl rfl rfl rfl rfl rfl ?_|apply Y3|apply Y1
  refine S.callG rfl rfl rfl rfl tg rfl rfl (fun _ => pc_Contains (Lib.cut (Lib.cut s [32]).2.1 [32]).2.1 [32] (by omega)) ?_
  refine S.pickOr tOk zOk rfl rfl tg ?_
  apply Yn
  refine W.cond rfl (fun c5=>?_) fun c5=>?_
  ·skip
   iterate 7 first|refine Yp rfl ?_|apply Yu|apply Yt|refine S.store tOk rfl rfl rfl rfl rfl rfl rfl rfl ?_|apply Y1|apply Yn
   exact Yz rfl rfl rfl (congrArg (fun x : Rul × Int => V.tup [V.agg [.d (.int .i64 x.1.kd), .d (.str x.1.k), .d (.str x.1.tu), .d (.str x.1.old), .d (.str x.1.nu)], V.one (C.d (D.int .i64 x.2))]) (((if_neg (Bool.eq_false_iff.1 c1)).trans ((if_neg (Bool.eq_false_iff.1 c2)).trans ((if_neg (Bool.eq_false_iff.1 c3)).trans ((if_pos c4).trans (if_pos c5))))) : parR s = _)).symm
  iterate 6 first|refine Yp rfl ?_|apply Yk|apply Y1|apply Yn|apply Ys
  refine W.cond rfl (fun c6=>?_) fun c6=>?_
  ·skip
   apply Ys
   apply Y1
   refine Yp rfl ?_
   refine S.call rfl rfl rfl rfl rfl (pc_mquoted _ (by (try dsimp only); repeat first | omega | exact Nat.le_trans hc2.1 (by omega) | exact Nat.le_trans hc2.2 (by omega) | exact Nat.zero_le _ | apply quo_b | apply quo_r | apply drop_b)) ?_
   iterate 13 first|refine Yp rfl ?_|refine Yg rfl rfl tg ?_|refine S.store tOk rfl rfl rfl rfl rfl rfl rfl rfl ?_|apply Y3
   refine S.callG rfl rfl rfl rfl tg rfl rfl (fun _ => pc_HasPrefix _ [32]) ?_
   refine Yg rfl rfl tg ?_
   refine S.pickOr tOk zOk rfl rfl tg ?_
   apply Yn
   refine W.cond rfl (fun c7=>?_) fun c7=>?_
   ·skip
    iterate 8 first|apply Yu|refine Yp rfl ?_|apply Yt|refine S.store tOk rfl rfl rfl rfl rfl rfl rfl rfl ?_|apply Y1|apply Yn
    exact Yz rfl rfl rfl (congrArg (fun x : Rul × Int => V.tup [V.agg [.d (.int .i64 x.1.kd), .d (.str x.1.k), .d (.str x.1.tu), .d (.str x.1.old), .d (.str x.1.nu)], V.one (C.d (D.int .i64 x.2))]) (((if_neg (Bool.eq_false_iff.1 c1)).trans ((if_neg (Bool.eq_false_iff.1 c2)).trans ((if_neg (Bool.eq_false_iff.1 c3)).trans ((if_pos c4).trans ((if_neg (Bool.eq_false_iff.1 c5)).trans ((if_pos c6).trans (if_pos c7))))))) : parR s = _)).symm
   have hpl := pre_len (by first | assumption)
   apply Yk
   apply Y4
   refine Yp rfl ?_
   refine YE rfl (sl_ok (by omega) (by omega) (by omega)) (sl_drop1 _) rfl ?_
   iterate 6 first|refine Yp rfl ?_|apply Y1|apply Yn|apply Ys
   refine W.cond rfl (fun c8=>?_) fun c8=>?_
   ·skip
    apply Y1
    refine Yp rfl ?_
    refine S.call rfl rfl rfl rfl rfl (pc_mquoted _ (by (try dsimp only); repeat first | omega | exact Nat.le_trans hc2.1 (by omega) | exact Nat.le_trans hc2.2 (by omega) | exact Nat.zero_le _ | apply quo_b | apply quo_r | apply drop_b)) ?_
    iterate 12 first|refine Yp rfl ?_|refine S.store tOk rfl rfl rfl rfl rfl rfl rfl rfl ?_|apply Y3|apply Yn
    refine W.cond rfl (fun c9=>?_) fun c9=>?_
    ·skip
     iterate 7 first|refine Yp rfl ?_|apply Yu|apply Yt|refine S.store tOk rfl rfl rfl rfl rfl rfl rfl rfl ?_|apply Y1|apply Yn
     exact Yz rfl rfl rfl (congrArg (fun x : Rul × Int => V.tup [V.agg [.d (.int .i64 x.1.kd), .d (.str x.1.k), .d (.str x.1.tu), .d (.str x.1.old), .d (.str x.1.nu)], V.one (C.d (D.int .i64 x.2))]) (((if_neg (Bool.eq_false_iff.1 c1)).trans ((if_neg (Bool.eq_false_iff.1 c2)).trans ((if_neg (Bool.eq_false_iff.1 c3)).trans ((if_pos c4).trans ((if_neg (Bool.eq_false_iff.1 c5)).trans ((if_pos c6).trans ((if_neg (Bool.eq_false_iff.1 c7)).trans ((if_pos c8).trans (if_pos c9))))))))) : parR s = _)).symm
    iterate 7 first|refine Yp rfl ?_|apply Yk|apply Y1|apply Yn|apply Ys
    refine W.cond rfl (fun c10=>?_) fun c10=>?_
    ·skip
     iterate 7 first|refine Yp rfl ?_|apply Yu|apply Yt|refine S.store tOk rfl rfl rfl rfl rfl rfl rfl rfl ?_|apply Y1|apply Yn
     exact Yz rfl rfl rfl (congrArg (fun x : Rul × Int => V.tup [V.agg [.d (.int .i64 x.1.kd), .d (.str x.1.k), .d (.str x.1.tu), .d (.str x.1.old), .d (.str x.1.nu)], V.one (C.d (D.int .i64 x.2))]) (((if_neg (Bool.eq_false_iff.1 c1)).trans ((if_neg (Bool.eq_false_iff.1 c2)).trans ((if_neg (Bool.eq_false_iff.1 c3)).trans ((if_pos c4).trans ((if_neg (Bool.eq_false_iff.1 c5)).trans ((if_pos c6).trans ((if_neg (Bool.eq_false_iff.1 c7)).trans ((if_pos c8).trans ((if_neg (Bool.eq_false_iff.1 c9)).trans (if_pos c10)))))))))) : parR s = _)).symm
    apply Yk
    apply Yn
    apply Ys
    apply Y1
    refine Yp rfl ?_
    refine S.call rfl rfl rfl rfl rfl (pc_CheckRule ⟨_, _, _, _, _⟩ ⟨by (try dsimp only); repeat first | omega | exact Nat.le_trans hc2.1 (by omega) | exact Nat.le_trans hc2.2 (by omega) | exact Nat.zero_le _ | apply quo_b | apply quo_r | apply drop_b, by (try dsimp only); repeat first | omega | exact Nat.le_trans hc2.1 (by omega) | exact Nat.le_trans hc2.2 (by omega) | exact Nat.zero_le _ | apply quo_b | apply quo_r | apply drop_b, by (try dsimp only); repeat first | omega | exact Nat.le_trans hc2.1 (by omega) | exact Nat.le_trans hc2.2 (by omega) | exact Nat.zero_le _ | apply quo_b | apply quo_r | apply drop_b, by (try dsimp only); repeat first | omega | exact Nat.le_trans hc2.1 (by omega) | exact Nat.le_trans hc2.2 (by omega) | exact Nat.zero_le _ | apply quo_b | apply quo_r | apply drop_b⟩) ?_
    iterate 5 first|refine Yp rfl ?_|apply Y3|apply Yn
    refine W.cond rfl (fun c11=>?_) fun c11=>?_
    ·skip
     iterate 8 first|refine Yp rfl ?_|apply Yu|apply Yt|refine S.store tOk rfl rfl rfl rfl rfl rfl rfl rfl ?_|apply Y1|apply Yn
     exact Yz rfl rfl rfl (congrArg (fun x : Rul × Int => V.tup [V.agg [.d (.int .i64 x.1.kd), .d (.str x.1.k), .d (.str x.1.tu), .d (.str x.1.old), .d (.str x.1.nu)], V.one (C.d (D.int .i64 x.2))]) (((if_neg (Bool.eq_false_iff.1 c1)).trans ((if_neg (Bool.eq_false_iff.1 c2)).trans ((if_neg (Bool.eq_false_iff.1 c3)).trans ((if_pos c4).trans ((if_neg (Bool.eq_false_iff.1 c5)).trans ((if_pos c6).trans ((if_neg (Bool.eq_false_iff.1 c7)).trans ((if_pos c8).trans ((if_neg (Bool.eq_false_iff.1 c9)).trans ((if_neg (Bool.eq_false_iff.1 c10)).trans (if_pos c11))))))))))) : parR s = _)).symm
    iterate 7 first|refine Yp rfl ?_|apply Yt|refine S.store tOk rfl rfl rfl rfl rfl rfl rfl rfl ?_|apply Yk|apply Y3|apply Yn
    exact Yz rfl rfl rfl (congrArg (fun x : Rul × Int => V.tup [V.agg [.d (.int .i64 x.1.kd), .d (.str x.1.k), .d (.str x.1.tu), .d (.str x.1.old), .d (.str x.1.nu)], V.one (C.d (D.int .i64 x.2))]) (((if_neg (Bool.eq_false_iff.1 c1)).trans ((if_neg (Bool.eq_false_iff.1 c2)).trans ((if_neg (Bool.eq_false_iff.1 c3)).trans ((if_pos c4).trans ((if_neg (Bool.eq_false_iff.1 c5)).trans ((if_pos c6).trans ((if_neg (Bool.eq_false_iff.1 c7)).trans ((if_pos c8).trans ((if_neg (Bool.eq_false_iff.1 c9)).trans ((if_neg (Bool.eq_false_iff.1 c10)).trans (if_neg (Bool.eq_false_iff.1 c11)))))))))))) : parR s = _)).symm
   iterate 7 first|refine Yp rfl ?_|apply Yk|apply Y1|apply Yn|apply Ys
   refine W.cond rfl (fun c12=>?_) fun c12=>?_
   ·skip
    iterate 7 first|refine Yp rfl ?_|apply Yu|apply Yt|refine S.store tOk rfl rfl rfl rfl rfl rfl rfl rfl ?_|apply Y1|apply Yn
    exact Yz rfl rfl rfl (congrArg (fun x : Rul × Int => V.tup [V.agg [.d (.int .i64 x.1.kd), .d (.str x.1.k), .d (.str x.1.tu), .d (.str x.1.old), .d (.str x.1.nu)], V.one (C.d (D.int .i64 x.2))]) (((if_neg (Bool.eq_false_iff.1 c1)).trans ((if_neg (Bool.eq_false_iff.1 c2)).trans ((if_neg (Bool.eq_false_iff.1 c3)).trans ((if_pos c4).trans ((if_neg (Bool.eq_false_iff.1 c5)).trans ((if_pos c6).trans ((if_neg (Bool.eq_false_iff.1 c7)).trans ((if_neg (Bool.eq_false_iff.1 c8)).trans (if_pos c12))))))))) : parR s = _)).symm
   apply Yk
   apply Yn
   apply Ys
   apply Y1
   refine Yp rfl ?_
   refine S.call rfl rfl rfl rfl rfl (pc_CheckRule ⟨_, _, _, _, _⟩ ⟨by (try dsimp only); repeat first | omega | exact Nat.le_trans hc2.1 (by omega) | exact Nat.le_trans hc2.2 (by omega) | exact Nat.zero_le _ | apply quo_b | apply quo_r | apply drop_b, by (try dsimp only); repeat first | omega | exact Nat.le_trans hc2.1 (by omega) | exact Nat.le_trans hc2.2 (by omega) | exact Nat.zero_le _ | apply quo_b | apply quo_r | apply drop_b, by (try dsimp only); repeat first | omega | exact Nat.le_trans hc2.1 (by omega) | exact Nat.le_trans hc2.2 (by omega) | exact Nat.zero_le _ | apply quo_b | apply quo_r | apply drop_b, by (try dsimp only); repeat first | omega | exact Nat.le_trans hc2.1 (by omega) | exact Nat.le_trans hc2.2 (by omega) | exact Nat.zero_le _ | apply quo_b | apply quo_r | apply drop_b⟩) ?_
   iterate 5 first|refine Yp rfl ?_|apply Y3|apply Yn
   refine W.cond rfl (fun c13=>?_) fun c13=>?_
   ·skip
    iterate 8 first|refine Yp rfl ?_|apply Yu|apply Yt|refine S.store tOk rfl rfl rfl rfl rfl rfl rfl rfl ?_|apply Y1|apply Yn
    exact Yz rfl rfl rfl (congrArg (fun x : Rul × Int => V.tup [V.agg [.d (.int .i64 x.1.kd), .d (.str x.1.k), .d (.str x.1.tu), .d (.str x.1.old), .d (.str x.1.nu)], V.one (C.d (D.int .i64 x.2))]) (((if_neg (Bool.eq_false_iff.1 c1)).trans ((if_neg (Bool.eq_false_iff.1 c2)).trans ((if_neg (Bool.eq_false_iff.1 c3)).trans ((if_pos c4).trans ((if_neg (Bool.eq_false_iff.1 c5)).trans ((if_pos c6).trans ((if_neg (Bool.eq_false_iff.1 c7)).trans ((if_neg (Bool.eq_false_iff.1 c8)).trans ((if_neg (Bool.eq_false_iff.1 c12)).trans (if_pos c13)))))))))) : parR s = _)).symm
   iterate 7 first|refine Yp rfl ?_|apply Yt|refine S.store tOk rfl rfl rfl rfl rfl rfl rfl rfl ?_|apply Yk|apply Y3|apply Yn
   exact Yz rfl rfl rfl (congrArg (fun x : Rul × Int => V.tup [V.agg [.d (.int .i64 x.1.kd), .d (.str x.1.k), .d (.str x.1.tu), .d (.str x.1.old), .d (.str x.1.nu)], V.one (C.d (D.int .i64 x.2))]) (((if_neg (Bool.eq_false_iff.1 c1)).trans ((if_neg (Bool.eq_false_iff.1 c2)).trans ((if_neg (Bool.eq_false_iff.1 c3)).trans ((if_pos c4).trans ((if_neg (Bool.eq_false_iff.1 c5)).trans ((if_pos c6).trans ((if_neg (Bool.eq_false_iff.1 c7)).trans ((if_neg (Bool.eq_false_iff.1 c8)).trans ((if_neg (Bool.eq_false_iff.1 c12)).trans (if_neg (Bool.eq_false_iff.1 c13))))))))))) : parR s = _)).symm
  iterate 6 first|refine Yp rfl ?_|apply Yk|apply Y1|apply Yn|apply Ys
  refine W.cond rfl (fun c14=>?_) fun c14=>?_
  ·skip
   apply Y1
   refine Yp rfl ?_
   refine S.call rfl rfl rfl rfl rfl (pc_mquoted _ (by (try dsimp only); repeat first | omega | exact Nat.le_trans hc2.1 (by omega) | exact Nat.le_trans hc2.2 (by omega) | exact Nat.zero_le _ | apply quo_b | apply quo_r | apply drop_b)) ?_
   iterate 12 first|refine Yp rfl ?_|refine S.store tOk rfl rfl rfl rfl rfl rfl rfl rfl ?_|apply Y3|apply Yn
   refine W.cond rfl (fun c15=>?_) fun c15=>?_
   ·skip
    iterate 7 first|refine Yp rfl ?_|apply Yu|apply Yt|refine S.store tOk rfl rfl rfl rfl rfl rfl rfl rfl ?_|apply Y1|apply Yn
    exact Yz rfl rfl rfl (congrArg (fun x : Rul × Int => V.tup [V.agg [.d (.int .i64 x.1.kd), .d (.str x.1.k), .d (.str x.1.tu), .d (.str x.1.old), .d (.str x.1.nu)], V.one (C.d (D.int .i64 x.2))]) (((if_neg (Bool.eq_false_iff.1 c1)).trans ((if_neg (Bool.eq_false_iff.1 c2)).trans ((if_neg (Bool.eq_false_iff.1 c3)).trans ((if_pos c4).trans ((if_neg (Bool.eq_false_iff.1 c5)).trans ((if_neg (Bool.eq_false_iff.1 c6)).trans ((if_pos c14).trans (if_pos c15)))))))) : parR s = _)).symm
   iterate 7 first|refine Yp rfl ?_|apply Yk|apply Y1|apply Yn|apply Ys
   refine W.cond rfl (fun c16=>?_) fun c16=>?_
   ·skip
    iterate 7 first|refine Yp rfl ?_|apply Yu|apply Yt|refine S.store tOk rfl rfl rfl rfl rfl rfl rfl rfl ?_|apply Y1|apply Yn
    exact Yz rfl rfl rfl (congrArg (fun x : Rul × Int => V.tup [V.agg [.d (.int .i64 x.1.kd), .d (.str x.1.k), .d (.str x.1.tu), .d (.str x.1.old), .d (.str x.1.nu)], V.one (C.d (D.int .i64 x.2))]) (((if_neg (Bool.eq_false_iff.1 c1)).trans ((if_neg (Bool.eq_false_iff.1 c2)).trans ((if_neg (Bool.eq_false_iff.1 c3)).trans ((if_pos c4).trans ((if_neg (Bool.eq_false_iff.1 c5)).trans ((if_neg (Bool.eq_false_iff.1 c6)).trans ((if_pos c14).trans ((if_neg (Bool.eq_false_iff.1 c15)).trans (if_pos c16))))))))) : parR s = _)).symm
   apply Yk
   apply Yn
   apply Ys
   apply Y1
   refine Yp rfl ?_
   refine S.call rfl rfl rfl rfl rfl (pc_CheckRule ⟨_, _, _, _, _⟩ ⟨by (try dsimp only); repeat first | omega | exact Nat.le_trans hc2.1 (by omega) | exact Nat.le_trans hc2.2 (by omega) | exact Nat.zero_le _ | apply quo_b | apply quo_r | apply drop_b, by (try dsimp only); repeat first | omega | exact Nat.le_trans hc2.1 (by omega) | exact Nat.le_trans hc2.2 (by omega) | exact Nat.zero_le _ | apply quo_b | apply quo_r | apply drop_b, by (try dsimp only); repeat first | omega | exact Nat.le_trans hc2.1 (by omega) | exact Nat.le_trans hc2.2 (by omega) | exact Nat.zero_le _ | apply quo_b | apply quo_r | apply drop_b, by (try dsimp only); repeat first | omega | exact Nat.le_trans hc2.1 (by omega) | exact Nat.le_trans hc2.2 (by omega) | exact Nat.zero_le _ | apply quo_b | apply quo_r | apply drop_b⟩) ?_
   iterate 5 first|refine Yp rfl ?_|apply Y3|apply Yn
   refine W.cond rfl (fun c17=>?_) fun c17=>?_
   ·skip
    iterate 8 first|refine Yp rfl ?_|apply Yu|apply Yt|refine S.store tOk rfl rfl rfl rfl rfl rfl rfl rfl ?_|apply Y1|apply Yn
    exact Yz rfl rfl rfl (congrArg (fun x : Rul × Int => V.tup [V.agg [.d (.int .i64 x.1.kd), .d (.str x.1.k), .d (.str x.1.tu), .d (.str x.1.old), .d (.str x.1.nu)], V.one (C.d (D.int .i64 x.2))]) (((if_neg (Bool.eq_false_iff.1 c1)).trans ((if_neg (Bool.eq_false_iff.1 c2)).trans ((if_neg (Bool.eq_false_iff.1 c3)).trans ((if_pos c4).trans ((if_neg (Bool.eq_false_iff.1 c5)).trans ((if_neg (Bool.eq_false_iff.1 c6)).trans ((if_pos c14).trans ((if_neg (Bool.eq_false_iff.1 c15)).trans ((if_neg (Bool.eq_false_iff.1 c16)).trans (if_pos c17)))))))))) : parR s = _)).symm
   iterate 7 first|refine Yp rfl ?_|apply Yt|refine S.store tOk rfl rfl rfl rfl rfl rfl rfl rfl ?_|apply Yk|apply Y3|apply Yn
   exact Yz rfl rfl rfl (congrArg (fun x : Rul × Int => V.tup [V.agg [.d (.int .i64 x.1.kd), .d (.str x.1.k), .d (.str x.1.tu), .d (.str x.1.old), .d (.str x.1.nu)], V.one (C.d (D.int .i64 x.2))]) (((if_neg (Bool.eq_false_iff.1 c1)).trans ((if_neg (Bool.eq_false_iff.1 c2)).trans ((if_neg (Bool.eq_false_iff.1 c3)).trans ((if_pos c4).trans ((if_neg (Bool.eq_false_iff.1 c5)).trans ((if_neg (Bool.eq_false_iff.1 c6)).trans ((if_pos c14).trans ((if_neg (Bool.eq_false_iff.1 c15)).trans ((if_neg (Bool.eq_false_iff.1 c16)).trans (if_neg (Bool.eq_false_iff.1 c17))))))))))) : parR s = _)).symm
  iterate 7 first|refine Yp rfl ?_|apply Yk|apply Y1|apply Yn|apply Ys
  refine W.cond rfl (fun c18=>?_) fun c18=>?_
  ·skip
   iterate 7 first|refine Yp rfl ?_|apply Yu|apply Yt|refine S.store tOk rfl rfl rfl rfl rfl rfl rfl rfl ?_|apply Y1|apply Yn
   exact Yz rfl rfl rfl (congrArg (fun x : Rul × Int => V.tup [V.agg [.d (.int .i64 x.1.kd), .d (.str x.1.k), .d (.str x.1.tu), .d (.str x.1.old), .d (.str x.1.nu)], V.one (C.d (D.int .i64 x.2))]) (((if_neg (Bool.eq_false_iff.1 c1)).trans ((if_neg (Bool.eq_false_iff.1 c2)).trans ((if_neg (Bool.eq_false_iff.1 c3)).trans ((if_pos c4).trans ((if_neg (Bool.eq_false_iff.1 c5)).trans ((if_neg (Bool.eq_false_iff.1 c6)).trans ((if_neg (Bool.eq_false_iff.1 c14)).trans (if_pos c18)))))))) : parR s = _)).symm
  apply Yk
  apply Yn
  apply Ys
  apply Y1
  refine Yp rfl ?_
  refine S.call rfl rfl rfl rfl rfl (pc_CheckRule ⟨_, _, _, _, _⟩ ⟨by (try dsimp only); repeat first | omega | exact Nat.le_trans hc2.1 (by omega) | exact Nat.le_trans hc2.2 (by omega) | exact Nat.zero_le _ | apply quo_b | apply quo_r | apply drop_b, by (try dsimp only); repeat first | omega | exact Nat.le_trans hc2.1 (by omega) | exact Nat.le_trans hc2.2 (by omega) | exact Nat.zero_le _ | apply quo_b | apply quo_r | apply drop_b, by (try dsimp only); repeat first | omega | exact Nat.le_trans hc2.1 (by omega) | exact Nat.le_trans hc2.2 (by omega) | exact Nat.zero_le _ | apply quo_b | apply quo_r | apply drop_b, by (try dsimp only); repeat first | omega | exact Nat.le_trans hc2.1 (by omega) | exact Nat.le_trans hc2.2 (by omega) | exact Nat.zero_le _ | apply quo_b | apply quo_r | apply drop_b⟩) ?_
  iterate 5 first|refine Yp rfl ?_|apply Y3|apply Yn
  refine W.cond rfl (fun c19=>?_) fun c19=>?_
  ·skip
   iterate 8 first|refine Yp rfl ?_|apply Yu|apply Yt|refine S.store tOk rfl rfl rfl rfl rfl rfl rfl rfl ?_|apply Y1|apply Yn
   exact Yz rfl rfl rfl (congrArg (fun x : Rul × Int => V.tup [V.agg [.d (.int .i64 x.1.kd), .d (.str x.1.k), .d (.str x.1.tu), .d (.str x.1.old), .d (.str x.1.nu)], V.one (C.d (D.int .i64 x.2))]) (((if_neg (Bool.eq_false_iff.1 c1)).trans ((if_neg (Bool.eq_false_iff.1 c2)).trans ((if_neg (Bool.eq_false_iff.1 c3)).trans ((if_pos c4).trans ((if_neg (Bool.eq_false_iff.1 c5)).trans ((if_neg (Bool.eq_false_iff.1 c6)).trans ((if_neg (Bool.eq_false_iff.1 c14)).trans ((if_neg (Bool.eq_false_iff.1 c18)).trans (if_pos c19))))))))) : parR s = _)).symm
  iterate 7 first|refine Yp rfl ?_|apply Yt|refine S.store tOk rfl rfl rfl rfl rfl rfl rfl rfl ?_|apply Yk|apply Y3|apply Yn
  exact Yz rfl rfl rfl (congrArg (fun x : Rul × Int => V.tup [V.agg [.d (.int .i64 x.1.kd), .d (.str x.1.k), .d (.str x.1.tu), .d (.str x.1.old), .d (.str x.1.nu)], V.one (C.d (D.int .i64 x.2))]) (((if_neg (Bool.eq_false_iff.1 c1)).trans ((if_neg (Bool.eq_false_iff.1 c2)).trans ((if_neg (Bool.eq_false_iff.1 c3)).trans ((if_pos c4).trans ((if_neg (Bool.eq_false_iff.1 c5)).trans ((if_neg (Bool.eq_false_iff.1 c6)).trans ((if_neg (Bool.eq_false_iff.1 c14)).trans ((if_neg (Bool.eq_false_iff.1 c18)).trans (if_neg (Bool.eq_false_iff.1 c19)))))))))) : parR s = _)).symm
 apply Yk
 apply Yn
 apply Ys
 apply Y1
 refine Yp rfl ?_
 apply Yn
 refine W.cond rfl (fun c20=>?_) fun c20=>?_
 ·skip
  apply Ys
  apply Y1
  refine Yp rfl ?_
  refine S.call rfl rfl rfl rfl rfl (pc_mquoted _ (by (try dsimp only); repeat first | omega | exact Nat.le_trans hc2.1 (by omega) | exact Nat.le_trans hc2.2 (by omega) | exact Nat.zero_le _ | apply quo_b | apply quo_r | apply drop_b)) ?_
  iterate 13 first|refine Yp rfl ?_|refine Yg rfl rfl tg ?_|refine S.store tOk rfl rfl rfl rfl rfl rfl rfl rfl ?_|apply Y3
  refine S.callG rfl rfl rfl rfl tg rfl rfl (fun _ => pc_HasPrefix _ [32]) ?_
  refine Yg rfl rfl tg ?_
  refine S.pickOr tOk zOk rfl rfl tg ?_
  apply Yn
  refine W.cond rfl (fun c21=>?_) fun c21=>?_
  ·skip
   iterate 8 first|apply Yu|refine Yp rfl ?_|apply Yt|refine S.store tOk rfl rfl rfl rfl rfl rfl rfl rfl ?_|apply Y1|apply Yn
   exact Yz rfl rfl rfl (congrArg (fun x : Rul × Int => V.tup [V.agg [.d (.int .i64 x.1.kd), .d (.str x.1.k), .d (.str x.1.tu), .d (.str x.1.old), .d (.str x.1.nu)], V.one (C.d (D.int .i64 x.2))]) (((if_neg (Bool.eq_false_iff.1 c1)).trans ((if_neg (Bool.eq_false_iff.1 c2)).trans ((if_neg (Bool.eq_false_iff.1 c3)).trans ((if_neg (Bool.eq_false_iff.1 c4)).trans ((if_pos c20).trans (if_pos c21)))))) : parR s = _)).symm
  have hpl := pre_len (by first | assumption)
  apply Yk
  apply Y4
  refine Yp rfl ?_
  refine YE rfl (sl_ok (by omega) (by omega) (by omega)) (sl_drop1 _) rfl ?_
  iterate 6 first|refine Yp rfl ?_|apply Y1|apply Yn|apply Ys
  refine W.cond rfl (fun c22=>?_) fun c22=>?_
  ·skip
   apply Y1
   refine Yp rfl ?_
   refine S.call rfl rfl rfl rfl rfl (pc_mquoted _ (by (try dsimp only); repeat first | omega | exact Nat.le_trans hc2.1 (by omega) | exact Nat.le_trans hc2.2 (by omega) | exact Nat.zero_le _ | apply quo_b | apply quo_r | apply drop_b)) ?_
   iterate 12 first|refine Yp rfl ?_|refine S.store tOk rfl rfl rfl rfl rfl rfl rfl rfl ?_|apply Y3|apply Yn
   refine W.cond rfl (fun c23=>?_) fun c23=>?_
   ·skip
    iterate 7 first|refine Yp rfl ?_|apply Yu|apply Yt|refine S.store tOk rfl rfl rfl rfl rfl rfl rfl rfl ?_|apply Y1|apply Yn
    exact Yz rfl rfl rfl (congrArg (fun x : Rul × Int => V.tup [V.agg [.d (.int .i64 x.1.kd), .d (.str x.1.k), .d (.str x.1.tu), .d (.str x.1.old), .d (.str x.1.nu)], V.one (C.d (D.int .i64 x.2))]) (((if_neg (Bool.eq_false_iff.1 c1)).trans ((if_neg (Bool.eq_false_iff.1 c2)).trans ((if_neg (Bool.eq_false_iff.1 c3)).trans ((if_neg (Bool.eq_false_iff.1 c4)).trans ((if_pos c20).trans ((if_neg (Bool.eq_false_iff.1 c21)).trans ((if_pos c22).trans (if_pos c23)))))))) : parR s = _)).symm
   iterate 7 first|refine Yp rfl ?_|apply Yk|apply Y1|apply Yn|apply Ys
   refine W.cond rfl (fun c24=>?_) fun c24=>?_
   ·skip
    iterate 7 first|refine Yp rfl ?_|apply Yu|apply Yt|refine S.store tOk rfl rfl rfl rfl rfl rfl rfl rfl ?_|apply Y1|apply Yn
    exact Yz rfl rfl rfl (congrArg (fun x : Rul × Int => V.tup [V.agg [.d (.int .i64 x.1.kd), .d (.str x.1.k), .d (.str x.1.tu), .d (.str x.1.old), .d (.str x.1.nu)], V.one (C.d (D.int .i64 x.2))]) (((if_neg (Bool.eq_false_iff.1 c1)).trans ((if_neg (Bool.eq_false_iff.1 c2)).trans ((if_neg (Bool.eq_false_iff.1 c3)).trans ((if_neg (Bool.eq_false_iff.1 c4)).trans ((if_pos c20).trans ((if_neg (Bool.eq_false_iff.1 c21)).trans ((if_pos c22).trans ((if_neg (Bool.eq_false_iff.1 c23)).trans (if_pos c24))))))))) : parR s = _)).symm
   apply Yk
   apply Yn
   apply Ys
   apply Y1
   refine Yp rfl ?_
   refine S.call rfl rfl rfl rfl rfl (pc_CheckRule ⟨_, _, _, _, _⟩ ⟨by (try dsimp only); repeat first | omega | exact Nat.le_trans hc2.1 (by omega) | exact Nat.le_trans hc2.2 (by omega) | exact Nat.zero_le _ | apply quo_b | apply quo_r | apply drop_b, by (try dsimp only); repeat first | omega | exact Nat.le_trans hc2.1 (by omega) | exact Nat.le_trans hc2.2 (by omega) | exact Nat.zero_le _ | apply quo_b | apply quo_r | apply drop_b, by (try dsimp only); repeat first | omega | exact Nat.le_trans hc2.1 (by omega) | exact Nat.le_trans hc2.2 (by omega) | exact Nat.zero_le _ | apply quo_b | apply quo_r | apply drop_b, by (try dsimp only); repeat first | omega | exact Nat.le_trans hc2.1 (by omega) | exact Nat.le_trans hc2.2 (by omega) | exact Nat.zero_le _ | apply quo_b | apply quo_r | apply drop_b⟩) ?_
   iterate 5 first|refine Yp rfl ?_|apply Y3|apply Yn
   refine W.cond rfl (fun c25=>?_) fun c25=>?_
   ·skip
    iterate 8 first|refine Yp rfl ?_|apply Yu|apply Yt|refine S.store tOk rfl rfl rfl rfl rfl rfl rfl rfl ?_|apply Y1|apply Yn
    exact Yz rfl rfl rfl (congrArg (fun x : Rul × Int => V.tup [V.agg [.d (.int .i64 x.1.kd), .d (.str x.1.k), .d (.str x.1.tu), .d (.str x.1.old), .d (.str x.1.nu)], V.one (C.d (D.int .i64 x.2))]) (((if_neg (Bool.eq_false_iff.1 c1)).trans ((if_neg (Bool.eq_false_iff.1 c2)).trans ((if_neg (Bool.eq_false_iff.1 c3)).trans ((if_neg (Bool.eq_false_iff.1 c4)).trans ((if_pos c20).trans ((if_neg (Bool.eq_false_iff.1 c21)).trans ((if_pos c22).trans ((if_neg (Bool.eq_false_iff.1 c23)).trans ((if_neg (Bool.eq_false_iff.1 c24)).trans (if_pos c25)))))))))) : parR s = _)).symm
   iterate 7 first|refine Yp rfl ?_|apply Yt|refine S.store tOk rfl rfl rfl rfl rfl rfl rfl rfl ?_|apply Yk|apply Y3|apply Yn
   exact Yz rfl rfl rfl (congrArg (fun x : Rul × Int => V.tup [V.agg [.d (.int .i64 x.1.kd), .d (.str x.1.k), .d (.str x.1.tu), .d (.str x.1.old), .d (.str x.1.nu)], V.one (C.d (D.int .i64 x.2))]) (((if_neg (Bool.eq_false_iff.1 c1)).trans ((if_neg (Bool.eq_false_iff.1 c2)).trans ((if_neg (Bool.eq_false_iff.1 c3)).trans ((if_neg (Bool.eq_false_iff.1 c4)).trans ((if_pos c20).trans ((if_neg (Bool.eq_false_iff.1 c21)).trans ((if_pos c22).trans ((if_neg (Bool.eq_false_iff.1 c23)).trans ((if_neg (Bool.eq_false_iff.1 c24)).trans (if_neg (Bool.eq_false_iff.1 c25))))))))))) : parR s = _)).symm
  iterate 7 first|refine Yp rfl ?_|apply Yk|apply Y1|apply Yn|apply Ys
  refine W.cond rfl (fun c26=>?_) fun c26=>?_
  ·skip
   iterate 7 first|refine Yp rfl ?_|apply Yu|apply Yt|refine S.store tOk rfl rfl rfl rfl rfl rfl rfl rfl ?_|apply Y1|apply Yn
   exact Yz rfl rfl rfl (congrArg (fun x : Rul × Int => V.tup [V.agg [.d (.int .i64 x.1.kd), .d (.str x.1.k), .d (.str x.1.tu), .d (.str x.1.old), .d (.str x.1.nu)], V.one (C.d (D.int .i64 x.2))]) (((if_neg (Bool.eq_false_iff.1 c1)).trans ((if_neg (Bool.eq_false_iff.1 c2)).trans ((if_neg (Bool.eq_false_iff.1 c3)).trans ((if_neg (Bool.eq_false_iff.1 c4)).trans ((if_pos c20).trans ((if_neg (Bool.eq_false_iff.1 c21)).trans ((if_neg (Bool.eq_false_iff.1 c22)).trans (if_pos c26)))))))) : parR s = _)).symm
  apply Yk
  apply Yn
  apply Ys
  apply Y1
  refine Yp rfl ?_
  refine S.call rfl rfl rfl rfl rfl (pc_CheckRule ⟨_, _, _, _, _⟩ ⟨by (try dsimp only); repeat first | omega | exact Nat.le_trans hc2.1 (by omega) | exact Nat.le_trans hc2.2 (by omega) | exact Nat.zero_le _ | apply quo_b | apply quo_r | apply drop_b, by (try dsimp only); repeat first | omega | exact Nat.le_trans hc2.1 (by omega) | exact Nat.le_trans hc2.2 (by omega) | exact Nat.zero_le _ | apply quo_b | apply quo_r | apply drop_b, by (try dsimp only); repeat first | omega | exact Nat.le_trans hc2.1 (by omega) | exact Nat.le_trans hc2.2 (by omega) | exact Nat.zero_le _ | apply quo_b | apply quo_r | apply drop_b, by (try dsimp only); repeat first | omega | exact Nat.le_trans hc2.1 (by omega) | exact Nat.le_trans hc2.2 (by omega) | exact Nat.zero_le _ | apply quo_b | apply quo_r | apply drop_b⟩) ?_
  iterate 5 first|refine Yp rfl ?_|apply Y3|apply Yn
  refine W.cond rfl (fun c27=>?_) fun c27=>?_
  ·skip
   iterate 8 first|refine Yp rfl ?_|apply Yu|apply Yt|refine S.store tOk rfl rfl rfl rfl rfl rfl rfl rfl ?_|apply Y1|apply Yn
   exact Yz rfl rfl rfl (congrArg (fun x : Rul × Int => V.tup [V.agg [.d (.int .i64 x.1.kd), .d (.str x.1.k), .d (.str x.1.tu), .d (.str x.1.old), .d (.str x.1.nu)], V.one (C.d (D.int .i64 x.2))]) (((if_neg (Bool.eq_false_iff.1 c1)).trans ((if_neg (Bool.eq_false_iff.1 c2)).trans ((if_neg (Bool.eq_false_iff.1 c3)).trans ((if_neg (Bool.eq_false_iff.1 c4)).trans ((if_pos c20).trans ((if_neg (Bool.eq_false_iff.1 c21)).trans ((if_neg (Bool.eq_false_iff.1 c22)).trans ((if_neg (Bool.eq_false_iff.1 c26)).trans (if_pos c27))))))))) : parR s = _)).symm
  iterate 7 first|refine Yp rfl ?_|apply Yt|refine S.store tOk rfl rfl rfl rfl rfl rfl rfl rfl ?_|apply Yk|apply Y3|apply Yn
  exact Yz rfl rfl rfl (congrArg (fun x : Rul × Int => V.tup [V.agg [.d (.int .i64 x.1.kd), .d (.str x.1.k), .d (.str x.1.tu), .d (.str x.1.old), .d (.str x.1.nu)], V.one (C.d (D.int .i64 x.2))]) (((if_neg (Bool.eq_false_iff.1 c1)).trans ((if_neg (Bool.eq_false_iff.1 c2)).trans ((if_neg (Bool.eq_false_iff.1 c3)).trans ((if_neg (Bool.eq_false_iff.1 c4)).trans ((if_pos c20).trans ((if_neg (Bool.eq_false_iff.1 c21)).trans ((if_neg (Bool.eq_false_iff.1 c22)).trans ((if_neg (Bool.eq_false_iff.1 c26)).trans (if_neg (Bool.eq_false_iff.1 c27)))))))))) : parR s = _)).symm
 apply Yk
 apply Yn
 apply Ys
 apply Y1
 refine Yp rfl ?_
 apply Yn
 refine W.cond rfl (fun c28=>?_) fun c28=>?_
 ·skip
  apply Y1
  refine Yp rfl ?_
  refine S.call rfl rfl rfl rfl rfl (pc_mquoted _ (by (try dsimp only); repeat first | omega | exact Nat.le_trans hc2.1 (by omega) | exact Nat.le_trans hc2.2 (by omega) | exact Nat.zero_le _ | apply quo_b | apply quo_r | apply drop_b)) ?_
  iterate 12 first|refine Yp rfl ?_|refine S.store tOk rfl rfl rfl rfl rfl rfl rfl rfl ?_|apply Y3|apply Yn
  refine W.cond rfl (fun c29=>?_) fun c29=>?_
  ·skip
   iterate 7 first|refine Yp rfl ?_|apply Yu|apply Yt|refine S.store tOk rfl rfl rfl rfl rfl rfl rfl rfl ?_|apply Y1|apply Yn
   exact Yz rfl rfl rfl (congrArg (fun x : Rul × Int => V.tup [V.agg [.d (.int .i64 x.1.kd), .d (.str x.1.k), .d (.str x.1.tu), .d (.str x.1.old), .d (.str x.1.nu)], V.one (C.d (D.int .i64 x.2))]) (((if_neg (Bool.eq_false_iff.1 c1)).trans ((if_neg (Bool.eq_false_iff.1 c2)).trans ((if_neg (Bool.eq_false_iff.1 c3)).trans ((if_neg (Bool.eq_false_iff.1 c4)).trans ((if_neg (Bool.eq_false_iff.1 c20)).trans ((if_pos c28).trans (if_pos c29))))))) : parR s = _)).symm
  iterate 7 first|refine Yp rfl ?_|apply Yk|apply Y1|apply Yn|apply Ys
  refine W.cond rfl (fun c30=>?_) fun c30=>?_
  ·skip
   iterate 7 first|refine Yp rfl ?_|apply Yu|apply Yt|refine S.store tOk rfl rfl rfl rfl rfl rfl rfl rfl ?_|apply Y1|apply Yn
   exact Yz rfl rfl rfl (congrArg (fun x : Rul × Int => V.tup [V.agg [.d (.int .i64 x.1.kd), .d (.str x.1.k), .d (.str x.1.tu), .d (.str x.1.old), .d (.str x.1.nu)], V.one (C.d (D.int .i64 x.2))]) (((if_neg (Bool.eq_false_iff.1 c1)).trans ((if_neg (Bool.eq_false_iff.1 c2)).trans ((if_neg (Bool.eq_false_iff.1 c3)).trans ((if_neg (Bool.eq_false_iff.1 c4)).trans ((if_neg (Bool.eq_false_iff.1 c20)).trans ((if_pos c28).trans ((if_neg (Bool.eq_false_iff.1 c29)).trans (if_pos c30)))))))) : parR s = _)).symm
  apply Yk
  apply Yn
  apply Ys
  apply Y1
  refine Yp rfl ?_
  refine S.call rfl rfl rfl rfl rfl (pc_CheckRule ⟨_, _, _, _, _⟩ ⟨by (try dsimp only); repeat first | omega | exact Nat.le_trans hc2.1 (by omega) | exact Nat.le_trans hc2.2 (by omega) | exact Nat.zero_le _ | apply quo_b | apply quo_r | apply drop_b, by (try dsimp only); repeat first | omega | exact Nat.le_trans hc2.1 (by omega) | exact Nat.le_trans hc2.2 (by omega) | exact Nat.zero_le _ | apply quo_b | apply quo_r | apply drop_b, by (try dsimp only); repeat first | omega | exact Nat.le_trans hc2.1 (by omega) | exact Nat.le_trans hc2.2 (by omega) | exact Nat.zero_le _ | apply quo_b | apply quo_r | apply drop_b, by (try dsimp only); repeat first | omega | exact Nat.le_trans hc2.1 (by omega) | exact Nat.le_trans hc2.2 (by omega) | exact Nat.zero_le _ | apply quo_b | apply quo_r | apply drop_b⟩) ?_
  iterate 5 first|refine Yp rfl ?_|apply Y3|apply Yn
  refine W.cond rfl (fun c31=>?_) fun c31=>?_
  ·skip
   iterate 8 first|refine Yp rfl ?_|apply Yu|apply Yt|refine S.store tOk rfl rfl rfl rfl rfl rfl rfl rfl ?_|apply Y1|apply Yn
   exact Yz rfl rfl rfl (congrArg (fun x : Rul × Int => V.tup [V.agg [.d (.int .i64 x.1.kd), .d (.str x.1.k), .d (.str x.1.tu), .d (.str x.1.old), .d (.str x.1.nu)], V.one (C.d (D.int .i64 x.2))]) (((if_neg (Bool.eq_false_iff.1 c1)).trans ((if_neg (Bool.eq_false_iff.1 c2)).trans ((if_neg (Bool.eq_false_iff.1 c3)).trans ((if_neg (Bool.eq_false_iff.1 c4)).trans ((if_neg (Bool.eq_false_iff.1 c20)).trans ((if_pos c28).trans ((if_neg (Bool.eq_false_iff.1 c29)).trans ((if_neg (Bool.eq_false_iff.1 c30)).trans (if_pos c31))))))))) : parR s = _)).symm
  iterate 7 first|refine Yp rfl ?_|apply Yt|refine S.store tOk rfl rfl rfl rfl rfl rfl rfl rfl ?_|apply Yk|apply Y3|apply Yn
  exact Yz rfl rfl rfl (congrArg (fun x : Rul × Int => V.tup [V.agg [.d (.int .i64 x.1.kd), .d (.str x.1.k), .d (.str x.1.tu), .d (.str x.1.old), .d (.str x.1.nu)], V.one (C.d (D.int .i64 x.2))]) (((if_neg (Bool.eq_false_iff.1 c1)).trans ((if_neg (Bool.eq_false_iff.1 c2)).trans ((if_neg (Bool.eq_false_iff.1 c3)).trans ((if_neg (Bool.eq_false_iff.1 c4)).trans ((if_neg (Bool.eq_false_iff.1 c20)).trans ((if_pos c28).trans ((if_neg (Bool.eq_false_iff.1 c29)).trans ((if_neg (Bool.eq_false_iff.1 c30)).trans (if_neg (Bool.eq_false_iff.1 c31)))))))))) : parR s = _)).symm
 iterate 7 first|refine Yp rfl ?_|apply Yk|apply Y1|apply Yn|apply Ys
 refine W.cond rfl (fun c32=>?_) fun c32=>?_
 ·skip
  iterate 7 first|refine Yp rfl ?_|apply Yu|apply Yt|refine S.store tOk rfl rfl rfl rfl rfl rfl rfl rfl ?_|apply Y1|apply Yn
  exact Yz rfl rfl rfl (congrArg (fun x : Rul × Int => V.tup [V.agg [.d (.int .i64 x.1.kd), .d (.str x.1.k), .d (.str x.1.tu), .d (.str x.1.old), .d (.str x.1.nu)], V.one (C.d (D.int .i64 x.2))]) (((if_neg (Bool.eq_false_iff.1 c1)).trans ((if_neg (Bool.eq_false_iff.1 c2)).trans ((if_neg (Bool.eq_false_iff.1 c3)).trans ((if_neg (Bool.eq_false_iff.1 c4)).trans ((if_neg (Bool.eq_false_iff.1 c20)).trans ((if_neg (Bool.eq_false_iff.1 c28)).trans (if_pos c32))))))) : parR s = _)).symm
 apply Yk
 apply Yn
 apply Ys
 apply Y1
 refine Yp rfl ?_
 refine S.call rfl rfl rfl rfl rfl (pc_CheckRule ⟨_, _, _, _, _⟩ ⟨by (try dsimp only); repeat first | omega | exact Nat.le_trans hc2.1 (by omega) | exact Nat.le_trans hc2.2 (by omega) | exact Nat.zero_le _ | apply quo_b | apply quo_r | apply drop_b, by (try dsimp only); repeat first | omega | exact Nat.le_trans hc2.1 (by omega) | exact Nat.le_trans hc2.2 (by omega) | exact Nat.zero_le _ | apply quo_b | apply quo_r | apply drop_b, by (try dsimp only); repeat first | omega | exact Nat.le_trans hc2.1 (by omega) | exact Nat.le_trans hc2.2 (by omega) | exact Nat.zero_le _ | apply quo_b | apply quo_r | apply drop_b, by (try dsimp only); repeat first | omega | exact Nat.le_trans hc2.1 (by omega) | exact Nat.le_trans hc2.2 (by omega) | exact Nat.zero_le _ | apply quo_b | apply quo_r | apply drop_b⟩) ?_
 iterate 5 first|refine Yp rfl ?_|apply Y3|apply Yn
 refine W.cond rfl (fun c33=>?_) fun c33=>?_
 ·skip
  iterate 8 first|refine Yp rfl ?_|apply Yu|apply Yt|refine S.store tOk rfl rfl rfl rfl rfl rfl rfl rfl ?_|apply Y1|apply Yn
  exact Yz rfl rfl rfl (congrArg (fun x : Rul × Int => V.tup [V.agg [.d (.int .i64 x.1.kd), .d (.str x.1.k), .d (.str x.1.tu), .d (.str x.1.old), .d (.str x.1.nu)], V.one (C.d (D.int .i64 x.2))]) (((if_neg (Bool.eq_false_iff.1 c1)).trans ((if_neg (Bool.eq_false_iff.1 c2)).trans ((if_neg (Bool.eq_false_iff.1 c3)).trans ((if_neg (Bool.eq_false_iff.1 c4)).trans ((if_neg (Bool.eq_false_iff.1 c20)).trans ((if_neg (Bool.eq_false_iff.1 c28)).trans ((if_neg (Bool.eq_false_iff.1 c32)).trans (if_pos c33)))))))) : parR s = _)).symm
 iterate 7 first|refine Yp rfl ?_|apply Yt|refine S.store tOk rfl rfl rfl rfl rfl rfl rfl rfl ?_|apply Yk|apply Y3|apply Yn
 exact Yz rfl rfl rfl (congrArg (fun x : Rul × Int => V.tup [V.agg [.d (.int .i64 x.1.kd), .d (.str x.1.k), .d (.str x.1.tu), .d (.str x.1.old), .d (.str x.1.nu)], V.one (C.d (D.int .i64 x.2))]) (((if_neg (Bool.eq_false_iff.1 c1)).trans ((if_neg (Bool.eq_false_iff.1 c2)).trans ((if_neg (Bool.eq_false_iff.1 c3)).trans ((if_neg (Bool.eq_false_iff.1 c4)).trans ((if_neg (Bool.eq_false_iff.1 c20)).trans ((if_neg (Bool.eq_false_iff.1 c28)).trans ((if_neg (Bool.eq_false_iff.1 c32)).trans (if_neg (Bool.eq_false_iff.1 c33))))))))) : parR s = _)).symm
end
section
open Go
structure Mv where
 f : List Sp
 t : Ver
 rs : List L8
def Mv.z : Mv := ⟨[], Ver.z, []⟩
def readE (l : List L8) : Int := firstNe (l.map fun s => (parR s).2)
def readTo (l : List L8) (i : Nat) : List Rul := (l.take i).map fun s => (parR s).1
def readM (l : List L8) : List Rul × Int := if readE l != 0 then ([], readE l) else (readTo l l.length, 0)
theorem readTo_succ {l : List L8} {i : Nat} (hi : i < l.length) : readTo l (i + 1) = readTo l i ++ [(parR (l.getD i [])).1] := by
 unfold readTo
 rw [List.take_succ_eq_append_getElem hi, List.map_append, List.getD_eq_getElem?_getD, List.getElem?_eq_getElem hi]
 rfl
theorem readTo_len {l : List L8} {i : Nat} (hi : i ≤ l.length) : (readTo l i).length = i := by simp [readTo]; omega
theorem read_1 {l : List L8} {i : Nat} (hi : i < l.length) (h : ((l.map fun s => (parR s).2).take i).all (· == 0) = true) (c : ((parR (l.getD i [])).2 != 0) = true) : readM l = ([], (parR (l.getD i [])).2) := by
 have := fe_hit (f := fun s => (parR s).2) (d := ([] : L8)) hi h c
 unfold readM readE
 rw [this, if_pos c]
theorem read_2 {l : List L8} (h : ((l.map fun s => (parR s).2).take l.length).all (· == 0) = true) : readM l = (readTo l l.length, 0) := by
 have : readE l = 0 := fe_end (Nat.le_refl _) h
 unfold readM
 rw [this]; rfl
def moveE (m : Mv) : Int :=
 if rangeE m.f != 0 then rangeE m.f else if m.t.check != 0 then m.t.check else if decide ((m.rs.length : Int) > 100) then 4 else (readM m.rs).2
end
section
open Go
open Go.RowKit
attribute [local irreducible] thenK blockK W
attribute [local irreducible] rangeE orderB compareR Lib.split
theorem pc_ver_within (s : Sp) (v : Ver) (h1 : s.f.e.length < 4294967281) (h2 : s.t.e.length < 4294967281) (hv : v.e.length < 4294967281) :
  PureCall Tryz.prog J 199 [spV s, verV v] (.one (.d (.bool (withinB s v)))) := by
 refine PureCall.of_body tOk (fn := Tryz.f199) Tryz.func199 (by kernel_rfl) rfl (Nat.le_of_ble_eq_true rfl) (fun E => ?_)
 iterate 12 first|refine Yp rfl ?_|refine Yg rfl rfl tg ?_|refine S.box rfl rfl rfl rfl ?_|apply Y3|apply Y1
 refine S.callG rfl rfl rfl rfl tg rfl rfl (fun _ => pc_ver_Order v s.f hv h1) ?_
 iterate 10 first|refine S.pickOr tOk zOk rfl rfl tg ?_|refine Yg rfl rfl tg ?_|refine Yp rfl ?_
 refine S.callG rfl rfl rfl rfl tg rfl rfl (fun _ => pc_ver_Order v s.t hv h2) ?_
 refine Yg rfl rfl tg ?_
 refine S.pickOrG tOk zOk rfl rfl rfl tg tg ?_
 refine S.pickAnd tOk zOk rfl rfl tg ?_
 refine Yp rfl ?_
 apply Yn
 apply Yt
 exact ⟨_, rfl, rfl, LeV.refl _⟩
theorem pc_ver_names (h : Bool) (e v : Ver) :
  PureCall Tryz.prog J 200 [.one (.d (.bool h)), verV e, verV v] (.one (.d (.bool (namesB h e v)))) := by
 refine PureCall.of_body tOk (fn := Tryz.f200) Tryz.func200 (by kernel_rfl) rfl (Nat.le_of_ble_eq_true rfl) (fun E => ?_)
 iterate 35 first|refine S.pickAnd tOk zOk rfl rfl tg ?_|refine Yg rfl rfl tg ?_|refine Yp rfl ?_|refine S.box rfl rfl rfl rfl ?_|apply Yt|apply Y3|apply Y1|apply Yn
 exact ⟨_, rfl, rfl, LeV.refl _⟩
theorem pc_ver_has (ss : List Sp) (hl : ss.length ≤ 1000000000) (hs : ∀ s ∈ ss, SpLen s) (v : Ver) (hv : v.e.length < 4294967281) :
  PureCall Tryz.prog J 138 [rgV ss, verV v] (.one (.d (.bool (hasB ss v)))) := by
 refine PureCall.of_body tOk (fn := Tryz.f138) Tryz.func138 (by kernel_rfl) rfl (Nat.le_of_ble_eq_true rfl) (fun E => ?_)
 iterate 13 first|refine Yp rfl ?_|refine S.box rfl rfl rfl rfl ?_|apply Yb|apply Y1|apply Yn|apply Ys
 refine W.loop (fun k st => ∃ i : Nat, i ≤ ss.length ∧ (ss.take i).any (hasAt ss.length v) = false ∧ k = ss.length - i ∧ ∃ t b2 r2 m2, st = ⟨t, [[.d (.vec 10 (ss.map spD))], [.d (.int .i64 v.a), .d (.int .i64 v.b), .d (.int .i64 v.c), .d (.str v.e)]] ++ b2, [] ++ r2, [] ++ m2⟩ ∧ holdsL t [(2, .one (.ptr 0 0)), (3, .one (.ptr 1 0)), (9, .one (.d (.vec 10 (ss.map spD)))), (10, .one (.d (.int .i64 ((ss.map spD).length : Int)))), (11, .one (.d (.int .i64 (i : Int))))]) (ss.length) ⟨0, Nat.zero_le _, by simp, rfl, _, _, _, _, rfl, rfl, rfl, rfl, rfl, rfl, trivial⟩ ?_
 rintro k0 _ ⟨i, f0_0, f0_1, rfl, t0, bb0, rr0, mm0, rfl, hh0⟩
 refine W.keepR _ _ _ _ _ _ _ hh0 rfl ?_
 apply Y1
 refine Yp rfl ?_
 apply Yn
 apply Ys
 refine W.cond rfl (fun c1=>?_) fun c1=>?_
 ·skip
  have hi := row_lt c1
  have hsp := sp_at hs hi
  apply Yk
  apply Yn
  apply Ys
  apply Yb
  apply Y1
  refine YE rfl (row_ok hi) (row_at Sp.z hi) rfl ?_
  iterate 22 first|refine S.pickAnd tOk zOk rfl rfl tg ?_|refine Yp rfl ?_|refine Yg rfl rfl tg ?_|refine S.store tOk rfl rfl rfl rfl rfl rfl rfl rfl ?_|refine S.alloc tOk rfl rfl rfl rfl ?_|apply Y3
  refine S.call rfl rfl rfl rfl rfl (pc_ver_within (ss.getD i Sp.z) v hsp.1 hsp.2 hv) ?_
  refine Yp rfl ?_
  iterate 5 refine Yg rfl rfl tg ?_
  refine S.pickOrG tOk zOk rfl rfl rfl tg tg ?_
  iterate 6 refine Yg rfl rfl tg ?_
  refine S.callG rfl rfl rfl rfl tg rfl rfl (fun _ => pc_ver_names _ (ss.getD i Sp.z).f v) ?_
  refine S.pickOrG tOk zOk rfl rfl rfl tg tg ?_
  iterate 6 refine Yg rfl rfl tg ?_
  refine S.callG rfl rfl rfl rfl tg rfl rfl (fun _ => pc_ver_names _ (ss.getD i Sp.z).t v) ?_
  refine S.pickOrG tOk zOk rfl rfl rfl tg tg ?_
  refine S.pickAnd tOk zOk rfl rfl tg ?_
  apply Yn
  refine W.cond rfl (fun c2=>?_) fun c2=>?_
  ·skip
   iterate 9 first|apply Yu|apply Yv|apply Yt|refine Yp rfl ?_|apply Y1|apply Yn
   exact Yz rfl rfl rfl (by rw [show hasB ss v = true from any_hit (d := Sp.z) hi (by have h := c2; rw [List.length_map] at h; exact h)]; rfl)
  apply Yk
  apply Yw
  apply Y4
  iterate 2 refine Yp rfl ?_
  refine loop_n (ss.length - (i + 1)) (by omega) ⟨i + 1, hi, any_take (d := Sp.z) hi f0_1 (by have h := c2; rw [List.length_map] at h; exact h), rfl, _, _, _, _, rfl, rfl, rfl, rfl, rfl, inc_i64 (by omega), trivial⟩
 have hi := row_ge c1
 apply Yq
 apply Ye
 apply Ye
 apply Yx
 apply Y3
 refine Yp rfl ?_
 apply Yn
 apply Yt
 exact Yz rfl rfl rfl (by rw [show hasB ss v = false from any_end hi f0_1]; rfl)
theorem pc_ver_Has (ss : List Sp) (hl : ss.length ≤ 1000000000) (hs : ∀ s ∈ ss, SpLen s) (v : Ver) (hv : v.e.length < 4294967281) :
  PureCall Tryz.prog J 83 [rgV ss, verV v] (.tup [.one (.d (.bool (HasB ss v).1)), .one (.d (.int .i64 (HasB ss v).2))]) := by
 refine PureCall.of_body tOk (fn := Tryz.f83) Tryz.func83 (by kernel_rfl) rfl (Nat.le_of_ble_eq_true rfl) (fun E => ?_)
 iterate 9 first|refine Yp rfl ?_|refine S.box rfl rfl rfl rfl ?_|apply Y1|apply Ys|apply Yn
 refine S.call rfl rfl rfl rfl rfl (pc_ver_CheckRange ss hl hs) ?_
 iterate 5 first|refine Yp rfl ?_|apply Y3|apply Yn
 refine W.cond rfl (fun c1=>?_) fun c1=>?_
 ·skip
  iterate 7 first|refine Yp rfl ?_|apply Yu|apply Yt|apply Y1|apply Yn
  exact Yz rfl rfl rfl (congrArg (fun x : Bool × Int => V.tup [.one (.d (.bool x.1)), .one (.d (.int .i64 x.2))]) ((if_pos c1) : HasB ss v = _)).symm
 apply Yk
 apply Yn
 apply Ys
 apply Y1
 refine Yp rfl ?_
 refine S.call rfl rfl rfl rfl rfl (pc_ver_Check v hv) ?_
 iterate 5 first|refine Yp rfl ?_|apply Y3|apply Yn
 refine W.cond rfl (fun c2=>?_) fun c2=>?_
 ·skip
  iterate 7 first|refine Yp rfl ?_|apply Yu|apply Yt|apply Y1|apply Yn
  exact Yz rfl rfl rfl (congrArg (fun x : Bool × Int => V.tup [.one (.d (.bool x.1)), .one (.d (.int .i64 x.2))]) (((if_neg (Bool.eq_false_iff.1 c1)).trans (if_pos c2)) : HasB ss v = _)).symm
 apply Yk
 apply Y3
 iterate 2 refine Yp rfl ?_
 refine S.call rfl rfl rfl rfl rfl (pc_ver_has ss hl hs v hv) ?_
 iterate 2 refine Yp rfl ?_
 apply Yn
 apply Yt
 exact Yz rfl rfl rfl (congrArg (fun x : Bool × Int => V.tup [.one (.d (.bool x.1)), .one (.d (.int .i64 x.2))]) (((if_neg (Bool.eq_false_iff.1 c1)).trans (if_neg (Bool.eq_false_iff.1 c2))) : HasB ss v = _)).symm
end
section
open Go Go.RowKit
section
variable {α β : Type}
def findE (same : α → α → Bool) (k : α) : List α → List MapEntry → Nat → Option (Nat × Value)
 | a :: l, e :: es, i => if same k a then some (i, e.val) else findE same k l es (i + 1)
 | _, _, _ => none
structure KeyF (P : Program) (kt : TypeId) (enc : α → DV) (val : α → Value) (same : α → α → Bool) : Prop where
 eq : ∀ {g : Gh} {h : Sh} {w : World} (a : α) (u : Value), RV g h w (enc a).v u → u = val a
 rv : ∀ (g : Gh) (h : Sh) (w : World) (a : α), RV g h w (enc a).v (val a)
 pl : ∀ (a : α) (n c : Nat), (enc a).stamp n c
 find : ∀ (w : World) (k : α) (l : List α) (es : List MapEntry), es.map (·.key) = l.map val → (Instr.findKey kt (val k) es).run P w = .ok (findE same k l es 0) w
 bits : ∀ a b, same a b = true → Instr.sameBits 10000 (val b) (val a) = true
 chk : ∀ (w : World) (e : Bool) (a : α), (Instr.checkKey e 10000 kt (val a)).run P w = .ok () w
variable {enc : α → DV} {val : α → Value} {same : α → α → Bool}
def mapOfF (enc : α → DV) (fD : β → DV) (l : List (α × β)) : List (DV × DV) := l.map fun x => (enc x.1, fD x.2)
theorem mapOfF_get {fD : β → DV} {l : List (α × β)} {i : Nat} {x : DV × DV} (h : (mapOfF enc fD l)[i]? = some x) : ∃ y, l[i]? = some y ∧ x = (enc y.1, fD y.2) := by
 unfold mapOfF at h
 rw [List.getElem?_map] at h
 obtain ⟨y, h1, h2⟩ := Option.map_eq_some_iff.1 h
 exact ⟨y, h1, h2.symm⟩
theorem mapOfF_fit {P : Program} {kt : TypeId} (ke : KeyF P kt enc val same) {fD : β → DV} {l : List (α × β)} {arr : Array MapEntry} {clock : Nat} (h : MapFit arr clock l.length) : MapFitE arr clock (mapOfF enc fD l) :=
  ⟨by simpa [mapOfF] using h, fun i x e hx _ => by
    obtain ⟨y, _, rfl⟩ := mapOfF_get hx
    exact ke.pl _ _ _⟩
theorem findE_ok (k : α) : ∀ (l : List (α × β)) (es : List MapEntry) (i0 : Nat), es.length = l.length →
    (hasL same l k = false ∧ findE same k (l.map (·.1)) es i0 = none ∧ (∀ v, setL same l k v = l ++ [(k, v)]) ∧ delL same l k = l ∧ ∀ z, getL same z l k = z) ∨
    (hasL same l k = true ∧ ∃ p x e, l[p]? = some x ∧ es[p]? = some e ∧ findE same k (l.map (·.1)) es i0 = some (i0 + p, e.val) ∧ same k x.1 = true ∧ (∀ v, setL same l k v = l.set p (k, v)) ∧ delL same l k = l.eraseIdx p ∧ ∀ z, getL same z l k = x.2)
  | [], es, i0, hl => .inl ⟨rfl, by cases es <;> rfl, fun _ => rfl, rfl, fun _ => rfl⟩
  | x :: l, [], i0, hl => by cases hl
  | x :: l, e :: es, i0, hl => by
    cases hs : same k x.1 with
    | true =>
      right
      refine ⟨by simp [hasL, hs], 0, x, e, rfl, rfl, ?_, hs, fun v => by simp [setL, hs], by simp [delL, hs], fun z => by simp [getL, hs]⟩
      simp only [List.map_cons, findE, hs, if_true, Nat.add_zero]
    | false =>
      have ih := findE_ok k l es (i0 + 1) (by simpa using hl)
      rcases ih with ⟨h1, h2, h3, h4, h5⟩ | ⟨h1, p, y, f, h2, h3, h4, h5, h6, h7, h8⟩
      · left
        refine ⟨by unfold hasL at h1 ⊢; simp [hs, h1], by simp only [List.map_cons, findE, hs, Bool.false_eq_true, if_false]; exact h2, fun v => by simp [setL, hs, h3 v], by simp [delL, hs, h4], fun z => by simp [getL, hs, h5 z]⟩
      · right
        refine ⟨by unfold hasL at h1 ⊢; simp [hs, h1], p + 1, y, f, by simpa using h2, by simpa using h3, ?_, h5, fun v => by simp [setL, hs, h6 v], by simp [delL, hs, h7], fun z => by simp [getL, hs, h8 z]⟩
        simp only [List.map_cons, findE, hs, Bool.false_eq_true, if_false, h4]
        congr 2
        omega
variable {J : Inv} {k0 : Lens} {E : Env J k0} {P : Program} {T : TypeId → Option TI} {n : Nat} {t : Nat → V} {b : List (List C)} {r : List (Option RowO)} {m : List (List (DV × DV))} {ops : Array Oper} {l : List Oper}
  {K : St → Prop} {i : Nat} {ty : TypeId} {pos : String} {after : Array Edge}
theorem map_findF {kt : TypeId} (ke : KeyF P kt enc val same) {s : St} {g : Gh} {a : Act} {w : World} (rel : Rel E n g s a w) {mi : Nat} {fD : β → DV} {l : List (α × β)} (hm : s.m[mi]? = some (mapOfF enc fD l)) (k : α) :
    ∃ arr clock, w.heap[g.at_ (.m mi)]? = some (.map arr clock) ∧ MapFit arr clock l.length ∧ (∀ (i : Nat) (x : α × β) (e : MapEntry), l[i]? = some x → arr[i]? = some e → e.key = val x.1 ∧ RV g s.sh w (fD x.2).v e.val) ∧
      ((hasL same l k = false ∧ (Instr.findKey kt (val k) arr.toList).run P w = .ok none w ∧ (∀ v, setL same l k v = l ++ [(k, v)]) ∧ delL same l k = l ∧ ∀ z, getL same z l k = z) ∨
      (hasL same l k = true ∧ ∃ p x e, l[p]? = some x ∧ arr[p]? = some e ∧ (Instr.findKey kt (val k) arr.toList).run P w = .ok (some (p, e.val)) w ∧ same k x.1 = true ∧ (∀ v, setL same l k v = l.set p (k, v)) ∧ delL same l k = l.eraseIdx p ∧ ∀ z, getL same z l k = x.2)) := by
  obtain ⟨arr, clock, h1, h2, h3⟩ := rel.heap.map mi _ hm
  have hlen : (mapOfF enc fD l).length = l.length := by simp [mapOfF]
  replace h2 := h2.1
  rw [hlen] at h2
  have hk : ∀ (i : Nat) (x : α × β) (e : MapEntry), l[i]? = some x → arr[i]? = some e → e.key = val x.1 ∧ RV g s.sh w (fD x.2).v e.val := fun i x e hx he => by
    have := h3 i (enc x.1, fD x.2) e (by simp [mapOfF, hx]) he
    exact ⟨ke.eq _ _ this.1, this.2⟩
  have hkeys : arr.toList.map (·.key) = (l.map (·.1)).map val := by
    apply List.ext_getElem? ; intro i
    simp only [List.getElem?_map, Array.getElem?_toList]
    by_cases hi : i < l.length
    · have e1 : l[i]? = some l[i] := List.getElem?_eq_getElem hi
      have e2 : arr[i]? = some (arr[i]'(by rw [h2.len]; exact hi)) := Array.getElem?_eq_getElem _
      rw [e1, e2]
      simp only [Option.map_some, Option.some.injEq]
      exact (hk i _ _ e1 e2).1
    · rw [List.getElem?_eq_none (by omega), Array.getElem?_eq_none (by rw [h2.len]; omega)]
      rfl
  have hrun := ke.find w k (l.map (·.1)) arr.toList hkeys
  have hf := findE_ok (same := same) k l arr.toList 0 (by simpa using h2.len)
  refine ⟨arr, clock, h1, h2, hk, ?_⟩
  rcases hf with ⟨q1, q2, q3⟩ | ⟨q1, p, x, e, q2, q3, q4, q5⟩
  · rw [q2] at hrun
    exact .inl ⟨q1, hrun, q3⟩
  · rw [q4, Nat.zero_add] at hrun
    exact .inr ⟨q1, p, x, e, q2, by simpa using q3, hrun, q5⟩
theorem S.lookupF (hT : TabOk P T) {tm kt et : TypeId} {ti ei : TI} {x y : Operand} {co : Bool} {mi : Nat} {a0 : α} {fD : β → DV} (z : β) (l0 : List (α × β)) (hti : T tm = some ti) (hd : ti.desc = .map kt et) (ke : KeyF P kt enc val same)
    (hei : T et = some ei) (hx : opd n ⟨t, b, r, m⟩ x = (true, .one (.map mi))) (hy : opd n ⟨t, b, r, m⟩ y = (true, (enc a0).v)) (hm : m[mi]? = some (mapOfF enc fD l0)) (hz : constV ei.zero = (fD z).v) (hzo : constOk ei.zero = true)
    {v : V} (hv : mapV co (fD (getL same z l0 a0)).v (hasL same l0 a0) = v) (k : WL E P n ops l K ⟨upd t i v, b, r, m⟩) : WL E P n ops (⟨some i, .lookup tm x y co, ty, pos, after, none⟩ :: l) K ⟨t, b, r, m⟩ := by
  subst hv
  intro g a w rel next Q hn
  have hw : Region.wanted (⟨some i, .lookup tm x y co, ty, pos, after, none⟩ : Oper) (yielded ops a.tmps) = true := by simp [Region.wanted]
  rw [if_pos hw]
  have hp := opd_ok rel hx rfl
  have hq := opd_ok rel hy rfl
  generalize hxx : a.eval x = xv at hp
  generalize hyy : a.eval y = yv at hq
  cases hp with | one _ _ hp => cases hp with | map _ hmi =>
  have hyv : yv = val a0 := ke.eq a0 _ hq
  subst hyv
  have h1 := (hT tm ti hti).1
  rw [hd] at h1
  obtain ⟨arr, clock, q1, q2, q3, q4⟩ := map_findF (s := ⟨t, b, r, m⟩) ke rel hm a0
  have hzv : RV g (⟨t, b, r, m⟩ : St).sh w (fD z).v ei.zero := by rw [← hz]; exact constV_ok _ _ _ _ hzo
  have fin : ∀ (u : Value) (is : Bool), (Instr.lookup tm (.map (some (g.at_ (.m mi)))) (val a0) co).run P w = .ok (if co then .tuple #[u, .bool is] else u) w → RV g (⟨t, b, r, m⟩ : St).sh w (fD (getL same z l0 a0)).v u → is = hasL same l0 a0 →
      Oper.wp P (⟨some i, .lookup tm x y co, ty, pos, after, none⟩ : Oper) a w next Q := fun u is hr hu his => by
    have hrun : (execOp a.eval (⟨some i, .lookup tm x y co, ty, pos, after, none⟩ : Oper)).run P w = .ok (.value (if co then .tuple #[u, .bool is] else u)) w := by
      simp only [execOp, Sem.run_bind, hxx, hyy, hr, Result.andThen_ok, Sem.run_pure]
    unfold Oper.wp
    rw [hrun]
    refine hn _ g _ _ k (rel.put_same (some i) ?_)
    subst his
    cases co with
    | false => exact hu
    | true =>
      show RV _ _ _ (.tup [_, _]) (.tuple #[u, .bool (hasL same l0 a0)])
      refine .tup _ [u, .bool (hasL same l0 a0)] rfl (fun j c v hc hv => ?_)
      match j with
      | 0 => simp at hc hv; subst hc; subst hv; exact hu
      | 1 => simp at hc hv; subst hc; subst hv; exact .one _ _ (.d _ _ (.bool _))
      | j + 2 => simp at hc
  rcases q4 with ⟨p1, p2, _, _, p5⟩ | ⟨p1, p, x', e, p2, p3, p4, p5, _, _, p8⟩
  · refine fin ei.zero false ?_ (by rw [p5]; exact hzv) p1.symm
    simp only [Instr.lookup, Sem.run_bind, run_underlying h1, Result.andThen_ok, MapKept.run_getObj_map q1, Sem.run_pure, ke.chk w _ a0, p2, run_zeroValue' hT hei]
  · refine fin e.val true ?_ (by rw [p8]; exact (q3 p x' e p2 p3).2) p1.symm
    simp only [Instr.lookup, Sem.run_bind, run_underlying h1, Result.andThen_ok, MapKept.run_getObj_map q1, Sem.run_pure, ke.chk w _ a0, p4]
theorem S.mapUpdateF (hT : TabOk P T) {tm kt et : TypeId} {ti : TI} {x y u : Operand} {mi : Nat} {a0 : α} {fD : β → DV} (v0 : β) (l0 : List (α × β)) (hti : T tm = some ti) (hd : ti.desc = .map kt et) (ke : KeyF P kt enc val same)
    (hx : opd n ⟨t, b, r, m⟩ x = (true, .one (.map mi))) (hy : opd n ⟨t, b, r, m⟩ y = (true, (enc a0).v)) (hu : opd n ⟨t, b, r, m⟩ u = (true, (fD v0).v)) (hm : m[mi]? = some (mapOfF enc fD l0))
    {m' : List (List (DV × DV))} (hm' : m.set mi (mapOfF enc fD (setL same l0 a0 v0)) = m') (k : WL E P n ops l K ⟨t, b, r, m'⟩) : WL E P n ops (⟨none, .mapUpdate tm x y u, ty, pos, after, none⟩ :: l) K ⟨t, b, r, m⟩ := by
  subst hm'
  intro g a w rel next Q hn
  have hw : Region.wanted (⟨none, .mapUpdate tm x y u, ty, pos, after, none⟩ : Oper) (yielded ops a.tmps) = true := by simp [Region.wanted]
  rw [if_pos hw]
  have hp := opd_ok rel hx rfl
  have hq := opd_ok rel hy rfl
  have hr := opd_ok rel hu rfl
  generalize hxx : a.eval x = xv at hp
  generalize hyy : a.eval y = yv at hq
  generalize huu : a.eval u = uv at hr
  cases hp with | one _ _ hp => cases hp with | map _ hmi =>
  have hyv : yv = val a0 := ke.eq a0 _ hq
  have hkv := hq
  subst hyv
  have h1 := (hT tm ti hti).1
  rw [hd] at h1
  obtain ⟨arr, clock, q1, q2, q3, q4⟩ := map_findF (s := ⟨t, b, r, m⟩) ke rel hm a0
  obtain ⟨A, hA⟩ : ∃ A, A = g.at_ (.m mi) := ⟨_, rfl⟩
  rw [← hA] at q1
  have fin : ∀ (arr' : Array MapEntry) (clock' : Nat), (Instr.mapUpdate tm (.map (some A)) (val a0) uv).run P w = .ok () { w with heap := w.heap.setIfInBounds A (.map arr' clock') } →
      MapFit arr' clock' (setL same l0 a0 v0).length → (∀ (i : Nat) (x : α × β) (e : MapEntry), (setL same l0 a0 v0)[i]? = some x → arr'[i]? = some e → RV g (⟨t, b, r, m⟩ : St).sh w ((enc x.1)).v e.key ∧ RV g (⟨t, b, r, m⟩ : St).sh w (fD x.2).v e.val) →
      Oper.wp P (⟨none, .mapUpdate tm x y u, ty, pos, after, none⟩ : Oper) a w next Q := fun arr' clock' hr' hfit hx' => by
    have hrun : (execOp a.eval (⟨none, .mapUpdate tm x y u, ty, pos, after, none⟩ : Oper)).run P w = .ok .skip { w with heap := w.heap.setIfInBounds A (.map arr' clock') } := by
      simp only [execOp, Sem.run_bind, hxx, hyy, huu, ← hA, hr', Result.andThen_ok, Sem.run_pure]
    unfold Oper.wp
    rw [hrun]
    refine hn _ g _ _ k ?_
    have := rel.setMap (es' := mapOfF enc fD (setL same l0 a0 v0)) hm (mapOfF_fit ke hfit) (fun i x e hx'' he => by
      obtain ⟨y', h3, rfl⟩ := mapOfF_get hx''
      exact hx' i y' e h3 he)
    rw [← hA] at this
    exact this
  have keyrv : ∀ c : α, RV g (⟨t, b, r, m⟩ : St).sh w ((enc c)).v (val c) := fun c => ke.rv _ _ _ c
  rcases q4 with ⟨p1, p2, p3, _, _⟩ | ⟨p1, p, x', e, p2, p3, p4, p5, p6, _, _⟩
  · refine fin (arr.push { key := val a0, val := uv, born := clock }) (clock + 1) ?_ ?_ ?_
    · simp only [Instr.mapUpdate, Sem.run_bind, run_underlying h1, Result.andThen_ok, MapKept.run_getObj_map q1, ke.chk w _ a0, p2]
      simp [MapKept.run_setObj_map _ q1]
    · rw [p3 v0]
      refine ⟨by simp [q2.len], fun i e h => ?_, fun i j e f h h' hb => ?_⟩
      · rw [Array.getElem?_push] at h
        split at h
        · simp only [Option.some.injEq] at h; rw [← h]; exact Nat.lt_succ_self _
        · exact Nat.lt_succ_of_lt (q2.born i e h)
      · rw [Array.getElem?_push] at h h'
        split at h <;> split at h'
        · omega
        · simp only [Option.some.injEq] at h
          have := q2.born j f h'
          rw [← h] at hb; simp only at hb; omega
        · simp only [Option.some.injEq] at h'
          have := q2.born i e h
          rw [← h'] at hb; simp only at hb; omega
        · exact q2.dist i j e f h h' hb
    · intro i x e hx' he
      rw [p3 v0] at hx'
      rw [Array.getElem?_push] at he
      by_cases hi : i < l0.length
      · rw [List.getElem?_append_left hi] at hx'
        rw [if_neg (by rw [q2.len]; omega)] at he
        obtain ⟨c1, c2⟩ := q3 i x e hx' he
        exact ⟨by rw [c1]; exact keyrv _, c2⟩
      · have hil : i = l0.length := by have := (List.getElem?_eq_some_iff.1 hx').1; simp at this; omega
        subst hil
        simp at hx'
        rw [if_pos q2.len.symm] at he
        simp only [Option.some.injEq] at he
        rw [← hx', ← he]
        exact ⟨keyrv _, hr⟩
  · have hpl : p < arr.size := (Array.getElem?_eq_some_iff.1 p3).1
    have hkey : e.key = val x'.1 := (q3 p x' e p2 p3).1
    refine fin (arr.modify p fun e => { e with key := val a0, val := uv }) clock ?_ ?_ ?_
    · have hst : (Instr.keyThatStays (((arr[p]?).map (·.key)).getD (val a0)) (val a0)).run P w = .ok (val a0) w := by
        rw [p3]
        simp only [Option.map_some, Option.getD_some, hkey]
        unfold Instr.keyThatStays
        rw [if_pos (ke.bits a0 x'.1 p5), Sem.run_pure]
      simp only [Instr.mapUpdate, Sem.run_bind, run_underlying h1, Result.andThen_ok, MapKept.run_getObj_map q1, ke.chk w _ a0, p4, hst]
      simp [MapKept.run_setObj_map _ q1]
    · rw [p6 v0]
      have hb : ∀ (i : Nat) (f : MapEntry), (arr.modify p fun e => { e with key := val a0, val := uv })[i]? = some f → ∃ f', arr[i]? = some f' ∧ f'.born = f.born := fun i f h => by
        rw [Array.getElem?_modify] at h
        split at h
        · obtain ⟨f', h1, h2⟩ := Option.map_eq_some_iff.1 h
          exact ⟨f', h1, by rw [← h2]⟩
        · exact ⟨f, h, rfl⟩
      refine ⟨by simp [q2.len], fun i f h => ?_, fun i j f f2 h h' hbb => ?_⟩
      · obtain ⟨f', h3, h4⟩ := hb i f h; rw [← h4]; exact q2.born i f' h3
      · obtain ⟨f', h3, h4⟩ := hb i f h
        obtain ⟨f2', h5, h6⟩ := hb j f2 h'
        exact q2.dist i j f' f2' h3 h5 (by rw [h4, h6]; exact hbb)
    · intro i x e' hx' he
      rw [p6 v0, List.getElem?_set] at hx'
      rw [Array.getElem?_modify] at he
      by_cases hi : p = i
      · subst hi
        rw [if_pos rfl] at hx' he
        split at hx'
        · simp only [Option.some.injEq] at hx'
          rw [p3] at he
          simp only [Option.map_some, Option.some.injEq] at he
          rw [← hx', ← he]
          exact ⟨keyrv _, hr⟩
        · cases hx'
      · rw [if_neg hi] at hx' he
        obtain ⟨c1, c2⟩ := q3 i x e' hx' he
        exact ⟨by rw [c1]; exact keyrv _, c2⟩
theorem S.insertF (hT : TabOk P T) {tm kt et : TypeId} {ti : TI} {x y u : Operand} {mi : Nat} {a0 : α} {fD : β → DV} (v0 : β) (l0 : List (α × β)) (hti : T tm = some ti) (hd : ti.desc = .map kt et) (ke : KeyF P kt enc val same)
    (hx : opd n ⟨t, b, r, m⟩ x = (true, .one (.map mi))) (hy : opd n ⟨t, b, r, m⟩ y = (true, (enc a0).v)) (hu : opd n ⟨t, b, r, m⟩ u = (true, (fD v0).v)) (hm : m[mi]? = some (mapOfF enc fD l0))
    {m' : List (List (DV × DV))} (hm' : m.set mi (mapOfF enc fD (setL same l0 a0 v0)) = m') (k : WL E P n ops l K ⟨t, b, r, m'⟩) : WL E P n ops (⟨none, .insert tm x y u, ty, pos, after, none⟩ :: l) K ⟨t, b, r, m⟩ := by
  subst hm'
  intro g a w rel next Q hn
  have hw : Region.wanted (⟨none, .insert tm x y u, ty, pos, after, none⟩ : Oper) (yielded ops a.tmps) = true := by simp [Region.wanted]
  rw [if_pos hw]
  have hp := opd_ok rel hx rfl
  have hq := opd_ok rel hy rfl
  have hr := opd_ok rel hu rfl
  generalize hxx : a.eval x = xv at hp
  generalize hyy : a.eval y = yv at hq
  generalize huu : a.eval u = uv at hr
  cases hp with | one _ _ hp => cases hp with | map _ hmi =>
  have hyv : yv = val a0 := ke.eq a0 _ hq
  have hkv := hq
  subst hyv
  have h1 := (hT tm ti hti).1
  rw [hd] at h1
  obtain ⟨arr, clock, q1, q2, q3, q4⟩ := map_findF (s := ⟨t, b, r, m⟩) ke rel hm a0
  obtain ⟨A, hA⟩ : ∃ A, A = g.at_ (.m mi) := ⟨_, rfl⟩
  rw [← hA] at q1
  have fin : ∀ (arr' : Array MapEntry) (clock' : Nat), (Instr.mapUpdate tm (.map (some A)) (val a0) uv).run P w = .ok () { w with heap := w.heap.setIfInBounds A (.map arr' clock') } →
      MapFit arr' clock' (setL same l0 a0 v0).length → (∀ (i : Nat) (x : α × β) (e : MapEntry), (setL same l0 a0 v0)[i]? = some x → arr'[i]? = some e → RV g (⟨t, b, r, m⟩ : St).sh w ((enc x.1)).v e.key ∧ RV g (⟨t, b, r, m⟩ : St).sh w (fD x.2).v e.val) →
      Oper.wp P (⟨none, .insert tm x y u, ty, pos, after, none⟩ : Oper) a w next Q := fun arr' clock' hr' hfit hx' => by
    have hrun : (execOp a.eval (⟨none, .insert tm x y u, ty, pos, after, none⟩ : Oper)).run P w = .ok .skip { w with heap := w.heap.setIfInBounds A (.map arr' clock') } := by
      simp only [execOp, Sem.run_bind, hxx, hyy, huu, ← hA, hr', Result.andThen_ok, Sem.run_pure]
    unfold Oper.wp
    rw [hrun]
    refine hn _ g _ _ k ?_
    have := rel.setMap (es' := mapOfF enc fD (setL same l0 a0 v0)) hm (mapOfF_fit ke hfit) (fun i x e hx'' he => by
      obtain ⟨y', h3, rfl⟩ := mapOfF_get hx''
      exact hx' i y' e h3 he)
    rw [← hA] at this
    exact this
  have keyrv : ∀ c : α, RV g (⟨t, b, r, m⟩ : St).sh w ((enc c)).v (val c) := fun c => ke.rv _ _ _ c
  rcases q4 with ⟨p1, p2, p3, _, _⟩ | ⟨p1, p, x', e, p2, p3, p4, p5, p6, _, _⟩
  · refine fin (arr.push { key := val a0, val := uv, born := clock }) (clock + 1) ?_ ?_ ?_
    · simp only [Instr.mapUpdate, Sem.run_bind, run_underlying h1, Result.andThen_ok, MapKept.run_getObj_map q1, ke.chk w _ a0, p2]
      simp [MapKept.run_setObj_map _ q1]
    · rw [p3 v0]
      refine ⟨by simp [q2.len], fun i e h => ?_, fun i j e f h h' hb => ?_⟩
      · rw [Array.getElem?_push] at h
        split at h
        · simp only [Option.some.injEq] at h; rw [← h]; exact Nat.lt_succ_self _
        · exact Nat.lt_succ_of_lt (q2.born i e h)
      · rw [Array.getElem?_push] at h h'
        split at h <;> split at h'
        · omega
        · simp only [Option.some.injEq] at h
          have := q2.born j f h'
          rw [← h] at hb; simp only at hb; omega
        · simp only [Option.some.injEq] at h'
          have := q2.born i e h
          rw [← h'] at hb; simp only at hb; omega
        · exact q2.dist i j e f h h' hb
    · intro i x e hx' he
      rw [p3 v0] at hx'
      rw [Array.getElem?_push] at he
      by_cases hi : i < l0.length
      · rw [List.getElem?_append_left hi] at hx'
        rw [if_neg (by rw [q2.len]; omega)] at he
        obtain ⟨c1, c2⟩ := q3 i x e hx' he
        exact ⟨by rw [c1]; exact keyrv _, c2⟩
      · have hil : i = l0.length := by have := (List.getElem?_eq_some_iff.1 hx').1; simp at this; omega
        subst hil
        simp at hx'
        rw [if_pos q2.len.symm] at he
        simp only [Option.some.injEq] at he
        rw [← hx', ← he]
        exact ⟨keyrv _, hr⟩
  · have hpl : p < arr.size := (Array.getElem?_eq_some_iff.1 p3).1
    have hkey : e.key = val x'.1 := (q3 p x' e p2 p3).1
    refine fin (arr.modify p fun e => { e with key := val a0, val := uv }) clock ?_ ?_ ?_
    · have hst : (Instr.keyThatStays (((arr[p]?).map (·.key)).getD (val a0)) (val a0)).run P w = .ok (val a0) w := by
        rw [p3]
        simp only [Option.map_some, Option.getD_some, hkey]
        unfold Instr.keyThatStays
        rw [if_pos (ke.bits a0 x'.1 p5), Sem.run_pure]
      simp only [Instr.mapUpdate, Sem.run_bind, run_underlying h1, Result.andThen_ok, MapKept.run_getObj_map q1, ke.chk w _ a0, p4, hst]
      simp [MapKept.run_setObj_map _ q1]
    · rw [p6 v0]
      have hb : ∀ (i : Nat) (f : MapEntry), (arr.modify p fun e => { e with key := val a0, val := uv })[i]? = some f → ∃ f', arr[i]? = some f' ∧ f'.born = f.born := fun i f h => by
        rw [Array.getElem?_modify] at h
        split at h
        · obtain ⟨f', h1, h2⟩ := Option.map_eq_some_iff.1 h
          exact ⟨f', h1, by rw [← h2]⟩
        · exact ⟨f, h, rfl⟩
      refine ⟨by simp [q2.len], fun i f h => ?_, fun i j f f2 h h' hbb => ?_⟩
      · obtain ⟨f', h3, h4⟩ := hb i f h; rw [← h4]; exact q2.born i f' h3
      · obtain ⟨f', h3, h4⟩ := hb i f h
        obtain ⟨f2', h5, h6⟩ := hb j f2 h'
        exact q2.dist i j f' f2' h3 h5 (by rw [h4, h6]; exact hbb)
    · intro i x e' hx' he
      rw [p6 v0, List.getElem?_set] at hx'
      rw [Array.getElem?_modify] at he
      by_cases hi : p = i
      · subst hi
        rw [if_pos rfl] at hx' he
        split at hx'
        · simp only [Option.some.injEq] at hx'
          rw [p3] at he
          simp only [Option.map_some, Option.some.injEq] at he
          rw [← hx', ← he]
          exact ⟨keyrv _, hr⟩
        · cases hx'
      · rw [if_neg hi] at hx' he
        obtain ⟨c1, c2⟩ := q3 i x e' hx' he
        exact ⟨by rw [c1]; exact keyrv _, c2⟩
theorem KeyF.ofS (hT : TabOk P T) {kt : TypeId} {fs : Array Field} (hu : P.underlying kt = some (.struct fs)) {encA : α → List D} {valA : α → List Value} (hv : ∀ a, (encA a).map valD = (valA a).map some)
  (he : ∀ a b, ∃ d, d ≤ 9999 ∧ eqS T d kt ((encA a).map .d) ((encA b).map .d) = some (same a b)) (hbits : ∀ a b, same a b = true → Instr.sameBits 10000 (.agg (valA b).toArray) (.agg (valA a).toArray) = true)
  (hchk : ∀ (w : World) (e : Bool) (a : α), (Instr.checkKey e 10000 kt (.agg (valA a).toArray)).run P w = .ok () w) : KeyF P kt (fun a => DV.agg (encA a)) (fun a => .agg (valA a).toArray) same := by
 have hlen : ∀ a, (valA a).length = (encA a).length := fun a => by have := congrArg List.length (hv a); simpa using this.symm
 have hcell : ∀ (g : Gh) (h : Sh) (w : World) (a : α) (i : Nat) (c : C) (v : Value), ((encA a).map C.d)[i]? = some c → (valA a)[i]? = some v → RC g h w c v := fun g h w a i c v h1 h2 => by
  rw [List.getElem?_map] at h1
  cases hd : (encA a)[i]? with
  | none => rw [hd] at h1; cases h1
  | some d =>
   rw [hd] at h1
   obtain rfl : C.d d = c := by simpa using h1
   have h3 := congrArg (fun l => l[i]?) (hv a)
   simp only [List.getElem?_map, hd, h2, Option.map_some] at h3
   exact .d _ _ (valD_rd (by simpa using h3))
 refine ⟨fun {g h w} a u hx => ?_, fun g h w a => ?_, fun _ _ _ => trivial, fun w k l es hk => ?_, hbits, hchk⟩
 ·skip
  cases hx with
  | agg cs vs hl hx =>
   congr 2
   apply List.ext_getElem? ; intro i
   by_cases hi : i < vs.length
   ·skip
    have h1 : vs[i]? = some vs[i] := List.getElem?_eq_getElem hi
    have hi2 : i < (encA a).length := by rw [hl] at hi; simpa using hi
    have h2 : ((encA a).map C.d)[i]? = some (.d (encA a)[i]) := by rw [List.getElem?_map, List.getElem?_eq_getElem hi2]; rfl
    have h3 := hx i _ _ h2 h1
    cases h3 with
    | d _ _ h3 =>
     have h4 := congrArg (fun l => l[i]?) (hv a)
     simp only [List.getElem?_map, List.getElem?_eq_getElem hi2, Option.map_some] at h4
     cases hva : (valA a)[i]? with
     | none => rw [hva] at h4; cases h4
     | some z =>
      rw [hva] at h4
      rw [h1, valD_of (by simpa using h4) h3]
   ·skip
    rw [List.getElem?_eq_none (by omega), List.getElem?_eq_none (by rw [hlen]; rw [hl] at hi; simpa using hi)]
 ·skip
  exact .agg _ _ (by simpa using hlen a) (hcell g h w a)
 ·skip
  have heq : ∀ a b, (Op.equal kt (.agg (valA a).toArray) (.agg (valA b).toArray)).run P w = .ok (same a b) w := fun a b => by
   obtain ⟨d, hd, hs⟩ := he a b
   exact eqS_ok (g := ⟨fun _ => False, fun _ => 0, fun _ => 0, fun _ => 0⟩) (h := ⟨0, [], 0⟩) hT d kt _ _ _ _ _ 9999 (by simpa using hlen a) (hcell _ _ _ a) (by simpa using hlen b) (hcell _ _ _ b) hs hd
  have ask : ∀ (l : List α) (es : List MapEntry) (i : Nat), es.map (·.key) = l.map (fun a => Value.agg (valA a).toArray) → (Instr.findAsking kt (.agg (valA k).toArray) es i).run P w = .ok (findE same k l es i) w := fun l => by
   induction l with
   | nil =>
    intro es i hk
    have : es = [] := by simpa using hk
    subst this
    rfl
   | cons a l ih =>
    intro es i hk
    cases es with
    | nil => cases hk
    | cons e es =>
     simp only [List.map_cons, List.cons.injEq] at hk
     unfold Instr.findAsking findE
     rw [hk.1]
     simp only [Sem.run_bind, heq, Result.andThen_ok]
     cases same k a with
     | true => simp
     | false => simpa using ih es (i + 1) hk.2
  have h0 := ask l es 0 hk
  cases es with
  | nil =>
   have : l = [] := by simpa using hk.symm
   subst this
   simp [Instr.findKey, run_underlying hu, Instr.findNow, findE]
  | cons e es =>
   have : (Instr.findKey kt (.agg (valA k).toArray) (e :: es)).run P w = (Instr.findAsking kt (.agg (valA k).toArray) (e :: es)).run P w := by
    simp [Instr.findKey, run_underlying hu, Instr.findNow, Instr.sameNow]
   rw [this]
   exact h0
end
end
section
open Go Go.RowKit
def beqV (a b : Ver) : Bool := (a.a == b.a) && ((a.b == b.b) && ((a.c == b.c) && ((a.e == b.e) && true)))
theorem beqV_iff (a b : Ver) : beqV a b = true ↔ a = b := by
 cases a; cases b
 simp [beqV]
theorem eqS_ver (a b : Ver) : eqS T 3 64 ((verD a).map .d) ((verD b).map .d) = some (beqV a b) := rfl
def valVer (a : Ver) : List Value := [.int .i64 a.a, .int .i64 a.b, .int .i64 a.c, .string ⟨a.e.toArray⟩]
def keyFlat : TypeDesc → Bool
 | .bool | .int _ | .string => true
 | _ => false
theorem chk_flat {P : Program} {w : World} {e : Bool} {n : Nat} {t : TypeId} {v : Value} {u : TypeDesc} (h : P.underlying t = some u) (hu : keyFlat u = true) : (Instr.checkKey e (n + 1) t v).run P w = .ok () w := by
 unfold Instr.checkKey
 simp only [Sem.run_bind, run_underlying h, Result.andThen_ok]
 cases u <;> first | rfl | (cases v <;> rfl) | (simp [keyFlat] at hu)
theorem chk_struct {P : Program} {T : TypeId → Option TI} (hT : TabOk P T) {w : World} {e : Bool} {n : Nat} {t : TypeId} {fs : Array Field} {vs : List Value} (h : P.underlying t = some (.struct fs))
  (hf : ∀ f ∈ fs.toList, (∃ i, T f.type = some i ∧ keyFlat i.desc = true) ∧ f.offset < vs.length) : (Instr.checkKey e (n + 1 + 1) t (.agg vs.toArray)).run P w = .ok () w := by
 unfold Instr.checkKey
 simp only [Sem.run_bind, run_underlying h, Result.andThen_ok]
 rw [← Array.forIn_toList]
 generalize fs.toList = l at hf
 induction l with
 | nil => simp
 | cons f l ih =>
  obtain ⟨⟨i, h1, h2⟩, h3⟩ := hf f (by simp)
  have ih' := ih (fun x hx => hf x (by simp [hx]))
  have hp : (part f.type vs.toArray f.offset).run P w = .ok vs[f.offset] w := by
   have ha : isAggD i.desc = false := by cases hd : i.desc <;> rw [hd] at h2 <;> first | rfl | (exact absurd h2 (by simp [keyFlat]))
   simp only [part, Sem.run_bind, run_isAgg' hT h1, Result.andThen_ok, ha, Bool.false_eq_true, if_false]
   simp [h3]
  rw [List.forIn_cons]
  by_cases hn : f.name = "_"
  ·skip
   simp only [hn, ne_eq, not_true_eq_false, if_false, Sem.run_bind, Sem.run_pure, Result.andThen_ok]
   simpa using ih'
  ·skip
   simp only [hn, ne_eq, not_false_eq_true, if_true, Sem.run_bind, hp, chk_flat (hT _ _ h1).1 h2, Sem.run_pure, Result.andThen_ok]
   simpa using ih'
theorem bits_agg {n : Nat} : ∀ {a b : List Value}, a.length = b.length → (∀ x ∈ a.zip b, Instr.sameBits n x.1 x.2 = true) → Instr.sameBits (n + 1) (.agg a.toArray) (.agg b.toArray) = true := by
 intro a b h1 h2
 unfold Instr.sameBits
 simp only [Bool.and_eq_true, List.all_eq_true]
 exact ⟨by simpa using h1, fun x hx => h2 x hx⟩
theorem keyV : KeyF Tryz.prog 64 (fun a : Ver => DV.agg (verD a)) (fun a => .agg (valVer a).toArray) beqV := by
 refine KeyF.ofS tOk (tOk 64 ty64 rfl).1 (fun a => rfl) (fun a b => ⟨3, by decide, eqS_ver a b⟩) (fun a b h => ?_) (fun w e a => ?_)
 ·skip
  obtain rfl := (beqV_iff a b).1 h
  refine bits_agg (n := 9999) rfl (fun x hx => ?_)
  simp only [valVer, List.zip_cons_cons, List.zip_nil_right, List.mem_cons, List.not_mem_nil, or_false] at hx
  rcases hx with rfl | rfl | rfl | rfl
  ·skip
   simp [Instr.sameBits]
  ·skip
   simp [Instr.sameBits]
  ·skip
   simp [Instr.sameBits]
  ·skip
   show (ByteArray.mk _ == ByteArray.mk _) = true
   rw [MapKept.bytes_beq]
 ·skip
  refine chk_struct tOk (n := 9998) (tOk 64 ty64 rfl).1 (fun f hf => ?_)
  simp only [List.mem_cons, List.not_mem_nil, or_false] at hf
  rcases hf with rfl | rfl | rfl | rfl <;> exact ⟨⟨_, rfl, rfl⟩, Nat.le_of_ble_eq_true rfl⟩
end
section
open Go Go.RowKit
section
variable {J : Inv} {k0 : Lens} {E : Env J k0} {P : Program} {T : TypeId → Option TI} {n : Nat} {t : Nat → V} {b : List (List C)} {r : List (Option RowO)} {m : List (List (DV × DV))} {ops : Array Oper} {l : List Oper}
  {K : St → Prop} {i : Nat} {ty : TypeId} {pos : String} {after : Array Edge}
theorem run_eqNil0 {w : World} {t0 e : TypeId} (d : Nat) (a : Option Addr) (j c : Nat) (h : P.underlying t0 = some (.slice e)) : (Op.equalIn (d + 1) t0 (.slice a j c) (.slice none 0 0)).run P w = .ok a.isNone w := by
 cases a <;> simp [Op.equalIn, run_underlying h]
theorem run_eqNil {w : World} {t0 e : TypeId} {x y : Operand} (a : Option Addr) (j c : Nat) (h : P.underlying t0 = some (.slice e)) :
  ((do eqGuard .eql t0 x y (.slice a j c) (.slice none 0 0); Go.binOp .eql t0 (.slice a j c) (.slice none 0 0)) : Sem Value).run P w = .ok (.bool a.isNone) w := by
 have h1 : (eqGuard .eql t0 x y (.slice a j c) (.slice none 0 0)).run P w = .ok () w := rfl
 have h2 : (Op.equal t0 (.slice a j c) (.slice none 0 0)).run P w = .ok a.isNone w := run_eqNil0 9999 a j c h
 simp only [Sem.run_bind, h1, Result.andThen_ok]
 unfold Go.binOp
 simp only [Sem.run_bind, h2, Result.andThen_ok, Sem.run_pure]
theorem S.eqNil (hT : TabOk P T) {t0 t1 e : TypeId} {ti : TI} {x y : Operand} {sz : Nat} {xs : List (List D)} (hti : T t0 = some ti) (hd : ti.desc = .slice e) (hx : opd n ⟨t, b, r, m⟩ x = (true, .one (.d (.vec sz xs)))) (hy : y = .const (.slice none 0 0))
    (k : ∀ q : Bool, (q = true → xs = []) → WL E P n ops l K ⟨upd t i (.one (.d (.bool q))), b, r, m⟩) : WL E P n ops (⟨some i, .binOp .eql t0 x y t1, ty, pos, after, none⟩ :: l) K ⟨t, b, r, m⟩ := by
  subst hy
  intro g a w rel next Q hn
  have hw : Region.wanted (⟨some i, .binOp .eql t0 x (.const (.slice none 0 0)) t1, ty, pos, after, none⟩ : Oper) (yielded ops a.tmps) = true := by simp [Region.wanted]
  rw [if_pos hw]
  have hv := opd_ok rel hx rfl
  have h1 := (hT t0 ti hti).1
  rw [hd] at h1
  have hsl : ∃ A j c, a.eval x = .slice A j c ∧ (A.isNone = true → xs = []) := by
    generalize a.eval x = xv at hv
    cases hv with | one _ _ hv => cases hv with | d _ _ hv => cases hv with
      | empty A c => exact ⟨_, _, _, rfl, fun _ => rfl⟩
      | vec b' o c u hne hc hb hsz hcell hrd => exact ⟨_, _, _, rfl, fun h => by cases h⟩
  obtain ⟨A, j, c, he, hn0⟩ := hsl
  have hex : (execOp a.eval (⟨some i, .binOp .eql t0 x (.const (.slice none 0 0)) t1, ty, pos, after, none⟩ : Oper)).run P w = .ok (.value (.bool A.isNone)) w := by
    show ((do let v ← ((do eqGuard .eql t0 x (.const (.slice none 0 0)) (a.eval x) (.slice none 0 0); Go.binOp .eql t0 (a.eval x) (.slice none 0 0)) : Sem Value); Pure.pure (Next.value v)) : Sem Next).run P w = _
    rw [he, Sem.run_bind, run_eqNil A j c h1]
    simp only [Result.andThen_ok, Sem.run_pure]
  unfold Oper.wp
  rw [hex]
  exact hn _ g _ _ (k A.isNone hn0) (rel.put_same (some i) (.one _ _ (.d _ _ (.bool _))))
theorem S.eqNil0 (hT : TabOk P T) {t0 t1 e : TypeId} {ti : TI} {x y : Operand} (hti : T t0 = some ti) (hd : ti.desc = .slice e) (hx : opd n ⟨t, b, r, m⟩ x = (true, .one (.d .nilsl))) (hy : y = .const (.slice none 0 0))
    (k : WL E P n ops l K ⟨upd t i (.one (.d (.bool true))), b, r, m⟩) : WL E P n ops (⟨some i, .binOp .eql t0 x y t1, ty, pos, after, none⟩ :: l) K ⟨t, b, r, m⟩ := by
  subst hy
  intro g a w rel next Q hn
  have hw : Region.wanted (⟨some i, .binOp .eql t0 x (.const (.slice none 0 0)) t1, ty, pos, after, none⟩ : Oper) (yielded ops a.tmps) = true := by simp [Region.wanted]
  rw [if_pos hw]
  have hv := opd_ok rel hx rfl
  have h1 := (hT t0 ti hti).1
  rw [hd] at h1
  have he : a.eval x = .slice none 0 0 := by
    generalize a.eval x = xv at hv
    cases hv with | one _ _ hv => cases hv with | d _ _ hv => cases hv with
      | nilsl => rfl
  have hex : (execOp a.eval (⟨some i, .binOp .eql t0 x (.const (.slice none 0 0)) t1, ty, pos, after, none⟩ : Oper)).run P w = .ok (.value (.bool true)) w := by
    show ((do let v ← ((do eqGuard .eql t0 x (.const (.slice none 0 0)) (a.eval x) (.slice none 0 0); Go.binOp .eql t0 (a.eval x) (.slice none 0 0)) : Sem Value); Pure.pure (Next.value v)) : Sem Next).run P w = _
    rw [he, Sem.run_bind, run_eqNil none 0 0 h1]
    simp only [Result.andThen_ok, Sem.run_pure]
    rfl
  unfold Oper.wp
  rw [hex]
  exact hn _ g _ _ k (rel.put_same (some i) (.one _ _ (.d _ _ (.bool _))))
end
end
section
open Go
open Go.RowKit
attribute [local irreducible] thenK blockK W
attribute [local irreducible] rangeB pathB nameB valueB firstNe parR rangeE Ver.check hasB readE
def mvD (m : Mv) : List D := [.vec 10 (m.f.map spD), .int .i64 m.t.a, .int .i64 m.t.b, .int .i64 m.t.c, .str m.t.e, .vec 1 (m.rs.map fun s => [.str s])]
structure MvB (m : Mv) : Prop where
 f : m.f.length ≤ 1000000000
 sp : ∀ s ∈ m.f, SpLen s
 e : m.t.e.length < 4294967281
 n : m.rs.length ≤ 2000000
 r : ∀ s ∈ m.rs, s.length ≤ 4000000
theorem readTo_D {l : List L8} {i : Nat} (hi : i < l.length) : (readTo l i).map rulD ++ [rulD (parR (l.getD i [])).1] = (readTo l (i + 1)).map rulD := by rw [readTo_succ hi, List.map_append]; rfl
theorem le_readNil {n : Int} {x : List Rul × Int} (h : x = ([], n)) : LeV (.tup [.one (.d .nilsl), .one (.d (.int .i64 n))]) (.tup [.one (.d (.vec 5 (x.1.map rulD))), .one (.d (.int .i64 x.2))]) := by
 subst h; exact LeV.tup2 (LeV.nil 5) (LeV.refl _)
theorem pc_rulesOf (m : Mv) (hm : MvB m) :
  PureCall Tryz.prog J 78 [.agg [.d (.vec 10 (m.f.map spD)), .d (.int .i64 m.t.a), .d (.int .i64 m.t.b), .d (.int .i64 m.t.c), .d (.str m.t.e), .d (.vec 1 (m.rs.map fun s => [.str s]))]] (.tup [.one (.d (.vec 5 ((readM m.rs).1.map rulD))), .one (.d (.int .i64 (readM m.rs).2))]) := by
 refine PureCall.of_body tOk (fn := Tryz.f78) Tryz.func78 (by kernel_rfl) rfl (Nat.le_of_ble_eq_true rfl) (fun E => ?_)
 iterate 14 first|refine Yp rfl ?_|refine S.box rfl rfl rfl rfl ?_|apply Y1|apply Y3|apply Yn|apply Ys
 refine W.newRow 4 5 106 rfl ?_
 apply Yb
 refine W.loop (fun k st => ∃ i : Nat, ∃ v : Nat, ∃ al : Bool, i ≤ m.rs.length ∧ ((m.rs.map fun s => (parR s).2).take i).all (· == 0) = true ∧ k = m.rs.length - i ∧ ∃ t b2 r2 m2, st = ⟨t, [] ++ b2, [some ⟨al, v, 5, 106, (readTo m.rs i).map rulD⟩] ++ r2, [] ++ m2⟩ ∧ holdsL t [(4, .one (.row 0 v 0 ((readTo m.rs i).map rulD).length)), (10, .one (.d (.vec 1 (m.rs.map fun x => [.str x])))), (11, .one (.d (.int .i64 ((m.rs.map fun x => ([.str x] : List D)).length : Int)))), (12, .one (.d (.int .i64 (i : Int))))]) (m.rs.length) ⟨0, _, _, Nat.zero_le _, by simp, rfl, _, _, _, _, rfl, rfl, rfl, rfl, rfl, trivial⟩ ?_
 rintro k0 _ ⟨i, v, al, f0_0, f0_1, rfl, t0, bb0, rr0, mm0, rfl, hh0⟩
 refine W.keepR _ _ _ _ _ _ _ hh0 rfl ?_
 refine W.reVer (l := [(4, .one (.row 0 0 0 ((readTo m.rs i).map rulD).length)), (10, .one (.d (.vec 1 (m.rs.map fun x => [.str x])))), (11, .one (.d (.int .i64 ((m.rs.map fun x => ([.str x] : List D)).length : Int)))), (12, .one (.d (.int .i64 (i : Int))))]) (b := []) 0 rfl rfl rfl rfl rfl ?_
 apply Y1
 refine Yp rfl ?_
 apply Yn
 apply Ys
 refine W.cond rfl (fun c1=>?_) fun c1=>?_
 ·skip
  have hi := row_lt c1
  have hri := hm.r _ (mem_getD (d := ([] : L8)) hi)
  have hmn := hm.n
  apply Yk
  apply Yn
  apply Ys
  apply Yb
  apply Y1
  refine YE rfl (row_ok hi) (row_at [] hi) rfl ?_
  iterate 4 first|refine Yp rfl ?_|apply Y3
  refine S.call rfl rfl rfl rfl rfl (pc_ParseRule (m.rs.getD i []) hri) ?_
  iterate 12 first|refine Yp rfl ?_|refine S.store tOk rfl rfl rfl rfl rfl rfl rfl rfl ?_|refine S.alloc tOk rfl rfl rfl rfl ?_|apply Y1|apply Yn|apply Ys
  refine W.cond rfl (fun c2=>?_) fun c2=>?_
  ·skip
   iterate 12 first|apply Yu|refine Yp rfl ?_|apply Yv|apply Yt|apply Y1|apply Yn
   exact ⟨_, rfl, rfl, le_readNil (read_1 hi f0_1 c2)⟩
  apply Yk
  apply Y4
  iterate 2 refine Yp rfl ?_
  refine S.slice tOk rfl rfl ?_
  refine S.append tOk rfl rfl rfl rfl rfl rfl rfl rfl rfl rfl rfl rfl (by have hq := readTo_len (l := m.rs) (Nat.le_of_lt hi); show _ + 1 ≤ _; rw [List.length_map]; omega) rfl (readTo_D hi) rfl ?_
  iterate 5 first|refine Yp rfl ?_|apply Yw|apply Y4
  refine loop_n (m.rs.length - (i + 1)) (by omega) ⟨i + 1, _, _, hi, fe_next (d := ([] : L8)) hi f0_1 c2, rfl, _, _, _, _, rfl, rfl, rfl, rfl, inc_i64 (by omega), trivial⟩
 have hi := row_ge c1
 obtain rfl : i = m.rs.length := by omega
 apply Yq
 apply Ye
 apply Ye
 apply Yx
 apply Yn
 apply Ys
 refine W.freeze (ri := 0) (q := ⟨_, _, _, _, _⟩) [4] rfl (by intro k hk; simp at hk; subst hk; exact congrArg (fun z => V.one (.row 0 0 0 z)) (by simp)) ?_
 apply Yr
 iterate 3 refine Yp rfl ?_
 apply Yn
 apply Yt
 exact Yz rfl rfl rfl (by rw [read_2 f0_1]; rfl)
theorem pc_CheckMove (m : Mv) (hm : MvB m) :
  PureCall Tryz.prog J 27 [.agg [.d (.vec 10 (m.f.map spD)), .d (.int .i64 m.t.a), .d (.int .i64 m.t.b), .d (.int .i64 m.t.c), .d (.str m.t.e), .d (.vec 1 (m.rs.map fun s => [.str s]))]] (.one (.d (.int .i64 (moveE m)))) := by
 refine PureCall.of_body tOk (fn := Tryz.f27) Tryz.func27 (by kernel_rfl) rfl (Nat.le_of_ble_eq_true rfl) (fun E => ?_)
 iterate 8 first|refine Yp rfl ?_|refine S.box rfl rfl rfl rfl ?_|apply Y1|apply Ys|apply Yn
 refine S.call rfl rfl rfl rfl rfl (pc_ver_CheckRange m.f hm.f hm.sp) ?_
 iterate 5 first|refine Yp rfl ?_|apply Y3|apply Yn
 refine W.cond rfl (fun c1=>?_) fun c1=>?_
 ·skip
  iterate 6 first|refine Yp rfl ?_|apply Yu|apply Yt|apply Y1|apply Yn
  exact Yz rfl rfl rfl (congrArg (fun x : Int => V.one (C.d (D.int .i64 x))) ((if_pos c1) : moveE m = _)).symm
 apply Yk
 apply Yn
 apply Ys
 apply Y1
 iterate 2 refine Yp rfl ?_
 refine S.call rfl rfl rfl rfl rfl (pc_ver_Check m.t hm.e) ?_
 iterate 5 first|refine Yp rfl ?_|apply Y3|apply Yn
 refine W.cond rfl (fun c2=>?_) fun c2=>?_
 ·skip
  iterate 6 first|refine Yp rfl ?_|apply Yu|apply Yt|apply Y1|apply Yn
  exact Yz rfl rfl rfl (congrArg (fun x : Int => V.one (C.d (D.int .i64 x))) (((if_neg (Bool.eq_false_iff.1 c1)).trans (if_pos c2)) : moveE m = _)).symm
 iterate 9 first|refine Yp rfl ?_|apply Yk|apply Y1|apply Yn|apply Ys
 refine W.cond rfl (fun c3=>?_) fun c3=>?_
 ·skip
  have c3 : decide ((m.rs.length : Int) > 100) = true := by simpa using c3
  apply Y1
  refine Yp rfl ?_
  apply Yn
  apply Yt
  apply Yu
  exact Yz rfl rfl rfl (congrArg (fun x : Int => V.one (C.d (D.int .i64 x))) (((if_neg (Bool.eq_false_iff.1 c1)).trans ((if_neg (Bool.eq_false_iff.1 c2)).trans (if_pos c3))) : moveE m = _)).symm
 have c3 : decide ((m.rs.length : Int) > 100) = false := by simpa using c3
 apply Yk
 apply Y3
 refine Yp rfl ?_
 refine S.call rfl rfl rfl rfl rfl (pc_rulesOf m hm) ?_
 iterate 9 first|refine Yp rfl ?_|apply Y3|apply Yn
 apply Yt
 exact Yz rfl rfl rfl (congrArg (fun x : Int => V.one (C.d (D.int .i64 x))) (((if_neg (Bool.eq_false_iff.1 c1)).trans ((if_neg (Bool.eq_false_iff.1 c2)).trans (if_neg (Bool.eq_false_iff.1 c3)))) : moveE m = _)).symm
end
section
open Go Go.RowKit
section
variable {P : Program}
theorem run_append_roomO (w : World) (t ty e : TypeId) (i : TypeInfo) (ht : P.underlying t = some (.slice e)) (hi : P.info? e = some i) (g o sLen sCap : Nat) (cur : Array Value) (hg : w.heap[g]? = some (.cells cur e (0, 0)))
  (a : Addr) (m c : Nat) (news : List Value) (hl : news.length = m * i.size) (hnews : ∀ j u, news[j]? = some u → w.cell? (a.add j) = some u) (h1 : ∀ u ∈ news, u.oneCell' = true)
  (hroom : sLen + m ≤ sCap) (hfit : o + sLen * i.size + news.length ≤ cur.size) :
  (Builtin.append_ #[t, t] ty #[.slice (some ⟨g, o, none⟩) sLen sCap, .slice (some a) m c]).run P w =
   .ok (.slice (some ⟨g, o, none⟩) (sLen + m) sCap) (w.setRow g (cur.toList.take (o + sLen * i.size) ++ news ++ cur.toList.drop (o + sLen * i.size + news.length)).toArray) := by
 have hf := run_firstCells_some (P := P) w i.size m a m c news hl hnews
 have hst := run_storeCells_at P g (o + sLen * i.size) e news 0 cur w hg (by simpa using hfit) h1
 simp only [Nat.add_zero] at hst
 simp [Builtin.append_, run_underlying ht, sizeOf, typeInfo, hi, Builtin.lenOf, hroom, hf, Addr.add_lit, hst]
theorem append_off {w : World} (t ty e : TypeId) (i : TypeInfo) (z : Value) (size bytes : Nat) (ht : P.underlying t = some (.slice e)) (hi : P.info? e = some i) (hz : i.zero = some z) (hsize : i.size = size) (hby : i.bytes = bytes) (hzs : z.cells.size = size)
    (gb : Nat) (cur : Array Value) (cap o n : Nat) (hg : w.heap[gb]? = some (.cells cur e (0, 0))) (hcs : cur.size = cap * size) (hon : o + n ≤ cap)
    (a : Addr) (m c : Nat) (news : List Value) (hl : news.length = m * size) (hnews : ∀ j u, news[j]? = some u → w.cell? (a.add j) = some u) (h1 : ∀ u ∈ news, u.oneCell' = true)
    (h63 : n + m ≤ maxLen) (hbytes : (n + m) * bytes ≤ 140737488355328) :
    ∃ v' w', (Builtin.append_ #[t, t] ty #[.slice (some ⟨gb, o * size, none⟩) n (cap - o), .slice (some a) m c]).run P w = .ok v' w' ∧ w.grownBy w' (some gb) ∧
      ((v' = .slice (some ⟨gb, o * size, none⟩) (n + m) (cap - o) ∧ o + n + m ≤ cap ∧ ∃ cur', w'.heap[gb]? = some (.cells cur' e (0, 0)) ∧ cur'.size = cap * size ∧ (∀ k, k < (o + n) * size → cur'[k]? = cur[k]?) ∧ (∀ k, k < m * size → cur'[(o + n) * size + k]? = news[k]?)) ∨
       (∃ cap' cur', v' = .slice (some ⟨w.heap.size, 0, none⟩) (n + m) cap' ∧ n + m ≤ cap' ∧ cap' ≤ maxLen ∧ w'.heap[w.heap.size]? = some (.cells cur' e (0, 0)) ∧ cur'.size = cap' * size ∧ (∀ k, k < n * size → cur'[k]? = cur[o * size + k]?) ∧ (∀ k, k < m * size → cur'[n * size + k]? = news[k]?))) := by
  have h63' : ((n + m : Nat) : Int) ≤ 9223372036854775807 := by simp only [maxLen] at h63; omega
  subst hsize; subst hby
  by_cases hroom : n + m ≤ cap - o
  · have hk : (o + n + m) * i.size ≤ cap * i.size := Nat.mul_le_mul_right _ (by omega)
    have hd : o * i.size + n * i.size = (o + n) * i.size := by rw [Nat.add_mul]
    have hd2 : (o + n + m) * i.size = (o + n) * i.size + m * i.size := by rw [Nat.add_mul]
    have hr := run_append_roomO (P := P) w t ty e i ht hi gb (o * i.size) n (cap - o) cur hg a m c news hl hnews h1 hroom (by rw [hd, hcs, hl]; omega)
    rw [hd] at hr
    refine ⟨_, _, hr, ⟨rfl, rfl, rfl, by simp, fun k _ hk => setRow_other w gb k _ (fun e => hk (by rw [e]))⟩, .inl ⟨rfl, by omega, _, setRow_heap w gb cur _ e _ hg, ?_, fun k hk' => ?_, fun k hk' => ?_⟩⟩
    · simp only [List.size_toArray, List.length_append, List.length_take, List.length_drop, Array.length_toList]
      omega
    · have h2 : k < cur.size := by omega
      simp only [List.getElem?_toArray, List.append_assoc]
      rw [List.getElem?_append_left (by simp; omega), List.getElem?_take, if_pos hk']
      simp
    · simp only [List.getElem?_toArray, List.append_assoc]
      rw [List.getElem?_append_right (by simp; omega), List.getElem?_append_left (by simp; omega)]
      congr 1
      simp; omega
  · have hsub : ∀ k, k < n * i.size → o * i.size + k < cur.size := fun k hk => by
      have := Nat.mul_le_mul_right i.size hon
      rw [Nat.add_mul] at this; omega
    have hol : ((cur.toList.drop (o * i.size)).take (n * i.size)).length = n * i.size := by
      have := Nat.mul_le_mul_right i.size hon
      rw [Nat.add_mul] at this
      simp; omega
    have hr := run_append_grow (P := P) w t ty e i z ht hi hz ⟨gb, o * i.size, none⟩ n (cap - o) ((cur.toList.drop (o * i.size)).take (n * i.size)) hol (fun j u hj => by
      rw [List.getElem?_take] at hj
      split at hj
      · rw [Addr.add_lit]
        simp [World.cell?, hg] at hj ⊢
        exact hj
      · cases hj) a m c news hl hnews (by omega) h63' (growslice_fits (by omega) hbytes)
    have hge := grownCap_ge w (n + m) (cap - o) e
    have hcm : grownCap w (n + m) (cap - o) e ≤ maxLen := grownCap_le_maxLen w (n + m) (cap - o) e h63
    refine ⟨_, _, hr, ⟨rfl, rfl, rfl, by simp, fun k hk _ => by first | exact heap_alloc_old w.drew _ hk | exact heap_alloc_old w.drew _ _ hk⟩, .inr ⟨_, _, rfl, hge, hcm, heap_alloc_new w.drew _, ?_, fun k hk => ?_, fun k hk => ?_⟩⟩
    · simp only [Array.size_append, List.size_toArray, size_zeroCells, hzs, hol, hl, ← Nat.add_mul]
      congr 1
      omega
    · rw [Array.append_assoc, Array.getElem?_append_left (by rw [List.size_toArray, hol]; exact hk)]
      simp only [List.getElem?_toArray, List.getElem?_take, if_pos hk, List.getElem?_drop]
      simp
    · rw [Array.append_assoc, Array.getElem?_append_right (by rw [List.size_toArray, hol]; omega), Array.getElem?_append_left (by rw [List.size_toArray, List.size_toArray, hol, hl]; omega)]
      simp only [List.getElem?_toArray, List.size_toArray, hol]
      congr 1
      omega
theorem rowV_of {g : Gh} {s : St} {r : Nat} {o' : RowO} {at' cap' off n : Nat} {w' : World} {v' : Value} (hr : r < s.r.length) (hal : o'.al = true) (hon : off + n = o'.xs.length) (hv : v' = .slice (some ⟨at', off * o'.sz, none⟩) n (cap' - off)) :
  RV (g.row r at' cap') (s.withRow r o').sh w' (.one (.row r o'.ver off n)) v' := by
 subst hv
 refine .one _ _ (.row _ _ _ _ _ rfl (by simpa [St.sh, St.withRow] using hr) (fun al' ver' sz len h => ?_))
 have hf := rows_get (s := s.withRow r o') (r := r) (o := o') (by simp [St.withRow, List.getElem?_set, hr])
 rw [hf] at h
 simp only [Option.some.injEq, RowO.form, Prod.mk.injEq] at h
 obtain ⟨rfl, rfl, rfl, rfl⟩ := h
 refine ⟨Nat.le_refl _, fun _ => ⟨by omega, ?_⟩⟩
 rw [hal]
 simp [Gh.row]
theorem Rel.appendO {J : Inv} {k0 : Lens} {E : Env J k0} {T : TypeId → Option TI} (hT : TabOk P T) {n : Nat} {g : Gh} {s : St} {a : Act} {w : World} (rel : Rel E n g s a w) {t e ty : TypeId} {ti ei : TI} (hti : T t = some ti) (hd : ti.desc = .slice e)
    (hei : T e = some ei) (hz : ei.zero.cells.size = ei.size) (hpos : 0 < ei.size) {r : Nat} {o : RowO} (ho : s.r[r]? = some (some o)) (hal : o.al = true) (hsz : o.sz = ei.size) (hty : o.ty = e) {off ln : Nat} (hon : off + ln = o.xs.length) {news : List (List D)} {u v : Value}
    (hu : RV g s.sh w (.one (.row r o.ver off ln)) u) (hv : RV g s.sh w (.one (.d (.vec ei.size news))) v) (h63 : ln + news.length ≤ maxLen) (hb : (ln + news.length) * ei.bytes ≤ 140737488355328) :
    ∃ v' w' g' xs' off', (Builtin.append_ #[t, t] ty #[u, v]).run P w = .ok v' w' ∧ off' + (ln + news.length) = xs'.length ∧ xs'.drop off' = o.xs.drop off ++ news ∧ Rel E n g' (s.withRow r ⟨true, o.ver + 1, o.sz, o.ty, xs'⟩) a w' ∧
      Ext g s.sh w g' (s.withRow r ⟨true, o.ver + 1, o.sz, o.ty, xs'⟩).sh w' ∧ RV g' (s.withRow r ⟨true, o.ver + 1, o.sz, o.ty, xs'⟩).sh w' (.one (.row r (o.ver + 1) off' (ln + news.length))) v' := by
  have hr : r < s.r.length := (List.getElem?_eq_some_iff.1 ho).1
  have hlive : s.live (.r r) := ⟨o, ho, hal⟩
  obtain ⟨ht, _⟩ := hT t ti hti
  rw [hd] at ht
  obtain ⟨_, info, hi1, hi2, hi3, hi4, _⟩ := hT e ei hei
  have hrow := rel.heap.row r o ho
  rw [if_pos hal] at hrow
  obtain ⟨vs, t', q1, ⟨q2, q3, q4, q5⟩, q6, q7, _, q8⟩ := hrow
  rw [q4, Nat.zero_add] at q2
  rw [q4] at q8
  simp only [Nat.zero_add] at q8
  have hue : u = .slice (some ⟨g.at_ (.r r), off * o.sz, none⟩) ln (g.cap r - off) := by
    cases hu with | one _ _ hu => cases hu with | row _ _ _ _ _ h1 h2 hx =>
    obtain ⟨_, hx⟩ := hx _ _ _ _ (rows_get ho)
    obtain ⟨_, hx⟩ := hx rfl
    rw [if_pos hal, q4, Nat.zero_add] at hx
    exact hx
  subst hue
  have core : ∀ (ad : Addr) (c : Nat) (newsV : List Value), newsV.length = news.length * ei.size → (∀ j u, newsV[j]? = some u → w.cell? (ad.add j) = some u) → (∀ u ∈ newsV, u.oneCell' = true) →
      (∀ (i j : Nat) (x : List D) (d : D) (q : Value), news[i]? = some x → x[j]? = some d → newsV[i * ei.size + j]? = some q → RD g.im w d q) → (∀ x ∈ news, x.length = ei.size) → v = .slice (some ad) news.length c →
      ∃ v' w' g' xs' off', (Builtin.append_ #[t, t] ty #[.slice (some ⟨g.at_ (.r r), off * o.sz, none⟩) ln (g.cap r - off), v]).run P w = .ok v' w' ∧ off' + (ln + news.length) = xs'.length ∧ xs'.drop off' = o.xs.drop off ++ news ∧ Rel E n g' (s.withRow r ⟨true, o.ver + 1, o.sz, o.ty, xs'⟩) a w' ∧
        Ext g s.sh w g' (s.withRow r ⟨true, o.ver + 1, o.sz, o.ty, xs'⟩).sh w' ∧ RV g' (s.withRow r ⟨true, o.ver + 1, o.sz, o.ty, xs'⟩).sh w' (.one (.row r (o.ver + 1) off' (ln + news.length))) v' := by
    intro ad c newsV l1 l2 l3 l4 l5 hv'
    subst hv'
    rw [hsz] at q2 q8
    have q1' : w.heap[g.at_ (.r r)]? = some (.cells vs e (0, 0)) := by rw [q1, q3, hty]
    obtain ⟨v', w', hrun, hgr, hcase⟩ := append_off (P := P) (w := w) t ty e info ei.zero ei.size ei.bytes ht hi1 hi3 hi2 hi4 hz (g.at_ (.r r)) vs (g.cap r) off ln q1' q2 (by omega) ad news.length c newsV l1 l2 l3 h63 hb
    rw [← hsz] at hrun
    have hblk' : ∀ k, k < w.heap.size → (o.al = true → k ≠ g.at_ (.r r)) → w'.heap[k]? = w.heap[k]? := fun k hk hne => hgr.block k hk (fun e => hne hal (Option.some.inj e))
    have hsame : ∀ b, g.im b → w'.heap[b]? = w.heap[b]? := fun b hb' => hblk' b (rel.imlt b hb') (fun _ e => rel.heap.new (.r r) hlive (e ▸ hb'))
    rcases hcase with ⟨hv2, hroom, cur', c1, c2, c3, c4⟩ | ⟨cap', cur', hv2, hge, hcm, c1, c2, c3, c4⟩
    · obtain ⟨rel', ext⟩ := rel.setRow (o' := ⟨true, o.ver + 1, o.sz, o.ty, o.xs ++ news⟩) (at' := g.at_ (.r r)) (cap' := g.cap r) ho (Nat.lt_succ_self _) hgr.os hgr.tape hgr.output hgr.size hblk' (fun _ => .inl ⟨hal, rfl⟩)
        (by
          rw [if_pos rfl]
          refine ⟨cur', by rw [hty]; exact c1, by rw [hsz]; exact c2, q5, by simp; omega, fun x hx => ?_, fun _ _ => trivial, fun i j x d q p1 p2 p3 => ?_⟩
          · rcases List.mem_append.1 hx with h | h
            · exact q7 x h
            · rw [hsz]; exact l5 x h
          · refine RD.of_im ?_ hsame
            simp only at p1 p3
            rw [hsz] at p3
            by_cases hi : i < o.xs.length
            · rw [List.getElem?_append_left hi] at p1
              have hj : j < ei.size := by
                have h1 := (List.getElem?_eq_some_iff.1 p2).1
                rw [q7 x (List.mem_of_getElem? p1), hsz] at h1; exact h1
              have hk : i * ei.size + j < (off + ln) * ei.size := by
                have := Nat.mul_le_mul_right ei.size (show i + 1 ≤ off + ln by omega)
                rw [Nat.add_mul, Nat.one_mul] at this; omega
              rw [c3 _ hk] at p3
              exact q8 i j x d q p1 p2 p3
            · rw [List.getElem?_append_right (by omega)] at p1
              have hj : j < ei.size := by
                have h1 := (List.getElem?_eq_some_iff.1 p2).1
                rw [l5 x (List.mem_of_getElem? p1)] at h1; exact h1
              have hin : i - o.xs.length < news.length := (List.getElem?_eq_some_iff.1 p1).1
              have e1 : i * ei.size = (off + ln) * ei.size + (i - o.xs.length) * ei.size := by rw [← Nat.add_mul]; congr 1; omega
              have hk2 : (i - o.xs.length) * ei.size + j < news.length * ei.size := by
                have := Nat.mul_le_mul_right ei.size (show i - o.xs.length + 1 ≤ news.length by omega)
                rw [Nat.add_mul, Nat.one_mul] at this; omega
              rw [e1, Nat.add_assoc, c4 _ hk2] at p3
              exact l4 (i - o.xs.length) j x d q p1 p2 p3)
      exact ⟨v', w', _, o.xs ++ news, off, hrun, by simp; omega, List.drop_append_of_le_length (by omega), rel', ext, rowV_of hr rfl (by simp; omega) (by rw [hv2, ← hsz])⟩
    · obtain ⟨rel', ext⟩ := rel.setRow (o' := ⟨true, o.ver + 1, o.sz, o.ty, o.xs.drop off ++ news⟩) (at' := w.heap.size) (cap' := cap') ho (Nat.lt_succ_self _) hgr.os hgr.tape hgr.output hgr.size hblk' (fun _ => .inr (Nat.le_refl _))
        (by
          rw [if_pos rfl]
          refine ⟨cur', by rw [hty]; exact c1, by rw [hsz]; exact c2, hcm, by simp; omega, fun x hx => ?_, fun _ _ => trivial, fun i j x d q p1 p2 p3 => ?_⟩
          · rcases List.mem_append.1 hx with h | h
            · exact q7 x (List.mem_of_mem_drop h)
            · rw [hsz]; exact l5 x h
          · refine RD.of_im ?_ hsame
            simp only at p1 p3
            rw [hsz] at p3
            have hdl : (o.xs.drop off).length = ln := by simp; omega
            by_cases hi : i < ln
            · rw [List.getElem?_append_left (by omega), List.getElem?_drop] at p1
              have hj : j < ei.size := by
                have h1 := (List.getElem?_eq_some_iff.1 p2).1
                rw [q7 x (List.mem_of_getElem? p1), hsz] at h1; exact h1
              have hk : i * ei.size + j < ln * ei.size := by
                have := Nat.mul_le_mul_right ei.size (show i + 1 ≤ ln by omega)
                rw [Nat.add_mul, Nat.one_mul] at this; omega
              rw [c3 _ hk, ← Nat.add_assoc, ← Nat.add_mul] at p3
              exact q8 (off + i) j x d q p1 p2 p3
            · rw [List.getElem?_append_right (by omega), hdl] at p1
              have hj : j < ei.size := by
                have h1 := (List.getElem?_eq_some_iff.1 p2).1
                rw [l5 x (List.mem_of_getElem? p1)] at h1; exact h1
              have hin : i - ln < news.length := (List.getElem?_eq_some_iff.1 p1).1
              have e1 : i * ei.size = ln * ei.size + (i - ln) * ei.size := by rw [← Nat.add_mul]; congr 1; omega
              have hk2 : (i - ln) * ei.size + j < news.length * ei.size := by
                have := Nat.mul_le_mul_right ei.size (show i - ln + 1 ≤ news.length by omega)
                rw [Nat.add_mul, Nat.one_mul] at this; omega
              rw [e1, Nat.add_assoc, c4 _ hk2] at p3
              exact l4 (i - ln) j x d q p1 p2 p3)
      exact ⟨v', w', _, o.xs.drop off ++ news, 0, hrun, by simp; omega, rfl, rel', ext, rowV_of hr rfl (by simp; omega) (by rw [hv2, Nat.zero_mul, Nat.sub_zero])⟩
  cases hv with | one _ _ hv => cases hv with | d _ _ hv => cases hv with
  | empty _ A cap =>
    cases A with
    | some ad => exact core ad cap [] (by simp) (fun j u h => by simp at h) (fun u h => by simp at h) (fun i j x d q h => by simp at h) (by simp) rfl
    | none =>
      have hrun : (Builtin.append_ #[t, t] ty #[.slice (some ⟨g.at_ (.r r), off * o.sz, none⟩) ln (g.cap r - off), .slice none 0 cap]).run P w = .ok (.slice (some ⟨g.at_ (.r r), off * o.sz, none⟩) ln (g.cap r - off)) w := by
        have hle : ln ≤ g.cap r - off := by omega
        simp [Builtin.append_, run_underlying ht, sizeOf, typeInfo, hi1, Builtin.lenOf, Builtin.firstCells, hle, storeCells]
      obtain ⟨rel', ext⟩ := rel.setRow (w' := w) (o' := ⟨true, o.ver + 1, o.sz, o.ty, o.xs⟩) (at' := g.at_ (.r r)) (cap' := g.cap r) ho (Nat.lt_succ_self _) rfl rfl rfl (Nat.le_refl _) (fun _ _ _ => rfl)
        (fun h => .inl ⟨hal, rfl⟩)
        (by
          rw [if_pos rfl]
          subst q3
          exact ⟨vs, q1, q2, q5, q6, q7, fun _ _ => trivial, q8⟩)
      exact ⟨_, w, _, o.xs, off, hrun, by simp; omega, by simp, rel', ext, rowV_of hr rfl (by simp; omega) rfl⟩
  | vec _ xs b oo cap uu hne hc hb' hsz' hcell hrd =>
    refine core ⟨b, oo, none⟩ cap ((List.range (news.length * ei.size)).map fun k => uu (k / ei.size) (k % ei.size)) (by simp) (fun j u h => ?_) (fun q h => ?_) (fun i j x d q p1 p2 p3 => ?_) hsz' rfl
    · simp only [List.getElem?_map, Option.map_eq_some_iff] at h
      obtain ⟨k, hk, rfl⟩ := h
      have hj := (List.getElem?_eq_some_iff.1 hk).1
      simp at hj
      have hkj : k = j := by simpa [hj] using hk.symm
      subst hkj
      have hi : k / ei.size < news.length := (Nat.div_lt_iff_lt_mul hpos).2 hj
      have hx : news[k / ei.size]? = some (news[k / ei.size]'hi) := List.getElem?_eq_getElem _
      have hxl := hsz' _ (List.getElem_mem hi)
      have hm : k % ei.size < (news[k / ei.size]'hi).length := by rw [hxl]; exact Nat.mod_lt _ hpos
      have := hcell (k / ei.size) (k % ei.size) _ _ hx (List.getElem?_eq_getElem hm)
      rw [← this]
      have e : oo + k / ei.size * ei.size + k % ei.size = oo + k := by
        have := Nat.div_add_mod k ei.size
        rw [Nat.mul_comm] at this; omega
      unfold Addr.add
      split
      · rename_i h0; subst h0; simp
      · rw [e]
    · simp only [List.mem_map, List.mem_range] at h
      obtain ⟨k, hj, rfl⟩ := h
      have hi : k / ei.size < news.length := (Nat.div_lt_iff_lt_mul hpos).2 hj
      have hx : news[k / ei.size]? = some (news[k / ei.size]'hi) := List.getElem?_eq_getElem _
      have hxl := hsz' _ (List.getElem_mem hi)
      have hm : k % ei.size < (news[k / ei.size]'hi).length := by rw [hxl]; exact Nat.mod_lt _ hpos
      exact (hrd (k / ei.size) (k % ei.size) _ _ hx (List.getElem?_eq_getElem hm)).one
    · have hj : j < ei.size := by
        have h1 := (List.getElem?_eq_some_iff.1 p2).1
        rw [hsz' x (List.mem_of_getElem? p1)] at h1; exact h1
      simp only [List.getElem?_map, Option.map_eq_some_iff] at p3
      obtain ⟨k, hk, rfl⟩ := p3
      have hkj : k = i * ei.size + j := by
        have hlt := (List.getElem?_eq_some_iff.1 hk).1
        simp at hlt
        simpa [hlt] using hk.symm
      have e1 : k / ei.size = i := by rw [hkj, Nat.mul_comm, Nat.mul_add_div hpos, Nat.div_eq_of_lt hj]; omega
      have e2 : k % ei.size = j := by rw [hkj, Nat.mul_comm, Nat.mul_add_mod, Nat.mod_eq_of_lt hj]
      rw [e1, e2]
      exact hrd i j x d p1 p2
theorem S.appendO {J : Inv} {k0 : Lens} {E : Env J k0} {T : TypeId → Option TI} {n : Nat} {t : Nat → V} {b : List (List C)} {r : List (Option RowO)} {m : List (List (DV × DV))} {ops : Array Oper} {l : List Oper} {K : St → Prop} {i : Nat} {ty : TypeId} {pos : String} {after : Array Edge}
  (hT : TabOk P T) {tt e : TypeId} {ti ei : TI} {x y : Operand} {ri ver sz ln off : Nat} {te : TypeId} {xs news : List (List D)} (hti : T tt = some ti) (hd : ti.desc = .slice e) (hei : T e = some ei)
  (hz : ei.zero.cells.size = ei.size) (hpos : Nat.blt 0 ei.size = true) (hby : Nat.ble ei.bytes 4096 = true) (hx : opd n ⟨t, b, r, m⟩ x = (true, .one (.row ri ver off ln))) (hy : opd n ⟨t, b, r, m⟩ y = (true, .one (.d (.vec sz news))))
  (hq : r[ri]? = some (some ⟨true, ver, sz, te, xs⟩)) (hln : off + ln = xs.length) (hsz : sz = ei.size) (hty : te = e) (hlen : ln + news.length ≤ 34359738368)
  (k : ∀ xs' off', off' + (ln + news.length) = xs'.length → xs'.drop off' = xs.drop off ++ news → WL E P n ops l K ⟨upd t i (.one (.row ri (ver + 1) off' (ln + news.length))), b, r.set ri (some ⟨true, ver + 1, sz, te, xs'⟩), m⟩) :
  WL E P n ops (⟨some i, .call ⟨.builtin .append, #[x, y], #[tt, tt]⟩, ty, pos, after, none⟩ :: l) K ⟨t, b, r, m⟩ := by
 subst hsz
 have hb : (ln + news.length) * ei.bytes ≤ 140737488355328 := by
  have h1 : ei.bytes ≤ 4096 := Nat.le_of_ble_eq_true hby
  have := Nat.mul_le_mul hlen h1
  omega
 intro g a w rel next Q hn
 obtain ⟨o, ho⟩ : ∃ o : Oper, o = ⟨some i, .call ⟨.builtin .append, #[x, y], #[tt, tt]⟩, ty, pos, after, none⟩ := ⟨_, rfl⟩
 have hop : o.op = .call ⟨.builtin .append, #[x, y], #[tt, tt]⟩ := by rw [ho]
 rw [← ho]
 have hw : Region.wanted o (yielded ops a.tmps) = true := by simp [Region.wanted, ho]
 rw [if_pos hw]
 obtain ⟨v', w', g', xs', off', hrun, h1, h2, rel', ext, hv'⟩ := rel.appendO (P := P) hT (ty := o.type) hti hd hei hz (by simpa [Nat.blt_eq] using hpos) hq rfl rfl hty hln (opd_ok rel hx rfl) (opd_ok rel hy rfl) (by simp only [maxLen]; omega) hb
 have hrun' : (execOp a.eval o).run P w = .ok (.value v') w' := by
  unfold execOp
  simp only [hop, resolve, invoke, builtin, Sem.run_bind, Sem.run_pure, Result.andThen_ok, List.map_toArray, List.map_cons, List.map_nil, hrun]
 unfold Oper.wp
 rw [hrun']
 have hdst : o.dst = some i := by rw [ho]
 have := hn _ _ _ _ (k xs' off' h1 h2) (rel'.put_same (some i) hv')
 rw [← hdst] at this
 exact this
end
end
section
open Go Go.RowKit
section
variable {J : Inv} {k0 : Lens} {E : Env J k0} {P : Program} {T : TypeId → Option TI} {n : Nat} {t : Nat → V} {b : List (List C)} {r : List (Option RowO)} {m : List (List (DV × DV))} {ops : Array Oper} {l : List Oper}
  {K : St → Prop} {i : Nat} {ty : TypeId} {pos : String} {after : Array Edge}
theorem forceL_self {α : Type} : ∀ l : List α, forceL l = some l
 | [] => rfl
 | c :: l => by unfold forceL; rw [forceL_self l]
theorem Rel.freezeRow {g : Gh} {a : Act} {w : World} (rel : Rel E n g ⟨t, b, r, m⟩ a w) {ri : Nat} {q : RowO} (ks : List Nat) (hq : r[ri]? = some (some q)) (hk : ∀ k ∈ ks, t k = .one (.row ri q.ver 0 q.xs.length)) :
    ∃ g', Rel E n g' ⟨updL t ks (.one (.d (.vec q.sz q.xs))), b, r.set ri none, m⟩ a w := by
  have hr : ri < r.length := (List.getElem?_eq_some_iff.1 hq).1
  have hlive : ∀ x, (⟨updL t ks (.one (.d (.vec q.sz q.xs))), b, r.set ri none, m⟩ : St).live x → (⟨t, b, r, m⟩ : St).live x ∧ x ≠ .r ri := fun x hx => by
    cases x with
    | b l => exact ⟨hx, by simp⟩
    | m l => exact ⟨hx, by simp⟩
    | r l =>
      obtain ⟨o, ho, hal⟩ := hx
      have ho : (r.set ri none)[l]? = some (some o) := ho
      by_cases e : ri = l
      · subst e; simp [List.getElem?_set, hr] at ho
      · exact ⟨⟨o, by simpa [List.getElem?_set, e] using ho, hal⟩, fun h => e (by injection h with h; exact h.symm)⟩
  have ho : (⟨t, b, r, m⟩ : St).r[ri]? = some (some q) := hq
  have hrl : q.al = true → (⟨t, b, r, m⟩ : St).live (.r ri) := fun h => ⟨q, hq, h⟩
  have ext : Ext g (⟨t, b, r, m⟩ : St).sh w ⟨fun x => g.im x ∨ (q.al = true ∧ x = g.at_ (.r ri)), g.at_, g.off, g.cap⟩ (⟨updL t ks (.one (.d (.vec q.sz q.xs))), b, r.set ri none, m⟩ : St).sh w := by
    refine ⟨fun _ h => .inl h, fun _ _ => rfl, Nat.le_refl _, Nat.le_refl _, by simp [St.sh], fun _ _ => rfl, fun _ _ => rfl, fun k al ver sz' len hk' hh => ?_⟩
    by_cases e : ri = k
    · subst e; simp [St.sh, List.getElem?_set, hr] at hh
    · exact ⟨al, ver, sz', len, by simpa [St.sh, List.getElem?_set, e] using hh, Nat.le_refl _, fun _ => ⟨rfl, rfl, Nat.le_refl _, rfl, rfl, rfl⟩⟩
  refine ⟨⟨fun x => g.im x ∨ (q.al = true ∧ x = g.at_ (.r ri)), g.at_, g.off, g.cap⟩, rel.below, rel.ext.trans ext, fun x hx => ?_, fun x hx => ?_, fun x hx => rel.own x (hlive x hx).1, ⟨fun x hx => rel.heap.lt x (hlive x hx).1, fun x hx => ?_, fun x y hx hy => rel.heap.inj x y (hlive x hx).1 (hlive y hy).1, fun k cs hk' => ?_, fun k o hk' => ?_, fun k es hk' => ?_⟩, rel.size, rel.defers, fun j hj => ?_⟩
  · rcases hx with h | ⟨h1, h2⟩
    · exact rel.imlt x h
    · rw [h2]; exact rel.heap.lt _ (hrl h1)
  · rcases hx with h | ⟨h1, h2⟩
    · exact rel.imold x h
    · rw [h2]; exact .inr (rel.own _ (hrl h1))
  · rintro (h | ⟨h1, h2⟩)
    · exact rel.heap.new x (hlive x hx).1 h
    · exact (hlive x hx).2 (rel.heap.inj x _ (hlive x hx).1 (hrl h1) h2)
  · obtain ⟨vs, ty, h1, h2, h3⟩ := rel.heap.box k cs hk'
    exact ⟨vs, ty, h1, h2, fun j c v hc hv => (h3 j c v hc hv).mono ext⟩
  · have hk' : (r.set ri none)[k]? = some (some o) := hk'
    by_cases e : ri = k
    · subst e; simp [List.getElem?_set, hr] at hk'
    · have h1 := rel.heap.row k o (by simpa [List.getElem?_set, e] using hk')
      by_cases hal : o.al = true
      · rw [if_pos hal] at h1 ⊢
        obtain ⟨vs, t', q1, q2, q3, q4, q5, q6⟩ := h1
        exact ⟨vs, t', q1, q2, q3, q4, q5, fun i j x d v p1 p2 p3 => (q6 i j x d v p1 p2 p3).mono ext.im ext.same⟩
      · rw [if_neg hal] at h1 ⊢; exact h1
  · obtain ⟨arr, clock, h1, h2, h3⟩ := rel.heap.map k es hk'
    exact ⟨arr, clock, h1, h2, fun i x e hx he => ⟨(h3 i x e hx he).1.mono ext, (h3 i x e hx he).2.mono ext⟩⟩
  · rcases updL_or t (.one (.d (.vec q.sz q.xs))) ks j with ⟨h1, h2⟩ | h1
    · have hup : (⟨updL t ks (.one (.d (.vec q.sz q.xs))), b, r.set ri none, m⟩ : St).t j = .one (.d (.vec q.sz q.xs)) := h1
      rw [hup]
      have hv := rel.tmps j hj
      have e1 : (⟨t, b, r, m⟩ : St).t j = .one (.row ri q.ver 0 q.xs.length) := hk j h2
      rw [e1] at hv
      obtain ⟨flat, hown, hnil, hblk, hcells, hrows⟩ := row_form rel ho hv
      refine .one _ _ (.d _ _ ?_)
      rcases hown.2 with ⟨hv2, h0⟩ | ⟨bb, cap, cur, hv2, hb2, hc2, hn2, hm2, hs2, ht2⟩
      · rw [hv2, List.length_eq_zero_iff.1 h0]; exact .empty _ _ _
      · have hal : q.al = true := by
          cases hh : q.al with
          | true => rfl
          | false => have := hnil.2 hh; rw [this] at hv2; cases hv2
        have hbb : bb = g.at_ (.r ri) := by have := hblk hal; rw [hv2] at this; exact Option.some.inj this
        by_cases hne : q.xs = []
        · rw [hv2, hne]; exact .empty _ _ _
        · rw [hv2]
          have hat : ∀ (i j : Nat) (x : List D) (d : D), q.xs[i]? = some x → x[j]? = some d → ∃ v, w.cell? ⟨bb, 0 + i * q.sz + j, none⟩ = some v ∧ RD (fun x => g.im x ∨ (q.al = true ∧ x = g.at_ (.r ri))) w d v := fun i j x d p1 p2 => by
            have hj' : j < q.sz := by
              have h3 := (List.getElem?_eq_some_iff.1 p2).1
              rw [hrows x (List.mem_of_getElem? p1)] at h3; exact h3
            have hi := (List.getElem?_eq_some_iff.1 p1).1
            have hk2 : i * q.sz + j < q.xs.length * q.sz := by
              have := Nat.mul_le_mul_right q.sz (show i + 1 ≤ q.xs.length from hi)
              rw [Nat.add_mul, Nat.one_mul] at this; omega
            have hf : flat[i * q.sz + j]? = some (flat[i * q.sz + j]'(by rw [hown.1]; exact hk2)) := List.getElem?_eq_getElem _
            refine ⟨_, ?_, (hcells i j x d _ p1 p2 hf).mono (fun _ h => .inl h) (fun _ _ => rfl)⟩
            have hf2 : (cur.toList.take (q.xs.length * q.sz))[i * q.sz + j]? = some (flat[i * q.sz + j]'(by rw [hown.1]; exact hk2)) := by rw [ht2]; exact hf
            rw [List.getElem?_take, if_pos hk2] at hf2
            simp only [Nat.zero_add, World.cell?, hc2, Option.isSome_none, Bool.false_eq_true, if_false]
            simpa using hf2
          exact RD.vec q.sz q.xs bb 0 cap (fun i j => (w.cell? ⟨bb, 0 + i * q.sz + j, none⟩).getD undef) hne hn2 (.inr ⟨hal, hbb⟩) hrows
            (fun i j x d p1 p2 => by obtain ⟨v, h3, _⟩ := hat i j x d p1 p2; rw [h3]; rfl)
            (fun i j x d p1 p2 => by obtain ⟨v, h3, h4⟩ := hat i j x d p1 p2; simp only [h3, Option.getD_some]; exact h4)
    · have hup : (⟨updL t ks (.one (.d (.vec q.sz q.xs))), b, r.set ri none, m⟩ : St).t j = t j := h1
      rw [hup]
      exact (rel.tmps j hj).mono ext
theorem Step.weak {o : Oper} {K K' : St → Prop} {s : St} (h : Step E P n ops o K s) (hk : ∀ s g a w, K s → Rel E n g s a w → ∃ g' s', K' s' ∧ Rel E n g' s' a w) : Step E P n ops o K' s :=
 fun g a w rel next Q hn => h g a w rel next Q (fun s' g' a' w' h1 h2 => by
  obtain ⟨g2, s2, h3, h4⟩ := hk s' g' a' w' h1 h2
  exact hn s2 g2 a' w' h3 h4)
theorem OpZ.appendV (hT : TabOk P T) {tt e : TypeId} {ti ei : TI} {x y : Operand} {ri ver sz ln : Nat} {al : Bool} {te : TypeId} {xs news ys : List (List D)} {r' : List (Option RowO)} (hti : T tt = some ti) (hd : ti.desc = .slice e) (hei : T e = some ei)
    (hz : ei.zero.cells.size = ei.size) (hpos : Nat.blt 0 ei.size = true) (hby : Nat.ble ei.bytes 4096 = true) (hx : opd n ⟨t, b, r, m⟩ x = (true, .one (.row ri ver 0 ln))) (hy : opd n ⟨t, b, r, m⟩ y = (true, .one (.d (.vec sz news))))
    (hq : r[ri]? = some (some ⟨al, ver, sz, te, xs⟩)) (hln : ln = xs.length) (hsz : sz = ei.size) (hty : te = e) (hlen : xs.length + news.length ≤ 34359738368)
    (hys : xs ++ news = ys) (hr : forceL (r.set ri none) = some r')
    (k : K ⟨upd t i (.one (.d (.vec sz ys))), b, r', m⟩) : OpZ E P n ops ⟨some i, .call ⟨.builtin .append, #[x, y], #[tt, tt]⟩, ty, pos, after, none⟩ K ⟨t, b, r, m⟩ := by
  obtain rfl := forceL_eq hr
  obtain ⟨o, ho⟩ : ∃ o : Oper, o = ⟨some i, .call ⟨.builtin .append, #[x, y], #[tt, tt]⟩, ty, pos, after, none⟩ := ⟨_, rfl⟩
  have hm : o.op.operands.toList = [x, y] := by rw [ho]; simp [Op.operands, Call.operands]
  rw [← ho]
  refine ⟨fun v1 b1 r1 m1 => v1 = .one (.d (.vec sz ys)) ∧ b1 = b ∧ r1 = r.set ri none ∧ m1 = m, fun t' ht => ?_, fun v1 b1 r1 m1 ⟨e0, e1, e2, e3⟩ => by subst e0; subst e1; subst e2; subst e3; rw [ho]; exact k⟩
  have h1 := looks_opd (r := r) (m := m) (b := b) (b1 := b) (n := n) (x := x) (o := o) (by rw [hm]; simp) ht
  have h2 := looks_opd (r := r) (m := m) (b := b) (b1 := b) (n := n) (x := y) (o := o) (by rw [hm]; simp) ht
  have hlt : ri < r.length := (List.getElem?_eq_some_iff.1 hq).1
  rw [ho]
  refine Step.weak (K := fun s1 => s1 = ⟨upd t' i (.one (.row ri (ver + 1) 0 ys.length)), b, r.set ri (some ⟨al || !news.isEmpty, ver + 1, sz, te, ys⟩), m⟩)
    (S.append (l := []) (r' := r.set ri (some ⟨al || !news.isEmpty, ver + 1, sz, te, ys⟩)) hT hti hd hei hz hpos hby (h1.trans hx) (h2.trans hy) hq hln hsz hty hlen rfl hys (forceL_self _) rfl) (fun s g a w hs rel => ?_)
  subst hs
  obtain ⟨g', rel'⟩ := rel.freezeRow (ri := ri) (q := ⟨al || !news.isEmpty, ver + 1, sz, te, ys⟩) [i] (by simp [hlt]) (fun k hk => by
    simp at hk; subst hk; simp [upd])
  refine ⟨g', _, ⟨.one (.d (.vec sz ys)), b, r.set ri none, m, ?_, rfl, rfl, rfl, rfl⟩, rel'⟩
  simp only [updL, List.set_set]
  congr 1
  funext j
  simp only [updO, upd]
  cases i.beq j <;> rfl
end
end
section
open Go
open Go.RowKit
attribute [local irreducible] thenK blockK W
attribute [local irreducible] rangeB pathB nameB valueB firstNe parR rangeE Ver.check hasB readE
def alL (l : List Nat) : Bool := !l.isEmpty
def verL (l : List Nat) : Nat := if l.isEmpty then 0 else 1
def intsD (l : List Nat) : List (List D) := l.map fun k : Nat => [.int .i64 (k : Int)]
def listD : List Nat → D
 | [] => .nilsl
 | k :: l => .vec 1 (intsD (k :: l))
theorem le_list (l : List Nat) : LeV (.one (.d (listD l))) (.one (.d (.vec 1 (intsD l)))) := by
 cases l with
 | nil => exact LeV.nil 1
 | cons k l => exact LeV.refl _
theorem pc_Clone0  :
  HCall Tryz.prog J 84 ([.one (.d .nilsl)]) ([]) ([]) ([]) (isH (.one (.row 0 0 0 0)) ([]) ([some ⟨false, 0, 1, 3, []⟩]) ([])) := by
 refine HCall.ofD tOk ⟨0, 1, 0⟩ (fn := Tryz.f84) Tryz.func84 (by kernel_rfl) rfl (Nat.le_of_ble_eq_true rfl) (fun E => ?_)
 iterate 6 first|refine Yp rfl ?_|apply Y1|apply Ys|apply Yn
 refine S.eqNil0 tOk rfl rfl rfl rfl ?_
 apply Yn
 refine W.cond rfl (fun c1=>?_) fun c1=>?_
 ·skip
  apply Y1
  refine Yp rfl ?_
  apply Yn
  refine W.newRow 2 1 3 rfl ?_
  apply Yt
  apply Yu
  exact ⟨_, rfl, rfl, LeG.refl _, rfl, rfl, rfl⟩
 exact absurd c1 (by simp)
theorem pc_Clone1 (xs : List (List D)) (hne : xs ≠ []) (hl : xs.length ≤ 1000000000) :
  HCall Tryz.prog J 84 ([.one (.d (.vec 1 xs))]) ([]) ([]) ([]) (isH (.one (.row 0 1 0 xs.length)) ([]) ([some ⟨true, 1, 1, 3, xs⟩]) ([])) := by
 refine HCall.ofD tOk ⟨0, 1, 0⟩ (fn := Tryz.f84) Tryz.func84 (by kernel_rfl) rfl (Nat.le_of_ble_eq_true rfl) (fun E => ?_)
 iterate 6 first|refine Yp rfl ?_|apply Y1|apply Ys|apply Yn
 refine S.eqNil tOk rfl rfl rfl rfl (fun q hq => ?_)
 apply Yn
 refine W.cond rfl (fun c1=>?_) fun c1=>?_
 ·skip
  exact absurd (hq c1) hne
 apply Yk
 apply Y3
 refine S.sliceOwn tOk rfl rfl rfl rfl rfl rfl ?_
 refine Yp rfl ?_
 refine S.append tOk rfl rfl rfl rfl rfl rfl rfl rfl rfl rfl rfl rfl (by show 0 + xs.length ≤ _; omega) rfl (rfl) rfl ?_
 refine Yp rfl ?_
 apply Yn
 apply Yt
 exact ⟨_, rfl, rfl, LeG.refl _, rfl, rfl, rfl⟩
theorem pc_Clone (l : List Nat) (hl : l.length ≤ 1000000000) : HCall Tryz.prog J 84 [.one (.d (listD l))] [] [] [] (isH (.one (.row 0 (verL l) 0 (intsD l).length)) [] [some ⟨alL l, verL l, 1, 3, intsD l⟩] []) := by
 cases l with
 | nil => exact pc_Clone0
 | cons k l => exact pc_Clone1 (intsD (k :: l)) (by simp [intsD]) (by simpa [intsD] using hl)
end
section
open Go
abbrev Stp := Ver × List Nat
abbrev Seen := List (Ver × Bool)
def hasM (m : Mv) (v : Ver) : Bool := (HasB m.f v).1
def stepW (l : List Mv) (a : Stp) (sq : Seen × List Stp) (i : Nat) : Seen × List Stp :=
 if hasM (l.getD i Mv.z) a.1 && !getL beqV false sq.1 (l.getD i Mv.z).t then (setL beqV sq.1 (l.getD i Mv.z).t true, sq.2 ++ [((l.getD i Mv.z).t, a.2 ++ [i])]) else sq
def scanW (l : List Mv) (a : Stp) (sq : Seen × List Stp) : Nat → Seen × List Stp
 | 0 => sq
 | i + 1 => stepW l a (scanW l a sq i) i
def bfs (l : List Mv) (w : Ver) : Nat → Seen → List Stp → List Nat × Int
 | 0, _, _ => ([], 10)
 | n + 1, _, [] => ([], 10)
 | n + 1, seen, a :: q => if orderB a.1 w == 0 then (a.2, 0) else bfs l w n (scanW l a (seen, a :: q) l.length).1 ((scanW l a (seen, a :: q) l.length).2.drop 1)
def wayP (l : List Mv) (v w : Ver) : List Nat × Int :=
 if decide ((l.length : Int) > 200) then ([], 4) else if firstNe (l.map moveE) != 0 then ([], firstNe (l.map moveE)) else if v.check != 0 then ([], v.check) else if w.check != 0 then ([], w.check)
 else bfs l w (l.length + 1) [(v, true)] [(v, [])]
structure SeenOk (l : List Mv) (v : Ver) (seen : Seen) : Prop where
 nd : (seen.map (·.1)).Nodup
 sub : ∀ x ∈ seen.map (·.1), x ∈ v :: l.map (·.t)
 tr : ∀ x ∈ seen, x.2 = true
theorem nodup_len {α : Type} : ∀ {l m : List α}, l.Nodup → (∀ x ∈ l, x ∈ m) → l.length ≤ m.length
  | [], m, _, _ => Nat.zero_le _
  | x :: l, m, h, hs => by
    obtain ⟨s, t, rfl⟩ := List.append_of_mem (hs x (by simp))
    have h' := List.nodup_cons.1 h
    have := nodup_len (m := s ++ t) h'.2 (fun y hy => by
      have h1 := hs y (by simp [hy])
      have hne : y ≠ x := fun e => h'.1 (e ▸ hy)
      simpa [hne] using h1)
    simp at this ⊢
    omega
theorem SeenOk.len {l : List Mv} {v : Ver} {seen : Seen} (h : SeenOk l v seen) : seen.length ≤ l.length + 1 := by
 have := nodup_len h.nd h.sub
 simpa using this
theorem get_seen {seen : Seen} (h : ∀ x ∈ seen, x.2 = true) (k : Ver) : getL beqV false seen k = hasL beqV seen k := by
 induction seen with
 | nil => rfl
 | cons x l ih =>
  have ih := ih (fun y hy => h y (by simp [hy]))
  have hx := h x (by simp)
  unfold getL hasL
  simp only [List.any_cons]
  cases hb : beqV k x.1 with
  | true => simp [hx]
  | false => simp only [cond_false, Bool.false_or]; exact ih
theorem has_seen {seen : Seen} {k : Ver} : hasL beqV seen k = true ↔ k ∈ seen.map (·.1) := by
 unfold hasL
 rw [List.any_eq_true]
 constructor
 ·skip
  rintro ⟨x, hx, h⟩; exact List.mem_map.2 ⟨x, hx, ((beqV_iff _ _).1 h).symm⟩
 ·skip
  intro h; obtain ⟨x, hx, h⟩ := List.mem_map.1 h; exact ⟨x, hx, (beqV_iff _ _).2 h.symm⟩
theorem set_seen {seen : Seen} {k : Ver} (h : hasL beqV seen k = false) : setL beqV seen k true = seen ++ [(k, true)] := by
 induction seen with
 | nil => rfl
 | cons x l ih =>
  unfold hasL at h
  rw [List.any_cons, Bool.or_eq_false_iff] at h
  unfold setL
  rw [h.1]
  simp only [cond_false]
  rw [ih h.2]; rfl
theorem SeenOk.step {l : List Mv} {v : Ver} {sq : Seen × List Stp} (h : SeenOk l v sq.1) (a : Stp) {i : Nat} (hi : i < l.length) :
  SeenOk l v (stepW l a sq i).1 ∧ (stepW l a sq i).2.length + sq.1.length = sq.2.length + (stepW l a sq i).1.length := by
 unfold stepW
 split
 ·skip
  rename_i hc
  rw [Bool.and_eq_true, get_seen h.tr] at hc
  have hn : hasL beqV sq.1 (l.getD i Mv.z).t = false := by simpa using hc.2
  rw [set_seen hn]
  refine ⟨⟨?_, fun x hx => ?_, fun x hx => ?_⟩, by simp; omega⟩
  ·skip
   rw [List.map_append, List.nodup_append]
   refine ⟨h.nd, by simp, fun x hx y hy => ?_⟩
   simp only [List.map_cons, List.map_nil, List.mem_singleton] at hy
   rintro rfl
   rw [hy] at hx
   rw [has_seen.2 hx] at hn; cases hn
  ·skip
   rw [List.map_append, List.mem_append] at hx
   rcases hx with hx | hx
   ·skip
    exact h.sub x hx
   ·skip
    simp at hx
    rw [hx]
    exact List.mem_cons_of_mem _ (List.mem_map.2 ⟨_, mem_getD hi, rfl⟩)
  ·skip
   rcases List.mem_append.1 hx with hx | hx
   ·skip
    exact h.tr x hx
   ·skip
    simp at hx; rw [hx]
 ·skip
  exact ⟨h, by omega⟩
theorem step_more (l : List Mv) (a : Stp) (sq : Seen × List Stp) (i : Nat) : sq.2.length ≤ (stepW l a sq i).2.length := by
 unfold stepW; split <;> simp
theorem scan_more (l : List Mv) (a : Stp) (sq : Seen × List Stp) : ∀ i, sq.2.length ≤ (scanW l a sq i).2.length
 | 0 => Nat.le_refl _
 | i + 1 => Nat.le_trans (scan_more l a sq i) (step_more l a _ i)
theorem SeenOk.scan {l : List Mv} {v : Ver} {sq : Seen × List Stp} (h : SeenOk l v sq.1) (a : Stp) : ∀ {i : Nat}, i ≤ l.length →
    SeenOk l v (scanW l a sq i).1 ∧ (scanW l a sq i).2.length + sq.1.length = sq.2.length + (scanW l a sq i).1.length
  | 0, _ => ⟨h, rfl⟩
  | i + 1, hi => by
    obtain ⟨h1, h2⟩ := h.scan a (i := i) (by omega)
    obtain ⟨h3, h4⟩ := h1.step a (show i < l.length by omega)
    exact ⟨h3, by unfold scanW; omega⟩
structure FuelOk (l : List Mv) (v : Ver) (n : Nat) (seen : Seen) (q : List Stp) : Prop where
 ok : SeenOk l v seen
 le : q.length + (l.length + 1) ≤ n + seen.length
theorem FuelOk.start (l : List Mv) (v : Ver) : FuelOk l v (l.length + 1) [(v, true)] [(v, [])] := ⟨⟨by simp, by simp, by simp⟩, by simp; omega⟩
theorem FuelOk.pos {l : List Mv} {v : Ver} {n : Nat} {seen : Seen} {q : List Stp} (h : FuelOk l v n seen q) : q.length ≤ n := by have := h.ok.len; have := h.le; omega
theorem FuelOk.next {l : List Mv} {v : Ver} {n : Nat} {seen : Seen} {q : List Stp} (h : FuelOk l v (n + 1) seen q) (a : Stp) (hq : 0 < q.length) :
  FuelOk l v n (scanW l a (seen, q) l.length).1 ((scanW l a (seen, q) l.length).2.drop 1) := by
 obtain ⟨h1, h2⟩ := SeenOk.scan (sq := (seen, q)) h.ok a (Nat.le_refl l.length)
 refine ⟨h1, ?_⟩
 have := h.le
 have h3 := scan_more l a (seen, q) l.length
 simp only [List.length_drop] at h2 h3 ⊢
 omega
end
section
open Go
def wEnd (l : List Mv) : Ver → List Nat → Ver
 | v, [] => v
 | v, k :: ks => wEnd l (l.getD k Mv.z).t ks
def Chain (l : List Mv) : Ver → List Nat → Prop
 | v, [] => True
 | v, k :: ks => k < l.length ∧ hasM (l.getD k Mv.z) v = true ∧ (l.getD k Mv.z).t ≠ v ∧ Chain l (l.getD k Mv.z).t ks
theorem chain_snoc {l : List Mv} {k : Nat} (hk : k < l.length) : ∀ {v : Ver} {ks : List Nat}, Chain l v ks → hasM (l.getD k Mv.z) (wEnd l v ks) = true → (l.getD k Mv.z).t ≠ wEnd l v ks → Chain l v (ks ++ [k]) ∧ wEnd l v (ks ++ [k]) = (l.getD k Mv.z).t
  | v, [], _, h1, h2 => ⟨⟨hk, h1, h2, trivial⟩, rfl⟩
  | v, j :: ks, h, h1, h2 => by
    obtain ⟨a, b, c, d⟩ := h
    obtain ⟨e, f⟩ := chain_snoc hk (v := (l.getD j Mv.z).t) (ks := ks) d h1 h2
    exact ⟨⟨a, b, c, e⟩, f⟩
structure StOk (l : List Mv) (v : Ver) (seen : Seen) (s : Stp) : Prop where
 ch : Chain l v s.2
 en : wEnd l v s.2 = s.1
 se : getL beqV false seen s.1 = true
theorem get_setV {seen : Seen} {k q : Ver} (h : getL beqV false seen q = true) : getL beqV false (setL beqV seen k true) q = true := by
 induction seen with
 | nil => cases h
 | cons x l ih =>
  unfold setL
  cases hb : beqV k x.1 with
  | true =>
   have hk := (beqV_iff _ _).1 hb
   simp only [cond_true]
   unfold getL at h ⊢
   rw [← hk] at h
   cases hq : beqV q k with
   | true => simp only [hq, cond_true]
   | false => simp only [hq, cond_false] at h ⊢; exact h
  | false =>
   simp only [cond_false]
   unfold getL at h ⊢
   cases hq : beqV q x.1 with
   | true => simp only [hq, cond_true] at h ⊢; exact h
   | false => simp only [hq, cond_false] at h ⊢; exact ih h
theorem get_setV' {seen : Seen} {k : Ver} : getL beqV false (setL beqV seen k true) k = true := by
 have hk : beqV k k = true := (beqV_iff _ _).2 rfl
 induction seen with
 | nil => unfold setL getL; simp only [hk, cond_true]
 | cons x l ih =>
  unfold setL
  cases hb : beqV k x.1 with
  | true => simp only [cond_true]; unfold getL; simp only [hb, hk, cond_true]
  | false => simp only [cond_false]; unfold getL; simp only [hb, cond_false]; exact ih
theorem StOk.step {l : List Mv} {v : Ver} {sq : Seen × List Stp} {a : Stp} {i : Nat} (hi : i < l.length) (ha : StOk l v sq.1 a) (hq : ∀ s ∈ sq.2, StOk l v sq.1 s) :
  StOk l v (stepW l a sq i).1 a ∧ ∀ s ∈ (stepW l a sq i).2, StOk l v (stepW l a sq i).1 s := by
 unfold stepW
 split
 ·skip
  rename_i hc
  rw [Bool.and_eq_true] at hc
  have hn : getL beqV false sq.1 (l.getD i Mv.z).t = false := by simpa using hc.2
  refine ⟨⟨ha.ch, ha.en, get_setV ha.se⟩, fun s hs => ?_⟩
  rcases List.mem_append.1 hs with hs | hs
  ·skip
   exact ⟨(hq s hs).ch, (hq s hs).en, get_setV (hq s hs).se⟩
  ·skip
   obtain rfl := List.mem_singleton.1 hs
   have hne : (l.getD i Mv.z).t ≠ wEnd l v a.2 := fun e => by
    rw [ha.en] at e
    rw [e, ha.se] at hn; cases hn
   obtain ⟨h1, h2⟩ := chain_snoc hi ha.ch (by rw [ha.en]; exact hc.1) hne
   exact ⟨h1, h2, get_setV'⟩
 ·skip
  exact ⟨ha, hq⟩
theorem StOk.scan {l : List Mv} {v : Ver} {sq : Seen × List Stp} {a : Stp} (ha : StOk l v sq.1 a) (hq : ∀ s ∈ sq.2, StOk l v sq.1 s) : ∀ {i : Nat}, i ≤ l.length →
    StOk l v (scanW l a sq i).1 a ∧ ∀ s ∈ (scanW l a sq i).2, StOk l v (scanW l a sq i).1 s
  | 0, _ => ⟨ha, hq⟩
  | i + 1, hi => by
    obtain ⟨h1, h2⟩ := StOk.scan ha hq (i := i) (by omega)
    exact StOk.step (by omega) h1 h2
theorem bfs_ok {l : List Mv} {v w : Ver} {ks : List Nat} : ∀ {n : Nat} {seen : Seen} {q : List Stp}, (∀ s ∈ q, StOk l v seen s) → bfs l w n seen q = (ks, 0) → Chain l v ks ∧ orderB (wEnd l v ks) w = 0
  | 0, _, _, _, h => by simp [bfs] at h
  | n + 1, _, [], _, h => by simp [bfs] at h
  | n + 1, seen, a :: q, hq, h => by
    unfold bfs at h
    have ha := hq a (by simp)
    split at h
    · rename_i ho
      obtain rfl : a.2 = ks := (Prod.mk.inj h).1
      exact ⟨ha.ch, by rw [ha.en]; simpa using ho⟩
    · exact bfs_ok (fun s hs => (StOk.scan (sq := (seen, a :: q)) ha hq (Nat.le_refl _)).2 s (List.mem_of_mem_drop hs)) h
theorem start_ok (l : List Mv) (v : Ver) : ∀ s ∈ ([(v, [])] : List Stp), StOk l v [(v, true)] s := fun s hs => by
 obtain rfl := List.mem_singleton.1 hs
 have hk : beqV v v = true := (beqV_iff _ _).2 rfl
 exact ⟨trivial, rfl, by unfold getL; simp only [hk, cond_true]⟩
structure WayOk (l : List Mv) (v w : Ver) (ks : List Nat) : Prop where
 ch : Chain l v ks
 en : orderB (wEnd l v ks) w = 0
 le : l.length ≤ 200
 mv : ∀ m ∈ l, moveE m = 0
 v0 : v.check = 0
 w0 : w.check = 0
theorem way_ok {l : List Mv} {v w : Ver} (h : ((wayP l v w).2 != 0) = false) : WayOk l v w (wayP l v w).1 := by
  have h0 : (wayP l v w).2 = 0 := by simpa using h
  have he : wayP l v w = ((wayP l v w).1, 0) := Prod.ext rfl h0
  unfold wayP at he h0
  split at h0
  · cases h0
  · rename_i c1
    rw [if_neg c1] at he
    split at h0
    · rename_i c2; have h0 : firstNe (l.map moveE) = 0 := h0; rw [h0] at c2; cases c2
    · rename_i c2
      rw [if_neg c2] at he
      split at h0
      · rename_i c3; have h0 : v.check = 0 := h0; rw [h0] at c3; cases c3
      · rename_i c3
        rw [if_neg c3] at he
        split at h0
        · rename_i c4; have h0 : w.check = 0 := h0; rw [h0] at c4; cases c4
        · rename_i c4
          rw [if_neg c4] at he
          obtain ⟨h1, h2⟩ := bfs_ok (start_ok l v) he
          refine ⟨?_, ?_, ?_, fun m hm => firstNe_zero (by simpa using c2) _ (List.mem_map.2 ⟨m, hm, rfl⟩), by simpa using c3, by simpa using c4⟩
          · unfold wayP; rw [if_neg c1, if_neg c2, if_neg c3, if_neg c4]; exact h1
          · unfold wayP; rw [if_neg c1, if_neg c2, if_neg c3, if_neg c4]; exact h2
          · have : ¬ ((l.length : Int) > 200) := by simpa using c1
            omega
theorem step_len {l : List Mv} {a : Stp} {sq : Seen × List Stp} {L : Nat} (ha : a.2.length ≤ L) (hq : ∀ s ∈ sq.2, s.2.length ≤ L + 1) (i : Nat) : ∀ s ∈ (stepW l a sq i).2, s.2.length ≤ L + 1 := by
 unfold stepW
 split
 ·skip
  intro s hs
  rcases List.mem_append.1 hs with hs | hs
  ·skip
   exact hq s hs
  ·skip
   obtain rfl := List.mem_singleton.1 hs
   simp; omega
 ·skip
  exact hq
theorem scan_len {l : List Mv} {a : Stp} {sq : Seen × List Stp} {L : Nat} (ha : a.2.length ≤ L) (hq : ∀ s ∈ sq.2, s.2.length ≤ L + 1) : ∀ i, ∀ s ∈ (scanW l a sq i).2, s.2.length ≤ L + 1
 | 0 => hq
 | i + 1 => step_len ha (scan_len ha hq i) i
theorem bfs_len {l : List Mv} {w : Ver} : ∀ {n L : Nat} {seen : Seen} {q : List Stp}, (∀ s ∈ q, s.2.length ≤ L) → (bfs l w n seen q).1.length ≤ L + n
  | 0, _, _, _, _ => by simp [bfs]
  | n + 1, L, _, [], _ => by simp [bfs]
  | n + 1, L, seen, a :: q, hq => by
    unfold bfs
    have ha := hq a (by simp)
    split
    · show a.2.length ≤ _; omega
    · have := bfs_len (l := l) (w := w) (n := n) (L := L + 1) (seen := (scanW l a (seen, a :: q) l.length).1) (q := (scanW l a (seen, a :: q) l.length).2.drop 1) (fun s hs => scan_len ha (fun s hs => Nat.le_succ_of_le (hq s hs)) l.length s (List.mem_of_mem_drop hs))
      omega
theorem way_len (l : List Mv) (v w : Ver) : (wayP l v w).1.length ≤ 1000 := by
  unfold wayP
  split
  · exact Nat.zero_le _
  · rename_i c1
    have hl : ¬ ((l.length : Int) > 200) := by simpa using c1
    split
    · exact Nat.zero_le _
    · split
      · exact Nat.zero_le _
      · split
        · exact Nat.zero_le _
        · have := bfs_len (l := l) (w := w) (n := l.length + 1) (L := 0) (seen := [(v, true)]) (q := [(v, [])]) (fun s hs => by obtain rfl := List.mem_singleton.1 hs; exact Nat.le_refl _)
          omega
theorem scan_0 (l : List Mv) (a : Stp) (sq : Seen × List Stp) : scanW l a sq 0 = sq := rfl
theorem bfs_hit {l : List Mv} {w : Ver} {n : Nat} {sn : Seen} {a : Stp} {q : List Stp} (h : (orderB a.1 w == 0) = true) : bfs l w (n + 1) sn (a :: q) = (a.2, 0) := by unfold bfs; exact if_pos h
theorem bfs_next {l : List Mv} {w : Ver} {n : Nat} {sn : Seen} {a : Stp} {q : List Stp} (h : (orderB a.1 w == 0) = false) : bfs l w (n + 1) sn (a :: q) = bfs l w n (scanW l a (sn, a :: q) l.length).1 ((scanW l a (sn, a :: q) l.length).2.drop 1) := by
 show (if orderB a.1 w == 0 then (a.2, 0) else bfs l w n (scanW l a (sn, a :: q) l.length).1 ((scanW l a (sn, a :: q) l.length).2.drop 1)) = _
 exact if_neg (Bool.eq_false_iff.1 h)
theorem scan_hit {l : List Mv} {a : Stp} {sq : Seen × List Stp} {i : Nat} {sn2 : Seen} {q2 : List Stp} (h : scanW l a sq i = (sn2, q2)) (c : (hasM (l.getD i Mv.z) a.1 && !getL beqV false sn2 (l.getD i Mv.z).t) = true) :
  scanW l a sq (i + 1) = (setL beqV sn2 (l.getD i Mv.z).t true, q2 ++ [((l.getD i Mv.z).t, a.2 ++ [i])]) := by
 show stepW l a (scanW l a sq i) i = _
 rw [h]; exact if_pos c
theorem scan_miss {l : List Mv} {a : Stp} {sq : Seen × List Stp} {i : Nat} {sn2 : Seen} {q2 : List Stp} (h : scanW l a sq i = (sn2, q2)) (c : (hasM (l.getD i Mv.z) a.1 && !getL beqV false sn2 (l.getD i Mv.z).t) = false) : scanW l a sq (i + 1) = (sn2, q2) := by
 show stepW l a (scanW l a sq i) i = _
 rw [h]; exact if_neg (Bool.eq_false_iff.1 c)
end
section
open Go Go.RowKit
section
variable {J : Inv} {k0 : Lens} {E : Env J k0} {P : Program} {T : TypeId → Option TI} {n : Nat} {t : Nat → V} {b : List (List C)} {r : List (Option RowO)} {m : List (List (DV × DV))} {ops : Array Oper} {l : List Oper}
  {K : St → Prop} {i : Nat} {ty : TypeId} {pos : String} {after : Array Edge}
variable {α β : Type} {enc : α → DV} {val : α → Value} {same : α → α → Bool}
theorem Rel.whenT {g : Gh} {a : Act} {w : World} {v : V} (rel : Rel E n g ⟨upd t i v, b, r, m⟩ a w) : Rel E n g ⟨upd t i (.when true v), b, r, m⟩ a w := by
 refine ⟨rel.below, rel.ext, rel.imlt, rel.imold, rel.own, ⟨rel.heap.lt, rel.heap.new, rel.heap.inj, rel.heap.box, rel.heap.row, rel.heap.map⟩, rel.size, rel.defers, fun j hj => ?_⟩
 have h := rel.tmps j hj
 have e1 : (⟨upd t i v, b, r, m⟩ : St).t j = upd t i v j := rfl
 have e2 : (⟨upd t i (.when true v), b, r, m⟩ : St).t j = upd t i (.when true v) j := rfl
 rw [e1] at h
 rw [e2]
 by_cases hij : i = j
 ·skip
  subst hij
  rw [upd_same] at h ⊢
  exact .whenT _ _ h
 ·skip
  rw [upd_ne _ _ hij] at h ⊢
  exact h
theorem S.lookupFG (hT : TabOk P T) {tm kt et : TypeId} {ti ei : TI} {x y : Operand} {co c : Bool} {mi : Nat} {a0 : α} {fD : β → DV} {j : Nat} {want : Bool} (z : β) (l0 : List (α × β)) (hg : guardV n ops t j want = some c) (hti : T tm = some ti) (hd : ti.desc = .map kt et) (ke : KeyF P kt enc val same)
  (hei : T et = some ei) (hx : opd n ⟨bare t, b, r, m⟩ x = (true, .one (.map mi))) (hy : opd n ⟨bare t, b, r, m⟩ y = (true, (enc a0).v)) (ht : allT c (tagsO t [x, y])) (hm : m[mi]? = some (mapOfF enc fD l0)) (hz : constV ei.zero = (fD z).v) (hzo : constOk ei.zero = true)
  {v : V} (hv : mapV co (fD (getL same z l0 a0)).v (hasL same l0 a0) = v) (k : WL E P n ops l K ⟨upd t i (.when c v), b, r, m⟩) : WL E P n ops (⟨some i, .lookup tm x y co, ty, pos, after, some (j, want)⟩ :: l) K ⟨t, b, r, m⟩ := by
 cases c with
 | true =>
  have htt := allT_mem ht rfl
  have h1 := opds_bare (n := n) (b := b) (r := r) (m := m) htt (List.mem_cons_self ..)
  have h2 := opds_bare (n := n) (b := b) (r := r) (m := m) (x := y) htt (List.mem_cons_of_mem _ (List.mem_cons_self ..))
  rw [← h1] at hx
  rw [← h2] at hy
  refine S.sure hg ?_
  refine Step.weak (K := fun s1 => s1 = ⟨upd t i v, b, r, m⟩) (S.lookupF (l := []) hT z l0 hti hd ke hei hx hy hm hz hzo hv rfl) (fun s g a w hs rel => ?_)
  subst hs
  exact ⟨g, _, k, rel.whenT⟩
 | false => exact Step.skip (o := ⟨some i, .lookup tm x y co, ty, pos, after, some (j, want)⟩) rfl (guardV_B hg) v k
end
end
section
open Go Go.RowKit
section
variable {J : Inv} {k0 : Lens} {E : Env J k0} {P : Program} {T : TypeId → Option TI} {n : Nat} {t : Nat → V} {b : List (List C)} {r : List (Option RowO)} {m : List (List (DV × DV))} {ops : Array Oper} {l : List Oper}
  {K : St → Prop} {i : Nat} {ty : TypeId} {pos : String} {after : Array Edge}
theorem S.sliceRowE (hT : TabOk P T) {tt e : TypeId} {ti ei : TI} {x : Operand} {lo hi : Option Operand} {ri ver off k : Nat} {l0 h0 : Int} {o : RowO} (sz : Nat) (hti : T tt = some ti) (hd : ti.desc = .slice e) (hei : T e = some ei)
  (hx : opd n ⟨t, b, r, m⟩ x = (true, .one (.row ri ver off k))) (hlo : bnd n ⟨t, b, r, m⟩ 0 lo = some (true, l0)) (hhi : bnd n ⟨t, b, r, m⟩ k hi = some (true, h0)) (ho : rowAt ⟨t, b, r, m⟩ ri ver = some o)
  (hl : l0 = (k : Int)) (hh : h0 = (k : Int)) (hk : 0 < k)
  (h : WL E P n ops l K ⟨upd t i (.one (.d (.vec sz []))), b, r, m⟩) : WL E P n ops (⟨some i, .slice tt x lo hi none, ty, pos, after, none⟩ :: l) K ⟨t, b, r, m⟩ := by
 subst hl; subst hh
 intro g a w rel next Q hn
 have hw : Region.wanted (⟨some i, .slice tt x lo hi none, ty, pos, after, none⟩ : Oper) (yielded ops a.tmps) = true := by simp [Region.wanted]
 rw [if_pos hw]
 have hp := opd_ok rel hx rfl
 generalize hz : a.eval x = z at hp
 cases hp with | one _ _ hp =>
 obtain ⟨q1, q2, q3⟩ := row_val (s := ⟨t, b, r, m⟩) rel.heap ho hp
 rcases q3 with ⟨hal, rfl⟩ | ⟨_, hn0, _⟩
 ·skip
  obtain ⟨ho1, ho2⟩ := rowAt_some ho
  have hrow := rel.heap.row ri o ho1
  rw [if_pos hal] at hrow
  obtain ⟨vs, tt', p1, ⟨p2, p3, p4, p5⟩, p6, p7, _, p8⟩ := hrow
  have hbb := sliceBounds_ok (P := P) (w := w) (isS := true) (m := k) (cap := g.cap ri - off) (bnd_ok rel hlo rfl) (bnd_ok rel hhi rfl) (by omega) (by omega) (by omega) (by omega)
  have hut := (hT tt ti hti).1
  rw [hd] at hut
  have hrun : ∃ A c, (execOp a.eval (⟨some i, .slice tt x lo hi none, ty, pos, after, none⟩ : Oper)).run P w = .ok (.value (.slice A 0 c)) w := by
   simp only [execOp, hz, Instr.sliceAt, Instr.slice, Sem.run_bind, run_underlying hut, Result.andThen_ok, run_sizeOf' hT hei, Option.map_none, hbb, Sem.run_pure, Int.toNat_natCast, Nat.sub_self]
   exact ⟨_, _, rfl⟩
  obtain ⟨A, c, hrun⟩ := hrun
  unfold Oper.wp
  rw [hrun]
  exact hn _ g _ _ h (rel.put_same (some i) (.one _ _ (.d _ _ (.empty _ _ _))))
 ·skip
  omega
end
end
end Go.Proofs.YtpelfildfidnbaaGreatDoor
