/- Part 4 of a proof: A52, W72, V80, V81, W83, W33, V26, V27, W37, W84, V82, W85, W86, W14, W15, W16, V95, V17, V83, V84, V96, A63, A64, A65, A53, W100, ShelfK, L6, W61. -/
import Derived.Lib.Bytealg
import Derived.Lib.Replace
import Derived.Lib.ReplaceLaws
import Derived.Shelf.SlIter.Nil
import Derived.Shelf.SortM.Plain
import Derived.Shelf.SortM.SortNone
import Derived.Ground.GgzProg
import Derived.Ground.SlgmProg
import Derived.Test.YtpelfildfidnbaaGreatDoorProg
import Derived.Test.YtpelfildfidnbaaGreatDoorMCMovesMatch3
set_option linter.unusedVariables false
set_option linter.unusedSimpArgs false
set_option maxRecDepth 100000
set_option maxHeartbeats 4000000
set_option maxRecDepth 20000
namespace Go.Proofs.YtpelfildfidnbaaGreatDoor
section
open Go Go.RowKit
theorem RV.dv {g : Gh} {h h' : Sh} {w : World} {d : DV} {u : Value} (hv : RV g h w d.v u) : RV g h' w d.v u := by
  have ha : ∀ ds : List D, RV g h w (.agg (ds.map .d)) u → RV g h' w (.agg (ds.map .d)) u := fun ds hv => by
    cases hv with
    | agg _ vs hl hx => exact .agg _ vs hl (fun i c v hc hv' => by
        have := hx i c v hc hv'
        rw [List.getElem?_map] at hc
        obtain ⟨d, _, rfl⟩ := Option.map_eq_some_iff.1 hc
        cases this with | d _ _ hq => exact .d _ _ hq)
  cases d with
  | one d => cases hv with | one _ _ hv => cases hv with | d _ _ hv => exact .one _ _ (.d _ _ hv)
  | st n c d => cases hv with | one _ _ hv => cases hv with | d _ _ hv => exact .one _ _ (.d _ _ hv)
  | agg ds => exact ha ds hv
  | sta _ _ ds => exact ha ds hv
theorem W.reVerM {J : Inv} {k0 : Lens} {E : Env J k0} {P : Program} {n : Nat} {c : Code} {K : Ex → St → Prop} {l l0 : List (Nat × V)} {b b0 : List (List C)} {r r' : List (Option RowO)} {m : List (List (DV × DV))} {v sz : Nat} {al : Bool} {e : TypeId} {xs : List (List D)} (ri : Nat)
  (hr : r[ri]? = some (some ⟨al, v, sz, e, xs⟩)) (hl : reL ri v l = l0) (hb : b.map (fun cs => cs.map (reC ri v)) = b0) (hr' : r.set ri (some ⟨al, 0, sz, e, xs⟩) = r')
  (hok : (Nat.ble k0.R ri && ((l.all fun x => reOkV ri x.2) && b.all fun cs => cs.all (reOkC ri))) = true) (h : W E P n c K ⟨ofL l, b, r', m⟩) : W E P n c K ⟨ofL l0, b0, r, m⟩ := by
 subst hl; subst hb; subst hr'
 simp only [Bool.and_eq_true] at hok
 have hR := Nat.le_of_ble_eq_true hok.1
 have hlt : ri < r.length := (List.getElem?_eq_some_iff.1 hr).1
 refine h.weaken fun g a w rel => ⟨g, ?_⟩
 have hs : ReSh ri v (⟨ofL (reL ri v l), b.map (fun cs => cs.map (reC ri v)), r, m⟩ : St).sh (⟨ofL l, b, r.set ri (some ⟨al, 0, sz, e, xs⟩), m⟩ : St).sh := by
  refine ⟨by simp [St.sh], rfl, by simp [St.sh], fun q hq => ?_, al, sz, xs.length, by simp [St.sh, hr, RowO.form], by simp [St.sh, hlt, RowO.form]⟩
  have hq' : ¬ ri = q := fun e => hq e.symm
  simp [St.sh, List.getElem?_set, hq']
 have hlive : ∀ x, (⟨ofL l, b, r.set ri (some ⟨al, 0, sz, e, xs⟩), m⟩ : St).live x → (⟨ofL (reL ri v l), b.map (fun cs => cs.map (reC ri v)), r, m⟩ : St).live x := fun x hx => by
  cases x with
  | b q => have : q < b.length := hx; show q < (b.map _).length; simpa using this
  | m q => exact hx
  | r q =>
   obtain ⟨o, ho, hal⟩ := hx
   have ho : (r.set ri (some ⟨al, 0, sz, e, xs⟩))[q]? = some (some o) := ho
   by_cases hq : ri = q
   ·skip
    subst hq
    simp [hlt] at ho
    exact ⟨_, hr, by rw [← ho] at hal; exact hal⟩
   ·skip
    rw [List.getElem?_set, if_neg hq] at ho; exact ⟨o, ho, hal⟩
 refine ⟨rel.below, ?_, rel.imlt, rel.imold, fun x hx => rel.own x (hlive x hx), ⟨fun x hx => rel.heap.lt x (hlive x hx), fun x hx => rel.heap.new x (hlive x hx), fun x y hx hy => rel.heap.inj x y (hlive x hx) (hlive y hy), fun q cs hq => ?_, fun q o hq => ?_, fun q es hq => ?_⟩, rel.size, rel.defers, fun i hi => ?_⟩
 ·skip
  have x := rel.ext
  refine ⟨x.im, x.same, by rw [hs.L]; exact x.lenL, by rw [hs.M]; exact x.lenM, by rw [hs.len]; exact x.lenR, x.atB, x.atM, fun q al' ver' sz' len' hq hh => x.rows q al' ver' sz' len' hq ?_⟩
  rw [← hs.other q (by rw [E.hR] at hq; omega)]; exact hh
 ·skip
  have hq : b[q]? = some cs := hq
  obtain ⟨vs, t, h1, h2, h3⟩ := rel.heap.box q (cs.map (reC ri v)) (by simp [hq])
  refine ⟨vs, t, h1, by simpa using h2, fun j c x hc hx => (h3 j (reC ri v c) x (by simp [hc]) hx).re hs ?_⟩
  exact List.all_eq_true.1 (List.all_eq_true.1 hok.2.2 cs (List.mem_of_getElem? hq)) c (List.mem_of_getElem? hc)
 ·skip
  have hq : (r.set ri (some ⟨al, 0, sz, e, xs⟩))[q]? = some (some o) := hq
  by_cases hqe : ri = q
  ·skip
   subst hqe
   simp [hlt] at hq
   subst hq
   exact rel.heap.row ri ⟨al, v, sz, e, xs⟩ hr
  ·skip
   rw [List.getElem?_set, if_neg hqe] at hq; exact rel.heap.row q o hq
 ·skip
  obtain ⟨arr, clock, h1, h2, h3⟩ := rel.heap.map q es hq
  exact ⟨arr, clock, h1, h2, fun i x e hx he => ⟨(h3 i x e hx he).1.dv, (h3 i x e hx he).2.dv⟩⟩
 ·skip
  have h1 := rel.tmps i hi
  have e1 : (⟨ofL (reL ri v l), b.map (fun cs => cs.map (reC ri v)), r, m⟩ : St).t i = reV ri v (ofL l i) := ofL_re ri v l i
  rw [e1] at h1
  exact h1.re hs (ofL_ok hok.2.1 i)
end
section
open Go
open Go.RowKit
attribute [local irreducible] thenK blockK W
attribute [local irreducible] rangeB pathB nameB valueB firstNe parR rangeE Ver.check hasB HasB readE moveE orderB scanW stepW bfs listD intsD
def seenD (s : Seen) : List (DV × DV) := mapOfF (fun a : Ver => DV.agg (verD a)) (fun z : Bool => DV.one (.bool z)) s
def stopD (s : Stp) : List D := [.int .i64 s.1.a, .int .i64 s.1.b, .int .i64 s.1.c, .str s.1.e, listD s.2]
theorem list_snoc (l : List Nat) (k : Nat) : listD (l ++ [k]) = .vec 1 (intsD (l ++ [k])) := by
 cases l <;> simp [listD]
theorem ints_snoc (l : List Nat) (k : Nat) : intsD l ++ [[.int .i64 (k : Int)]] = intsD (l ++ [k]) := by simp [intsD]
def StB (sn : Seen) (q : List Stp) : Prop := ∀ s ∈ q, s.1.e.length < 4294967281 ∧ s.2.length < sn.length
theorem start_row (v : Ver) : ([[.int .i64 v.a, .int .i64 v.b, .int .i64 v.c, .str v.e, .nilsl]] : List (List D)).drop 0 = [((v, []) : Stp)].map stopD := by simp [stopD, listD]
theorem row_head {xs : List (List D)} {o : Nat} {a : Stp} {q : List Stp} (h : xs.drop o = (a :: q).map stopD) : xs.getD o [] = stopD a := by
 have h1 : (xs.drop o)[0]? = some (stopD a) := by rw [h]; rfl
 rw [List.getElem?_drop] at h1
 simp only [Nat.add_zero] at h1
 rw [List.getD_eq_getElem?_getD, h1]; rfl
def stopsV (q : List Stp) (o vr : Nat) : V := if q.isEmpty then .one (.d (.vec 5 [])) else .one (.row 0 vr o q.length)
theorem wyP_1 {l : List Mv} {v w : Ver} (h : decide ((l.length : Int) > 200) = true) : wayP l v w = ([], 4) := if_pos h
theorem wyP_2 {l : List Mv} {v w : Ver} {i : Nat} (h : decide ((l.length : Int) > 200) = false) (hi : i < l.length) (ht : ((l.map moveE).take i).all (· == 0) = true) (c : (moveE (l.getD i Mv.z) != 0) = true) : wayP l v w = ([], moveE (l.getD i Mv.z)) := by
 have h2 := fe_hit (f := moveE) (d := Mv.z) hi ht c
 unfold wayP
 rw [if_neg (Bool.eq_false_iff.1 h), h2, if_pos c]
theorem wyP_0 {l : List Mv} {v w : Ver} (h : decide ((l.length : Int) > 200) = false) (ht : ((l.map moveE).take l.length).all (· == 0) = true) :
  wayP l v w = if v.check != 0 then ([], v.check) else if w.check != 0 then ([], w.check) else bfs l w (l.length + 1) [(v, true)] [(v, [])] := by
 have h2 : firstNe (l.map moveE) = 0 := fe_end (Nat.le_refl _) ht
 unfold wayP
 rw [if_neg (Bool.eq_false_iff.1 h), h2]; rfl
theorem stop_snoc {xs xs3 : List (List D)} {o o3 : Nat} {q2 : List Stp} {m : Mv} {a : Stp} {i : Nat} {x : List D} (h : xs.drop o = q2.map stopD) (h3 : xs3.drop o3 = xs.drop o ++ [x]) (hx : x = stopD (m.t, a.2 ++ [i])) : xs3.drop o3 = (q2 ++ [(m.t, a.2 ++ [i])]).map stopD := by
 rw [h3, h, hx]; simp
theorem ints_len (l : List Nat) : (intsD l).length = l.length := by simp [intsD]
theorem stop_x (m : Mv) (a : Stp) (i : Nat) : [.int .i64 m.t.a, .int .i64 m.t.b, .int .i64 m.t.c, .str m.t.e, .vec 1 (intsD (a.2 ++ [i]))] = stopD (m.t, a.2 ++ [i]) := by unfold stopD; rw [list_snoc]
theorem row_snoc {q : List Stp} {s : Stp} {o : Nat} : V.one (.row 0 1 o (q.length + 1)) = V.one (.row 0 1 o (q ++ [s]).length) := by simp
theorem drop_next {xs : List (List D)} {o : Nat} {x : Stp} {q : List Stp} (h : xs.drop o = (x :: q).map stopD) : xs.drop (o + 1) = q.map stopD := by
 rw [← List.drop_drop, h]; rfl
theorem andn {a b : Bool} (h : (a && !b) = true) : b = false := by cases a <;> cases b <;> simp_all
theorem StB.more {sn : Seen} {q : List Stp} (h : StB sn q) {k : Ver} {a : Stp} {i : Nat} (hk : k.e.length < 4294967281) (ha : a.2.length < sn.length) (hn : getL beqV false sn k = false) (ht : ∀ x ∈ sn, x.2 = true) : StB (setL beqV sn k true) (q ++ [(k, a.2 ++ [i])]) := by
 have hh : hasL beqV sn k = false := by rw [← get_seen ht]; exact hn
 rw [set_seen hh]
 intro s hs
 rcases List.mem_append.1 hs with hs | hs
 ·skip
  have := h s hs
  simp; omega
 ·skip
  obtain rfl := List.mem_singleton.1 hs
  simp; omega
theorem le_nilI : LeV (.one (.d .nilsl)) (.one (.d (.vec 1 (intsD [])))) := by
 rw [show intsD [] = [] by simp [intsD]]; exact LeV.nil 1
theorem le_way {k : Int} {xs : D} {x : List Nat × Int} {ys : List Nat} (h : x = (ys, k)) (hx : LeV (.one (.d xs)) (.one (.d (.vec 1 (intsD ys))))) : LeV (.tup [.one (.d xs), .one (.d (.int .i64 k))]) (.tup [.one (.d (.vec 1 (intsD x.1))), .one (.d (.int .i64 x.2))]) := by
 subst h; exact LeV.tup2 hx (LeV.refl _)
theorem pc_Way (l : List Mv) (v w : Ver) (hb : ∀ m ∈ l, MvB m) (hv : v.e.length < 4294967281) (hw : w.e.length < 4294967281) :
  PureCall Tryz.prog J 29 [.one (.d (.vec 6 (l.map mvD))), verV v, verV w] (.tup [.one (.d (.vec 1 (intsD (wayP l v w).1))), .one (.d (.int .i64 (wayP l v w).2))]) := by
 refine PureCall.of_body tOk (fn := Tryz.f29) Tryz.func29 (by kernel_rfl) rfl (Nat.le_of_ble_eq_true rfl) (fun E => ?_)
 iterate 12 first|refine Yp rfl ?_|refine S.box rfl rfl rfl rfl ?_|apply Y1|apply Yn|apply Ys
 refine W.cond rfl (fun c1=>?_) fun c1=>?_
 ·skip
  have c1 : decide ((l.length : Int) > 200) = true := by simpa using c1
  iterate 6 first|refine Yp rfl ?_|apply Yu|apply Yt|apply Y1|apply Yn
  exact ⟨_, rfl, rfl, le_way (ys := []) (wyP_1 c1) le_nilI⟩
 have c1 : decide ((l.length : Int) > 200) = false := by simpa using c1
 have hl2 : l.length ≤ 200 := by simp at c1; omega
 iterate 9 first|refine Yp rfl ?_|apply Yb|apply Yk|apply Y1|apply Yn|apply Ys
 refine W.loop (fun k st => ∃ i : Nat, i ≤ l.length ∧ ((l.map moveE).take i).all (· == 0) = true ∧ k = l.length - i ∧ ∃ t b2 r2 m2, st = ⟨t, [[.d (.int .i64 v.a), .d (.int .i64 v.b), .d (.int .i64 v.c), .d (.str v.e)], [.d (.int .i64 w.a), .d (.int .i64 w.b), .d (.int .i64 w.c), .d (.str w.e)]] ++ b2, [] ++ r2, [] ++ m2⟩ ∧ holdsL t [(0, .one (.d (.vec 6 (l.map mvD)))), (4, .one (.ptr 0 0)), (5, .one (.ptr 1 0)), (24, .one (.d (.vec 6 (l.map mvD)))), (25, .one (.d (.int .i64 ((l.map mvD).length : Int)))), (26, .one (.d (.int .i64 (i : Int))))]) (l.length) ⟨0, Nat.zero_le _, by simp, rfl, _, _, _, _, rfl, rfl, rfl, rfl, rfl, rfl, rfl, trivial⟩ ?_
 rintro k0 _ ⟨i, f0_0, f0_1, rfl, t0, bb0, rr0, mm0, rfl, hh0⟩
 refine W.keepR _ _ _ _ _ _ _ hh0 rfl ?_
 apply Y1
 refine Yp rfl ?_
 apply Yn
 apply Ys
 refine W.cond rfl (fun c2=>?_) fun c2=>?_
 ·skip
  have hi := row_lt c2
  have hmb := hb _ (mem_getD (d := Mv.z) hi)
  apply Yk
  apply Yn
  apply Ys
  apply Yb
  apply Y1
  refine YE rfl (row_ok hi) (row_at Mv.z hi) rfl ?_
  iterate 5 first|refine Yp rfl ?_|refine S.store tOk rfl rfl rfl rfl rfl rfl rfl rfl ?_|refine S.alloc tOk rfl rfl rfl rfl ?_|apply Y3
  refine S.call rfl rfl rfl rfl rfl (pc_CheckMove (l.getD i Mv.z) hmb) ?_
  iterate 5 first|refine Yp rfl ?_|apply Y3|apply Yn
  refine W.cond rfl (fun c3=>?_) fun c3=>?_
  ·skip
   iterate 11 first|apply Yu|refine Yp rfl ?_|apply Yv|apply Yt|apply Y1|apply Yn
   exact ⟨_, rfl, rfl, le_way (ys := []) (wyP_2 c1 hi f0_1 c3) le_nilI⟩
  apply Yk
  apply Yw
  apply Y4
  iterate 2 refine Yp rfl ?_
  refine loop_n (l.length - (i + 1)) (by omega) ⟨i + 1, hi, fe_next (d := Mv.z) hi f0_1 c3, rfl, _, _, _, _, rfl, rfl, rfl, rfl, rfl, rfl, inc_i64 (by omega), trivial⟩
 have hi := row_ge c2
 obtain rfl : i = l.length := by omega
 have h00 := wyP_0 (v := v) (w := w) c1 f0_1
 iterate 13 first|refine Yp rfl ?_|apply Ye|apply Yb|apply Yx|apply Yq|apply Y1|apply Yn|apply Ys
 refine W.rounds 3 ?_
 refine WR.succ ?_
 apply Y1
 refine Yp rfl ?_
 apply Yn
 apply Ys
 refine W.condT rfl rfl ?_
 apply Yk
 apply Yn
 apply Ys
 apply Yb
 apply Y1
 refine YP rfl (by first | rfl | exact idx_ok (by omega) (by omega)) rfl ?_
 refine S.alloc tOk rfl rfl rfl rfl ?_
 refine S.store tOk rfl rfl rfl rfl rfl rfl rfl rfl ?_
 apply Y3
 refine Yp rfl ?_
 refine S.call rfl rfl rfl rfl rfl (pc_ver_Check v hv) ?_
 iterate 5 first|refine Yp rfl ?_|apply Y3|apply Yn
 refine W.cond rfl (fun c5=>?_) fun c5=>?_
 ·skip
  iterate 11 first|apply Yu|refine Yp rfl ?_|apply Yv|apply Yt|apply Y1|apply Yn
  exact ⟨_, rfl, rfl, le_way (ys := []) (by rw [h00, if_pos c5]) le_nilI⟩
 apply Yk
 apply Yw
 apply Y4
 iterate 2 refine Yp rfl ?_
 apply Yn
 refine WR.succ ?_
 apply Y1
 refine Yp rfl ?_
 apply Yn
 apply Ys
 refine W.condT rfl rfl ?_
 apply Yk
 apply Yn
 apply Ys
 apply Yb
 apply Y1
 refine YP rfl (by first | rfl | exact idx_ok (by omega) (by omega)) rfl ?_
 refine S.alloc tOk rfl rfl rfl rfl ?_
 refine S.store tOk rfl rfl rfl rfl rfl rfl rfl rfl ?_
 apply Y3
 refine Yp rfl ?_
 refine S.call rfl rfl rfl rfl rfl (pc_ver_Check w hw) ?_
 iterate 5 first|refine Yp rfl ?_|apply Y3|apply Yn
 refine W.cond rfl (fun c7=>?_) fun c7=>?_
 ·skip
  iterate 11 first|apply Yu|refine Yp rfl ?_|apply Yv|apply Yt|apply Y1|apply Yn
  exact ⟨_, rfl, rfl, le_way (ys := []) (by rw [h00, if_neg (Bool.eq_false_iff.1 c5), if_pos c7]) le_nilI⟩
 apply Yk
 apply Yw
 apply Y4
 iterate 2 refine Yp rfl ?_
 apply Yn
 refine WR.succ ?_
 apply Y1
 refine Yp rfl ?_
 apply Yn
 apply Ys
 refine W.condF rfl rfl ?_
 apply Yq
 apply Ye
 apply Ye
 apply Yx
 apply Y3
 refine S.makeMap rfl ?_
 refine Yp rfl ?_
 refine S.insertF tOk (a0 := v) (fD := fun z : Bool => DV.one (.bool z)) true ([] : Seen) rfl rfl keyV rfl rfl rfl rfl (show _ = [seenD [(v, true)]] from rfl) ?_
 iterate 7 first|refine Yp rfl ?_|apply Y1|apply Ys|apply Yn
 refine S.sliceOwn tOk rfl rfl rfl rfl rfl rfl ?_
 refine Yp rfl ?_
 apply Yn
 apply Yb
 refine W.loop (fun k st => ∃ n : Nat, ∃ sn : Seen, ∃ q : List Stp, ∃ xs : List (List D), ∃ o : Nat, ∃ vr : Nat, FuelOk l v n sn q ∧ bfs l w n sn q = bfs l w (l.length + 1) [(v, true)] [(v, [])] ∧ (q ≠ [] → xs.drop o = q.map stopD ∧ o + q.length = xs.length) ∧ StB sn q ∧ n ≤ l.length + 1 ∧ k = n ∧ ∃ t b2 r2 m2, st = ⟨t, [[.d (.int .i64 v.a), .d (.int .i64 v.b), .d (.int .i64 v.c), .d (.str v.e)], [.d (.int .i64 w.a), .d (.int .i64 w.b), .d (.int .i64 w.c), .d (.str w.e)]] ++ b2, [some ⟨true, vr, 5, 144, xs⟩] ++ r2, [seenD sn] ++ m2⟩ ∧ holdsL t [(0, .one (.d (.vec 6 (l.map mvD)))), (4, .one (.ptr 0 0)), (5, .one (.ptr 1 0)), (14, .one (.map 0)), (15, stopsV q o vr)]) (l.length + 1) ⟨l.length + 1, [(v, true)], [(v, [])], [[.int .i64 v.a, .int .i64 v.b, .int .i64 v.c, .str v.e, .nilsl]], 0, 0, FuelOk.start l v, rfl, fun _ => ⟨start_row v, rfl⟩, fun s hs => by simp at hs; subst hs; exact ⟨hv, Nat.zero_lt_one⟩, Nat.le_refl _, rfl, _, _, _, _, rfl, rfl, rfl, rfl, rfl, (by rfl), trivial⟩ ?_
 rintro k4 _ ⟨n, sn, q, xs, o, vr, f4_0, f4_1, f4_2, f4_3, f4_4, rfl, t4, bb4, rr4, mm4, rfl, hh4⟩
 rcases q with _ | ⟨a, q⟩
 ·skip
  replace hh4 : holdsL t4 [(0, .one (.d (.vec 6 (l.map mvD)))), (4, .one (.ptr 0 0)), (5, .one (.ptr 1 0)), (14, .one (.map 0)), (15, .one (.d (.vec 5 [])))] := hh4
  refine W.keepR _ _ _ _ _ _ _ hh4 rfl ?_
  apply Ys
  apply Y1
  iterate 3 refine Yp rfl ?_
  apply Yn
  refine W.cond rfl (fun c9 => absurd c9 (by simp)) (fun c9 => ?_)
  iterate 9 first|refine Yp rfl ?_|apply Ye|apply Yt|apply Yx|apply Yq|apply Y3|apply Yn
  exact ⟨_, rfl, rfl, le_way (ys := []) (by rw [h00, if_neg (Bool.eq_false_iff.1 c5), if_neg (Bool.eq_false_iff.1 c7), ← f4_1]; cases k4 <;> simp [bfs]) le_nilI⟩
 obtain ⟨ql, hql⟩ : ∃ k, k = q.length + 1 := ⟨_, rfl⟩
 replace hh4 : holdsL t4 [(0, .one (.d (.vec 6 (l.map mvD)))), (4, .one (.ptr 0 0)), (5, .one (.ptr 1 0)), (14, .one (.map 0)), (15, .one (.row 0 vr o ql))] := by rw [hql]; exact hh4
 obtain ⟨hx1, hx2⟩ := f4_2 (by simp)
 obtain ⟨hae, hal0⟩ := f4_3 a (by simp)
 have hfp := f4_0.pos
 obtain ⟨n, rfl⟩ : ∃ k, k4 = k + 1 := ⟨k4 - 1, by simp at hfp; omega⟩
 have hsl := f4_0.ok.len
 refine W.keepR _ _ _ _ _ _ _ hh4 rfl ?_
 refine W.reVerM (l := [(0, .one (.d (.vec 6 (l.map mvD)))), (4, .one (.ptr 0 0)), (5, .one (.ptr 1 0)), (14, .one (.map 0)), (15, .one (.row 0 0 o ql))]) (b := [[.d (.int .i64 v.a), .d (.int .i64 v.b), .d (.int .i64 v.c), .d (.str v.e)], [.d (.int .i64 w.a), .d (.int .i64 w.b), .d (.int .i64 w.c), .d (.str w.e)]]) 0 rfl rfl rfl rfl rfl ?_
 apply Ys
 apply Y1
 iterate 3 refine Yp rfl ?_
 apply Yn
 refine W.cond rfl (fun c9=>?_) fun c9=>?_
 ·skip
  apply Yk
  apply Yn
  apply Ys
  apply Yb
  apply Y1
  refine Yp rfl ?_
  refine YP rfl (idx_ok (i := (0 : Int)) (n := (ql : Int)) (by decide) (by omega)) rfl ?_
  refine S.rload tOk rfl rfl rfl (row_head hx1) rfl rfl ?_
  iterate 8 first|refine Yp rfl ?_|refine S.store tOk rfl rfl rfl rfl rfl rfl rfl rfl ?_|refine S.alloc tOk rfl rfl rfl rfl ?_|apply Y1|apply Ys|apply Yn
  refine S.call rfl rfl rfl rfl rfl (pc_ver_Order a.1 w hae hw) ?_
  refine Yp rfl ?_
  apply Yn
  refine W.cond rfl (fun c10=>?_) fun c10=>?_
  ·skip
   iterate 13 first|apply Yu|refine Yp rfl ?_|apply Yv|apply Yt|apply Y1|apply Yn
   exact ⟨_, rfl, rfl, le_way (ys := a.2) (by rw [h00, if_neg (Bool.eq_false_iff.1 c5), if_neg (Bool.eq_false_iff.1 c7), ← f4_1]; exact bfs_hit c10) (le_list a.2)⟩
  iterate 7 first|refine Yp rfl ?_|apply Yb|apply Yk|apply Y3|apply Yn
  refine W.loop (fun k st => ∃ i : Nat, ∃ sn2 : Seen, ∃ q2 : List Stp, ∃ xs2 : List (List D), ∃ o2 : Nat, ∃ vr2 : Nat, i ≤ l.length ∧ scanW l a (sn, a :: q) i = (sn2, q2) ∧ xs2.drop o2 = q2.map stopD ∧ o2 + q2.length = xs2.length ∧ StB sn2 q2 ∧ k = l.length - i ∧ ∃ t b2 r2 m2, st = ⟨t, [[.d (.int .i64 v.a), .d (.int .i64 v.b), .d (.int .i64 v.c), .d (.str v.e)], [.d (.int .i64 w.a), .d (.int .i64 w.b), .d (.int .i64 w.c), .d (.str w.e)], [.d (.int .i64 a.1.a), .d (.int .i64 a.1.b), .d (.int .i64 a.1.c), .d (.str a.1.e), .d (listD a.2)]] ++ b2, [some ⟨true, vr2, 5, 144, xs2⟩] ++ r2, [seenD sn2] ++ m2⟩ ∧ holdsL t [(0, .one (.d (.vec 6 (l.map mvD)))), (4, .one (.ptr 0 0)), (5, .one (.ptr 1 0)), (14, .one (.map 0)), (15, .one (.row 0 vr2 o2 q2.length)), (16, .one (.ptr 2 0)), (69, .one (.d (.vec 6 (l.map mvD)))), (70, .one (.d (.int .i64 ((l.map mvD).length : Int)))), (71, .one (.d (.int .i64 (i : Int))))]) (l.length) ⟨0, sn, a :: q, xs, o, 0, Nat.zero_le _, scan_0 _ _ _, hx1, hx2, f4_3, rfl, _, _, _, _, rfl, rfl, rfl, rfl, rfl, (congrArg (fun z => V.one (.row 0 0 o z)) hql), rfl, rfl, rfl, rfl, trivial⟩ ?_
  rintro k6 _ ⟨i, sn2, q2, xs2, o2, vr2, f6_0, f6_1, f6_2, f6_3, f6_4, rfl, t6, bb6, rr6, mm6, rfl, hh6⟩
  refine W.keepR _ _ _ _ _ _ _ hh6 rfl ?_
  refine W.reVerM (l := [(0, .one (.d (.vec 6 (l.map mvD)))), (4, .one (.ptr 0 0)), (5, .one (.ptr 1 0)), (14, .one (.map 0)), (15, .one (.row 0 0 o2 q2.length)), (16, .one (.ptr 2 0)), (69, .one (.d (.vec 6 (l.map mvD)))), (70, .one (.d (.int .i64 ((l.map mvD).length : Int)))), (71, .one (.d (.int .i64 (i : Int))))]) (b := [[.d (.int .i64 v.a), .d (.int .i64 v.b), .d (.int .i64 v.c), .d (.str v.e)], [.d (.int .i64 w.a), .d (.int .i64 w.b), .d (.int .i64 w.c), .d (.str w.e)], [.d (.int .i64 a.1.a), .d (.int .i64 a.1.b), .d (.int .i64 a.1.c), .d (.str a.1.e), .d (listD a.2)]]) 0 rfl rfl rfl rfl rfl ?_
  apply Y1
  refine Yp rfl ?_
  apply Yn
  apply Ys
  refine W.cond rfl (fun c11=>?_) fun c11=>?_
  ·skip
   have hi := row_lt c11
   have hmb := hb _ (mem_getD (d := Mv.z) hi)
   have hsc := SeenOk.scan (sq := (sn, a :: q)) f4_0.ok a f6_0
   rw [f6_1] at hsc
   have hso : SeenOk l v sn2 := hsc.1
   have hsn := hsc.2
   have hmo := scan_more l a (sn, a :: q) i
   rw [f6_1] at hmo
   simp only [List.length_cons] at hsn hmo hfp
   have hs2 := hso.len
   have hal2 : a.2.length < sn2.length := by omega
   have hal : a.2.length ≤ 1000000000 := by omega
   apply Yk
   apply Yn
   apply Ys
   apply Yb
   apply Y1
   refine Yp rfl ?_
   refine YE rfl (row_ok hi) (row_at Mv.z hi) rfl ?_
   iterate 9 first|refine Yp rfl ?_|refine S.store tOk rfl rfl rfl rfl rfl rfl rfl rfl ?_|refine S.alloc tOk rfl rfl rfl rfl ?_|apply Y3
   refine S.call rfl rfl rfl rfl rfl (pc_ver_Has (l.getD i Mv.z).f hmb.f hmb.sp a.1 hae) ?_
   iterate 11 first|refine Yp rfl ?_|refine Yg rfl rfl tg ?_|apply Y3
   refine S.lookupFG tOk (a0 := (l.getD i Mv.z).t) (fD := fun z : Bool => DV.one (.bool z)) false sn2 rfl rfl rfl keyV rfl rfl rfl tg rfl rfl rfl (show mapV false _ _ = _ from rfl) ?_
   refine Yg rfl rfl tg ?_
   refine S.pickAnd tOk zOk rfl rfl tg ?_
   apply Yn
   refine W.cond rfl (fun c12=>?_) fun c12=>?_
   ·skip
    apply Y1
    iterate 3 refine Yp rfl ?_
    refine S.mapUpdateF tOk (a0 := (l.getD i Mv.z).t) (fD := fun z : Bool => DV.one (.bool z)) true sn2 rfl rfl keyV rfl rfl rfl rfl (show _ = [seenD (setL beqV sn2 (l.getD i Mv.z).t true)] from rfl) ?_
    apply Yn
    refine W.regionS 11 mixed rfl (by kernel_rfl) ?_
    refine AnyZ.eager 0 rfl (by kernel_rfl) (Eag.pure tOk zOk rfl (fun _ _ _ => rfl) rfl rfl) ?_
    refine AnyZ.eager 1 rfl (by kernel_rfl) (Eag.pure tOk zOk rfl (fun _ _ _ => rfl) rfl rfl) ?_
    refine AnyZ.eager 3 rfl (by kernel_rfl) (Eag.pure tOk zOk rfl (fun _ _ _ => rfl) rfl rfl) ?_
    refine AnyZ.eager 6 rfl (by kernel_rfl) (Eag.pure tOk zOk rfl (fun _ _ _ => rfl) rfl rfl) ?_
    refine AnyZ.three 2 4 7 (by kernel_rfl) rfl rfl rfl ?_ ?_ ?_
    ·skip
     refine OpZ.d ?_
     refine Ym rfl rfl ?_
     refine WD.nil ?_
     refine AnyZ.two 4 7 (by kernel_rfl) rfl rfl ?_ ?_
     ·skip
      refine OpZ.d ?_
      refine Ym rfl rfl ?_
      refine WD.nil ?_
      refine AnyZ.two 5 7 (by kernel_rfl) rfl rfl ?_ ?_
      ·skip
       refine OpZ.hcall rfl rfl rfl rfl ((pc_Clone a.2 hal).fd [] [] [] rfl) ?_
       refine AnyZ.one 7 (by kernel_rfl) rfl ?_
       refine OpZ.d ?_
       refine D.slice tOk rfl rfl ?_
       refine WD.nil ?_
       refine AnyZ.one 8 (by kernel_rfl) rfl ?_
       refine OpZ.appendV tOk rfl rfl rfl rfl rfl rfl rfl rfl rfl rfl rfl rfl (by show (intsD a.2).length + 1 ≤ _; rw [ints_len]; omega) (ints_snoc a.2 i) rfl ?_
       refine AnyZ.eager 9 rfl (by kernel_rfl) (Eag.pure tOk zOk rfl (fun _ _ _ => rfl) rfl rfl) ?_
       refine AnyZ.one 10 (by kernel_rfl) rfl ?_
       refine OpZ.d ?_
       refine D.slice tOk rfl rfl ?_
       refine WD.nil ?_
       refine AnyZ.nil (by kernel_rfl) ?_
       refine S.appendO tOk rfl rfl rfl rfl rfl rfl rfl rfl rfl f6_3 rfl rfl (by show q2.length + 1 ≤ _; omega) (fun xs3 o3 hl3 hd3 => ?_)
       iterate 5 first|refine Yp rfl ?_|apply Yw|apply Y4
       refine loop_n (l.length - (i + 1)) (by omega) ⟨i + 1, setL beqV sn2 (l.getD i Mv.z).t true, q2 ++ [((l.getD i Mv.z).t, a.2 ++ [i])], xs3, o3, _, hi, scan_hit f6_1 c12, stop_snoc f6_2 hd3 (stop_x (l.getD i Mv.z) a i), (by have h : o3 + (q2.length + 1) = xs3.length := hl3; rw [List.length_append]; exact h), f6_4.more hmb.e hal2 (andn c12) hso.tr, rfl, _, _, _, _, rfl, rfl, rfl, rfl, rfl, row_snoc, rfl, rfl, rfl, inc_i64 (by omega), trivial⟩
      refine OpZ.d ?_
      refine D.slice tOk rfl rfl ?_
      refine WD.nil ?_
      refine AnyZ.one 5 (by kernel_rfl) rfl ?_
      refine OpZ.hcall rfl rfl rfl rfl ((pc_Clone a.2 hal).fd [] [] [] rfl) ?_
      refine AnyZ.one 8 (by kernel_rfl) rfl ?_
      refine OpZ.appendV tOk rfl rfl rfl rfl rfl rfl rfl rfl rfl rfl rfl rfl (by show (intsD a.2).length + 1 ≤ _; rw [ints_len]; omega) (ints_snoc a.2 i) rfl ?_
      refine AnyZ.eager 9 rfl (by kernel_rfl) (Eag.pure tOk zOk rfl (fun _ _ _ => rfl) rfl rfl) ?_
      refine AnyZ.one 10 (by kernel_rfl) rfl ?_
      refine OpZ.d ?_
      refine D.slice tOk rfl rfl ?_
      refine WD.nil ?_
      refine AnyZ.nil (by kernel_rfl) ?_
      refine S.appendO tOk rfl rfl rfl rfl rfl rfl rfl rfl rfl f6_3 rfl rfl (by show q2.length + 1 ≤ _; omega) (fun xs3 o3 hl3 hd3 => ?_)
      iterate 5 first|refine Yp rfl ?_|apply Yw|apply Y4
      refine loop_n (l.length - (i + 1)) (by omega) ⟨i + 1, setL beqV sn2 (l.getD i Mv.z).t true, q2 ++ [((l.getD i Mv.z).t, a.2 ++ [i])], xs3, o3, _, hi, scan_hit f6_1 c12, stop_snoc f6_2 hd3 (stop_x (l.getD i Mv.z) a i), (by have h : o3 + (q2.length + 1) = xs3.length := hl3; rw [List.length_append]; exact h), f6_4.more hmb.e hal2 (andn c12) hso.tr, rfl, _, _, _, _, rfl, rfl, rfl, rfl, rfl, row_snoc, rfl, rfl, rfl, inc_i64 (by omega), trivial⟩
     refine OpZ.d ?_
     refine D.slice tOk rfl rfl ?_
     refine WD.nil ?_
     refine AnyZ.one 4 (by kernel_rfl) rfl ?_
     refine OpZ.d ?_
     refine Ym rfl rfl ?_
     refine WD.nil ?_
     refine AnyZ.one 5 (by kernel_rfl) rfl ?_
     refine OpZ.hcall rfl rfl rfl rfl ((pc_Clone a.2 hal).fd [] [] [] rfl) ?_
     refine AnyZ.one 8 (by kernel_rfl) rfl ?_
     refine OpZ.appendV tOk rfl rfl rfl rfl rfl rfl rfl rfl rfl rfl rfl rfl (by show (intsD a.2).length + 1 ≤ _; rw [ints_len]; omega) (ints_snoc a.2 i) rfl ?_
     refine AnyZ.eager 9 rfl (by kernel_rfl) (Eag.pure tOk zOk rfl (fun _ _ _ => rfl) rfl rfl) ?_
     refine AnyZ.one 10 (by kernel_rfl) rfl ?_
     refine OpZ.d ?_
     refine D.slice tOk rfl rfl ?_
     refine WD.nil ?_
     refine AnyZ.nil (by kernel_rfl) ?_
     refine S.appendO tOk rfl rfl rfl rfl rfl rfl rfl rfl rfl f6_3 rfl rfl (by show q2.length + 1 ≤ _; omega) (fun xs3 o3 hl3 hd3 => ?_)
     iterate 5 first|refine Yp rfl ?_|apply Yw|apply Y4
     refine loop_n (l.length - (i + 1)) (by omega) ⟨i + 1, setL beqV sn2 (l.getD i Mv.z).t true, q2 ++ [((l.getD i Mv.z).t, a.2 ++ [i])], xs3, o3, _, hi, scan_hit f6_1 c12, stop_snoc f6_2 hd3 (stop_x (l.getD i Mv.z) a i), (by have h : o3 + (q2.length + 1) = xs3.length := hl3; rw [List.length_append]; exact h), f6_4.more hmb.e hal2 (andn c12) hso.tr, rfl, _, _, _, _, rfl, rfl, rfl, rfl, rfl, row_snoc, rfl, rfl, rfl, inc_i64 (by omega), trivial⟩
    ·skip
     refine OpZ.d ?_
     refine Ym rfl rfl ?_
     refine WD.nil ?_
     refine AnyZ.three 2 5 7 (by kernel_rfl) rfl rfl rfl ?_ ?_ ?_
     ·skip
      refine OpZ.d ?_
      refine Ym rfl rfl ?_
      refine WD.nil ?_
      refine AnyZ.two 5 7 (by kernel_rfl) rfl rfl ?_ ?_
      ·skip
       refine OpZ.hcall rfl rfl rfl rfl ((pc_Clone a.2 hal).fd [] [] [] rfl) ?_
       refine AnyZ.one 7 (by kernel_rfl) rfl ?_
       refine OpZ.d ?_
       refine D.slice tOk rfl rfl ?_
       refine WD.nil ?_
       refine AnyZ.one 8 (by kernel_rfl) rfl ?_
       refine OpZ.appendV tOk rfl rfl rfl rfl rfl rfl rfl rfl rfl rfl rfl rfl (by show (intsD a.2).length + 1 ≤ _; rw [ints_len]; omega) (ints_snoc a.2 i) rfl ?_
       refine AnyZ.eager 9 rfl (by kernel_rfl) (Eag.pure tOk zOk rfl (fun _ _ _ => rfl) rfl rfl) ?_
       refine AnyZ.one 10 (by kernel_rfl) rfl ?_
       refine OpZ.d ?_
       refine D.slice tOk rfl rfl ?_
       refine WD.nil ?_
       refine AnyZ.nil (by kernel_rfl) ?_
       refine S.appendO tOk rfl rfl rfl rfl rfl rfl rfl rfl rfl f6_3 rfl rfl (by show q2.length + 1 ≤ _; omega) (fun xs3 o3 hl3 hd3 => ?_)
       iterate 5 first|refine Yp rfl ?_|apply Yw|apply Y4
       refine loop_n (l.length - (i + 1)) (by omega) ⟨i + 1, setL beqV sn2 (l.getD i Mv.z).t true, q2 ++ [((l.getD i Mv.z).t, a.2 ++ [i])], xs3, o3, _, hi, scan_hit f6_1 c12, stop_snoc f6_2 hd3 (stop_x (l.getD i Mv.z) a i), (by have h : o3 + (q2.length + 1) = xs3.length := hl3; rw [List.length_append]; exact h), f6_4.more hmb.e hal2 (andn c12) hso.tr, rfl, _, _, _, _, rfl, rfl, rfl, rfl, rfl, row_snoc, rfl, rfl, rfl, inc_i64 (by omega), trivial⟩
      refine OpZ.d ?_
      refine D.slice tOk rfl rfl ?_
      refine WD.nil ?_
      refine AnyZ.one 5 (by kernel_rfl) rfl ?_
      refine OpZ.hcall rfl rfl rfl rfl ((pc_Clone a.2 hal).fd [] [] [] rfl) ?_
      refine AnyZ.one 8 (by kernel_rfl) rfl ?_
      refine OpZ.appendV tOk rfl rfl rfl rfl rfl rfl rfl rfl rfl rfl rfl rfl (by show (intsD a.2).length + 1 ≤ _; rw [ints_len]; omega) (ints_snoc a.2 i) rfl ?_
      refine AnyZ.eager 9 rfl (by kernel_rfl) (Eag.pure tOk zOk rfl (fun _ _ _ => rfl) rfl rfl) ?_
      refine AnyZ.one 10 (by kernel_rfl) rfl ?_
      refine OpZ.d ?_
      refine D.slice tOk rfl rfl ?_
      refine WD.nil ?_
      refine AnyZ.nil (by kernel_rfl) ?_
      refine S.appendO tOk rfl rfl rfl rfl rfl rfl rfl rfl rfl f6_3 rfl rfl (by show q2.length + 1 ≤ _; omega) (fun xs3 o3 hl3 hd3 => ?_)
      iterate 5 first|refine Yp rfl ?_|apply Yw|apply Y4
      refine loop_n (l.length - (i + 1)) (by omega) ⟨i + 1, setL beqV sn2 (l.getD i Mv.z).t true, q2 ++ [((l.getD i Mv.z).t, a.2 ++ [i])], xs3, o3, _, hi, scan_hit f6_1 c12, stop_snoc f6_2 hd3 (stop_x (l.getD i Mv.z) a i), (by have h : o3 + (q2.length + 1) = xs3.length := hl3; rw [List.length_append]; exact h), f6_4.more hmb.e hal2 (andn c12) hso.tr, rfl, _, _, _, _, rfl, rfl, rfl, rfl, rfl, row_snoc, rfl, rfl, rfl, inc_i64 (by omega), trivial⟩
     ·skip
      refine OpZ.hcall rfl rfl rfl rfl ((pc_Clone a.2 hal).fd [] [] [] rfl) ?_
      refine AnyZ.two 2 7 (by kernel_rfl) rfl rfl ?_ ?_
      ·skip
       refine OpZ.d ?_
       refine Ym rfl rfl ?_
       refine WD.nil ?_
       refine AnyZ.one 7 (by kernel_rfl) rfl ?_
       refine OpZ.d ?_
       refine D.slice tOk rfl rfl ?_
       refine WD.nil ?_
       refine AnyZ.one 8 (by kernel_rfl) rfl ?_
       refine OpZ.appendV tOk rfl rfl rfl rfl rfl rfl rfl rfl rfl rfl rfl rfl (by show (intsD a.2).length + 1 ≤ _; rw [ints_len]; omega) (ints_snoc a.2 i) rfl ?_
       refine AnyZ.eager 9 rfl (by kernel_rfl) (Eag.pure tOk zOk rfl (fun _ _ _ => rfl) rfl rfl) ?_
       refine AnyZ.one 10 (by kernel_rfl) rfl ?_
       refine OpZ.d ?_
       refine D.slice tOk rfl rfl ?_
       refine WD.nil ?_
       refine AnyZ.nil (by kernel_rfl) ?_
       refine S.appendO tOk rfl rfl rfl rfl rfl rfl rfl rfl rfl f6_3 rfl rfl (by show q2.length + 1 ≤ _; omega) (fun xs3 o3 hl3 hd3 => ?_)
       iterate 5 first|refine Yp rfl ?_|apply Yw|apply Y4
       refine loop_n (l.length - (i + 1)) (by omega) ⟨i + 1, setL beqV sn2 (l.getD i Mv.z).t true, q2 ++ [((l.getD i Mv.z).t, a.2 ++ [i])], xs3, o3, _, hi, scan_hit f6_1 c12, stop_snoc f6_2 hd3 (stop_x (l.getD i Mv.z) a i), (by have h : o3 + (q2.length + 1) = xs3.length := hl3; rw [List.length_append]; exact h), f6_4.more hmb.e hal2 (andn c12) hso.tr, rfl, _, _, _, _, rfl, rfl, rfl, rfl, rfl, row_snoc, rfl, rfl, rfl, inc_i64 (by omega), trivial⟩
      refine OpZ.d ?_
      refine D.slice tOk rfl rfl ?_
      refine WD.nil ?_
      refine AnyZ.two 2 8 (by kernel_rfl) rfl rfl ?_ ?_
      ·skip
       refine OpZ.d ?_
       refine Ym rfl rfl ?_
       refine WD.nil ?_
       refine AnyZ.one 8 (by kernel_rfl) rfl ?_
       refine OpZ.appendV tOk rfl rfl rfl rfl rfl rfl rfl rfl rfl rfl rfl rfl (by show (intsD a.2).length + 1 ≤ _; rw [ints_len]; omega) (ints_snoc a.2 i) rfl ?_
       refine AnyZ.eager 9 rfl (by kernel_rfl) (Eag.pure tOk zOk rfl (fun _ _ _ => rfl) rfl rfl) ?_
       refine AnyZ.one 10 (by kernel_rfl) rfl ?_
       refine OpZ.d ?_
       refine D.slice tOk rfl rfl ?_
       refine WD.nil ?_
       refine AnyZ.nil (by kernel_rfl) ?_
       refine S.appendO tOk rfl rfl rfl rfl rfl rfl rfl rfl rfl f6_3 rfl rfl (by show q2.length + 1 ≤ _; omega) (fun xs3 o3 hl3 hd3 => ?_)
       iterate 5 first|refine Yp rfl ?_|apply Yw|apply Y4
       refine loop_n (l.length - (i + 1)) (by omega) ⟨i + 1, setL beqV sn2 (l.getD i Mv.z).t true, q2 ++ [((l.getD i Mv.z).t, a.2 ++ [i])], xs3, o3, _, hi, scan_hit f6_1 c12, stop_snoc f6_2 hd3 (stop_x (l.getD i Mv.z) a i), (by have h : o3 + (q2.length + 1) = xs3.length := hl3; rw [List.length_append]; exact h), f6_4.more hmb.e hal2 (andn c12) hso.tr, rfl, _, _, _, _, rfl, rfl, rfl, rfl, rfl, row_snoc, rfl, rfl, rfl, inc_i64 (by omega), trivial⟩
      refine OpZ.appendV tOk rfl rfl rfl rfl rfl rfl rfl rfl rfl rfl rfl rfl (by show (intsD a.2).length + 1 ≤ _; rw [ints_len]; omega) (ints_snoc a.2 i) rfl ?_
      refine AnyZ.one 2 (by kernel_rfl) rfl ?_
      refine OpZ.d ?_
      refine Ym rfl rfl ?_
      refine WD.nil ?_
      refine AnyZ.eager 9 rfl (by kernel_rfl) (Eag.pure tOk zOk rfl (fun _ _ _ => rfl) rfl rfl) ?_
      refine AnyZ.one 10 (by kernel_rfl) rfl ?_
      refine OpZ.d ?_
      refine D.slice tOk rfl rfl ?_
      refine WD.nil ?_
      refine AnyZ.nil (by kernel_rfl) ?_
      refine S.appendO tOk rfl rfl rfl rfl rfl rfl rfl rfl rfl f6_3 rfl rfl (by show q2.length + 1 ≤ _; omega) (fun xs3 o3 hl3 hd3 => ?_)
      iterate 5 first|refine Yp rfl ?_|apply Yw|apply Y4
      refine loop_n (l.length - (i + 1)) (by omega) ⟨i + 1, setL beqV sn2 (l.getD i Mv.z).t true, q2 ++ [((l.getD i Mv.z).t, a.2 ++ [i])], xs3, o3, _, hi, scan_hit f6_1 c12, stop_snoc f6_2 hd3 (stop_x (l.getD i Mv.z) a i), (by have h : o3 + (q2.length + 1) = xs3.length := hl3; rw [List.length_append]; exact h), f6_4.more hmb.e hal2 (andn c12) hso.tr, rfl, _, _, _, _, rfl, rfl, rfl, rfl, rfl, row_snoc, rfl, rfl, rfl, inc_i64 (by omega), trivial⟩
     refine OpZ.d ?_
     refine D.slice tOk rfl rfl ?_
     refine WD.nil ?_
     refine AnyZ.two 2 5 (by kernel_rfl) rfl rfl ?_ ?_
     ·skip
      refine OpZ.d ?_
      refine Ym rfl rfl ?_
      refine WD.nil ?_
      refine AnyZ.one 5 (by kernel_rfl) rfl ?_
      refine OpZ.hcall rfl rfl rfl rfl ((pc_Clone a.2 hal).fd [] [] [] rfl) ?_
      refine AnyZ.one 8 (by kernel_rfl) rfl ?_
      refine OpZ.appendV tOk rfl rfl rfl rfl rfl rfl rfl rfl rfl rfl rfl rfl (by show (intsD a.2).length + 1 ≤ _; rw [ints_len]; omega) (ints_snoc a.2 i) rfl ?_
      refine AnyZ.eager 9 rfl (by kernel_rfl) (Eag.pure tOk zOk rfl (fun _ _ _ => rfl) rfl rfl) ?_
      refine AnyZ.one 10 (by kernel_rfl) rfl ?_
      refine OpZ.d ?_
      refine D.slice tOk rfl rfl ?_
      refine WD.nil ?_
      refine AnyZ.nil (by kernel_rfl) ?_
      refine S.appendO tOk rfl rfl rfl rfl rfl rfl rfl rfl rfl f6_3 rfl rfl (by show q2.length + 1 ≤ _; omega) (fun xs3 o3 hl3 hd3 => ?_)
      iterate 5 first|refine Yp rfl ?_|apply Yw|apply Y4
      refine loop_n (l.length - (i + 1)) (by omega) ⟨i + 1, setL beqV sn2 (l.getD i Mv.z).t true, q2 ++ [((l.getD i Mv.z).t, a.2 ++ [i])], xs3, o3, _, hi, scan_hit f6_1 c12, stop_snoc f6_2 hd3 (stop_x (l.getD i Mv.z) a i), (by have h : o3 + (q2.length + 1) = xs3.length := hl3; rw [List.length_append]; exact h), f6_4.more hmb.e hal2 (andn c12) hso.tr, rfl, _, _, _, _, rfl, rfl, rfl, rfl, rfl, row_snoc, rfl, rfl, rfl, inc_i64 (by omega), trivial⟩
     refine OpZ.hcall rfl rfl rfl rfl ((pc_Clone a.2 hal).fd [] [] [] rfl) ?_
     refine AnyZ.two 2 8 (by kernel_rfl) rfl rfl ?_ ?_
     ·skip
      refine OpZ.d ?_
      refine Ym rfl rfl ?_
      refine WD.nil ?_
      refine AnyZ.one 8 (by kernel_rfl) rfl ?_
      refine OpZ.appendV tOk rfl rfl rfl rfl rfl rfl rfl rfl rfl rfl rfl rfl (by show (intsD a.2).length + 1 ≤ _; rw [ints_len]; omega) (ints_snoc a.2 i) rfl ?_
      refine AnyZ.eager 9 rfl (by kernel_rfl) (Eag.pure tOk zOk rfl (fun _ _ _ => rfl) rfl rfl) ?_
      refine AnyZ.one 10 (by kernel_rfl) rfl ?_
      refine OpZ.d ?_
      refine D.slice tOk rfl rfl ?_
      refine WD.nil ?_
      refine AnyZ.nil (by kernel_rfl) ?_
      refine S.appendO tOk rfl rfl rfl rfl rfl rfl rfl rfl rfl f6_3 rfl rfl (by show q2.length + 1 ≤ _; omega) (fun xs3 o3 hl3 hd3 => ?_)
      iterate 5 first|refine Yp rfl ?_|apply Yw|apply Y4
      refine loop_n (l.length - (i + 1)) (by omega) ⟨i + 1, setL beqV sn2 (l.getD i Mv.z).t true, q2 ++ [((l.getD i Mv.z).t, a.2 ++ [i])], xs3, o3, _, hi, scan_hit f6_1 c12, stop_snoc f6_2 hd3 (stop_x (l.getD i Mv.z) a i), (by have h : o3 + (q2.length + 1) = xs3.length := hl3; rw [List.length_append]; exact h), f6_4.more hmb.e hal2 (andn c12) hso.tr, rfl, _, _, _, _, rfl, rfl, rfl, rfl, rfl, row_snoc, rfl, rfl, rfl, inc_i64 (by omega), trivial⟩
     refine OpZ.appendV tOk rfl rfl rfl rfl rfl rfl rfl rfl rfl rfl rfl rfl (by show (intsD a.2).length + 1 ≤ _; rw [ints_len]; omega) (ints_snoc a.2 i) rfl ?_
     refine AnyZ.one 2 (by kernel_rfl) rfl ?_
     refine OpZ.d ?_
     refine Ym rfl rfl ?_
     refine WD.nil ?_
     refine AnyZ.eager 9 rfl (by kernel_rfl) (Eag.pure tOk zOk rfl (fun _ _ _ => rfl) rfl rfl) ?_
     refine AnyZ.one 10 (by kernel_rfl) rfl ?_
     refine OpZ.d ?_
     refine D.slice tOk rfl rfl ?_
     refine WD.nil ?_
     refine AnyZ.nil (by kernel_rfl) ?_
     refine S.appendO tOk rfl rfl rfl rfl rfl rfl rfl rfl rfl f6_3 rfl rfl (by show q2.length + 1 ≤ _; omega) (fun xs3 o3 hl3 hd3 => ?_)
     iterate 5 first|refine Yp rfl ?_|apply Yw|apply Y4
     refine loop_n (l.length - (i + 1)) (by omega) ⟨i + 1, setL beqV sn2 (l.getD i Mv.z).t true, q2 ++ [((l.getD i Mv.z).t, a.2 ++ [i])], xs3, o3, _, hi, scan_hit f6_1 c12, stop_snoc f6_2 hd3 (stop_x (l.getD i Mv.z) a i), (by have h : o3 + (q2.length + 1) = xs3.length := hl3; rw [List.length_append]; exact h), f6_4.more hmb.e hal2 (andn c12) hso.tr, rfl, _, _, _, _, rfl, rfl, rfl, rfl, rfl, row_snoc, rfl, rfl, rfl, inc_i64 (by omega), trivial⟩
    refine OpZ.d ?_
    refine D.slice tOk rfl rfl ?_
    refine WD.nil ?_
    refine AnyZ.two 2 4 (by kernel_rfl) rfl rfl ?_ ?_
    ·skip
     refine OpZ.d ?_
     refine Ym rfl rfl ?_
     refine WD.nil ?_
     refine AnyZ.one 4 (by kernel_rfl) rfl ?_
     refine OpZ.d ?_
     refine Ym rfl rfl ?_
     refine WD.nil ?_
     refine AnyZ.one 5 (by kernel_rfl) rfl ?_
     refine OpZ.hcall rfl rfl rfl rfl ((pc_Clone a.2 hal).fd [] [] [] rfl) ?_
     refine AnyZ.one 8 (by kernel_rfl) rfl ?_
     refine OpZ.appendV tOk rfl rfl rfl rfl rfl rfl rfl rfl rfl rfl rfl rfl (by show (intsD a.2).length + 1 ≤ _; rw [ints_len]; omega) (ints_snoc a.2 i) rfl ?_
     refine AnyZ.eager 9 rfl (by kernel_rfl) (Eag.pure tOk zOk rfl (fun _ _ _ => rfl) rfl rfl) ?_
     refine AnyZ.one 10 (by kernel_rfl) rfl ?_
     refine OpZ.d ?_
     refine D.slice tOk rfl rfl ?_
     refine WD.nil ?_
     refine AnyZ.nil (by kernel_rfl) ?_
     refine S.appendO tOk rfl rfl rfl rfl rfl rfl rfl rfl rfl f6_3 rfl rfl (by show q2.length + 1 ≤ _; omega) (fun xs3 o3 hl3 hd3 => ?_)
     iterate 5 first|refine Yp rfl ?_|apply Yw|apply Y4
     refine loop_n (l.length - (i + 1)) (by omega) ⟨i + 1, setL beqV sn2 (l.getD i Mv.z).t true, q2 ++ [((l.getD i Mv.z).t, a.2 ++ [i])], xs3, o3, _, hi, scan_hit f6_1 c12, stop_snoc f6_2 hd3 (stop_x (l.getD i Mv.z) a i), (by have h : o3 + (q2.length + 1) = xs3.length := hl3; rw [List.length_append]; exact h), f6_4.more hmb.e hal2 (andn c12) hso.tr, rfl, _, _, _, _, rfl, rfl, rfl, rfl, rfl, row_snoc, rfl, rfl, rfl, inc_i64 (by omega), trivial⟩
    refine OpZ.d ?_
    refine Ym rfl rfl ?_
    refine WD.nil ?_
    refine AnyZ.two 2 5 (by kernel_rfl) rfl rfl ?_ ?_
    ·skip
     refine OpZ.d ?_
     refine Ym rfl rfl ?_
     refine WD.nil ?_
     refine AnyZ.one 5 (by kernel_rfl) rfl ?_
     refine OpZ.hcall rfl rfl rfl rfl ((pc_Clone a.2 hal).fd [] [] [] rfl) ?_
     refine AnyZ.one 8 (by kernel_rfl) rfl ?_
     refine OpZ.appendV tOk rfl rfl rfl rfl rfl rfl rfl rfl rfl rfl rfl rfl (by show (intsD a.2).length + 1 ≤ _; rw [ints_len]; omega) (ints_snoc a.2 i) rfl ?_
     refine AnyZ.eager 9 rfl (by kernel_rfl) (Eag.pure tOk zOk rfl (fun _ _ _ => rfl) rfl rfl) ?_
     refine AnyZ.one 10 (by kernel_rfl) rfl ?_
     refine OpZ.d ?_
     refine D.slice tOk rfl rfl ?_
     refine WD.nil ?_
     refine AnyZ.nil (by kernel_rfl) ?_
     refine S.appendO tOk rfl rfl rfl rfl rfl rfl rfl rfl rfl f6_3 rfl rfl (by show q2.length + 1 ≤ _; omega) (fun xs3 o3 hl3 hd3 => ?_)
     iterate 5 first|refine Yp rfl ?_|apply Yw|apply Y4
     refine loop_n (l.length - (i + 1)) (by omega) ⟨i + 1, setL beqV sn2 (l.getD i Mv.z).t true, q2 ++ [((l.getD i Mv.z).t, a.2 ++ [i])], xs3, o3, _, hi, scan_hit f6_1 c12, stop_snoc f6_2 hd3 (stop_x (l.getD i Mv.z) a i), (by have h : o3 + (q2.length + 1) = xs3.length := hl3; rw [List.length_append]; exact h), f6_4.more hmb.e hal2 (andn c12) hso.tr, rfl, _, _, _, _, rfl, rfl, rfl, rfl, rfl, row_snoc, rfl, rfl, rfl, inc_i64 (by omega), trivial⟩
    refine OpZ.hcall rfl rfl rfl rfl ((pc_Clone a.2 hal).fd [] [] [] rfl) ?_
    refine AnyZ.two 2 8 (by kernel_rfl) rfl rfl ?_ ?_
    ·skip
     refine OpZ.d ?_
     refine Ym rfl rfl ?_
     refine WD.nil ?_
     refine AnyZ.one 8 (by kernel_rfl) rfl ?_
     refine OpZ.appendV tOk rfl rfl rfl rfl rfl rfl rfl rfl rfl rfl rfl rfl (by show (intsD a.2).length + 1 ≤ _; rw [ints_len]; omega) (ints_snoc a.2 i) rfl ?_
     refine AnyZ.eager 9 rfl (by kernel_rfl) (Eag.pure tOk zOk rfl (fun _ _ _ => rfl) rfl rfl) ?_
     refine AnyZ.one 10 (by kernel_rfl) rfl ?_
     refine OpZ.d ?_
     refine D.slice tOk rfl rfl ?_
     refine WD.nil ?_
     refine AnyZ.nil (by kernel_rfl) ?_
     refine S.appendO tOk rfl rfl rfl rfl rfl rfl rfl rfl rfl f6_3 rfl rfl (by show q2.length + 1 ≤ _; omega) (fun xs3 o3 hl3 hd3 => ?_)
     iterate 5 first|refine Yp rfl ?_|apply Yw|apply Y4
     refine loop_n (l.length - (i + 1)) (by omega) ⟨i + 1, setL beqV sn2 (l.getD i Mv.z).t true, q2 ++ [((l.getD i Mv.z).t, a.2 ++ [i])], xs3, o3, _, hi, scan_hit f6_1 c12, stop_snoc f6_2 hd3 (stop_x (l.getD i Mv.z) a i), (by have h : o3 + (q2.length + 1) = xs3.length := hl3; rw [List.length_append]; exact h), f6_4.more hmb.e hal2 (andn c12) hso.tr, rfl, _, _, _, _, rfl, rfl, rfl, rfl, rfl, row_snoc, rfl, rfl, rfl, inc_i64 (by omega), trivial⟩
    refine OpZ.appendV tOk rfl rfl rfl rfl rfl rfl rfl rfl rfl rfl rfl rfl (by show (intsD a.2).length + 1 ≤ _; rw [ints_len]; omega) (ints_snoc a.2 i) rfl ?_
    refine AnyZ.one 2 (by kernel_rfl) rfl ?_
    refine OpZ.d ?_
    refine Ym rfl rfl ?_
    refine WD.nil ?_
    refine AnyZ.eager 9 rfl (by kernel_rfl) (Eag.pure tOk zOk rfl (fun _ _ _ => rfl) rfl rfl) ?_
    refine AnyZ.one 10 (by kernel_rfl) rfl ?_
    refine OpZ.d ?_
    refine D.slice tOk rfl rfl ?_
    refine WD.nil ?_
    refine AnyZ.nil (by kernel_rfl) ?_
    refine S.appendO tOk rfl rfl rfl rfl rfl rfl rfl rfl rfl f6_3 rfl rfl (by show q2.length + 1 ≤ _; omega) (fun xs3 o3 hl3 hd3 => ?_)
    iterate 5 first|refine Yp rfl ?_|apply Yw|apply Y4
    refine loop_n (l.length - (i + 1)) (by omega) ⟨i + 1, setL beqV sn2 (l.getD i Mv.z).t true, q2 ++ [((l.getD i Mv.z).t, a.2 ++ [i])], xs3, o3, _, hi, scan_hit f6_1 c12, stop_snoc f6_2 hd3 (stop_x (l.getD i Mv.z) a i), (by have h : o3 + (q2.length + 1) = xs3.length := hl3; rw [List.length_append]; exact h), f6_4.more hmb.e hal2 (andn c12) hso.tr, rfl, _, _, _, _, rfl, rfl, rfl, rfl, rfl, row_snoc, rfl, rfl, rfl, inc_i64 (by omega), trivial⟩
   iterate 5 first|refine Yp rfl ?_|apply Yw|apply Yk|apply Y4
   refine loop_n (l.length - (i + 1)) (by omega) ⟨i + 1, sn2, q2, xs2, o2, _, hi, scan_miss f6_1 c12, f6_2, f6_3, f6_4, rfl, _, _, _, _, rfl, rfl, rfl, rfl, rfl, rfl, rfl, rfl, rfl, inc_i64 (by omega), trivial⟩
  have hi := row_ge c11
  obtain rfl : i = l.length := by omega
  have hmo := scan_more l a (sn, a :: q) l.length
  rw [f6_1] at hmo
  rcases q2 with _ | ⟨x, q3⟩
  ·skip
   simp at hmo
  iterate 7 first|apply Ye|refine Yp rfl ?_|apply Yw|apply Yx|apply Yq|apply Y4
  rcases q3 with _ | ⟨y, q4⟩
  ·skip
   refine S.sliceRowE tOk 5 rfl rfl rfl rfl rfl rfl rfl rfl rfl (Nat.succ_pos _) ?_
   refine Yp rfl ?_
   refine loop_n (n) (by omega) ⟨n, sn2, [], xs2, o2 + 1, 0, (by have h := f4_0.next a (by simp); rw [f6_1] at h; exact h), (by rw [← f4_1, bfs_next c10, f6_1]; rfl), (fun _ => ⟨drop_next f6_2, by have := f6_3; simp at this ⊢; omega⟩), (fun s hs => f6_4 s (List.mem_cons_of_mem _ hs)), (by omega), rfl, _, _, _, _, rfl, rfl, rfl, rfl, rfl, rfl, trivial⟩
  refine S.sliceRow tOk 1 (q4.length + 1 + 1) rfl rfl rfl rfl rfl rfl rfl rfl rfl rfl ⟨by omega, Nat.le_refl _, (by show 1 < q4.length + 1 + 1; omega)⟩ rfl (show _ = q4.length + 1 from rfl) ?_
  refine Yp rfl ?_
  refine loop_n (n) (by omega) ⟨n, sn2, y :: q4, xs2, o2 + 1, 0, (by have h := f4_0.next a (by simp); rw [f6_1] at h; exact h), (by rw [← f4_1, bfs_next c10, f6_1]; rfl), (fun _ => ⟨drop_next f6_2, by have := f6_3; simp at this ⊢; omega⟩), (fun s hs => f6_4 s (List.mem_cons_of_mem _ hs)), (by omega), rfl, _, _, _, _, rfl, rfl, rfl, rfl, rfl, rfl, trivial⟩
 exact absurd (show ((ql : Int) > 0) by omega) (of_decide_eq_false c9)
end
section
open Go
def spec (c : UInt8) : Bool := c == 92 || c == 34
def esc1 (c : UInt8) : L8 := if spec c then [92, c] else [c]
def escB (s : L8) : L8 := s.flatMap esc1
theorem esc_nil : escB [] = [] := rfl
theorem esc_cons (c : UInt8) (s : L8) : escB (c :: s) = esc1 c ++ escB s := by simp [escB]
theorem esc1_len (c : UInt8) : (esc1 c).length = if spec c then 2 else 1 := by unfold esc1; split <;> rfl
theorem esc_le (s : L8) : s.length ≤ (escB s).length ∧ (escB s).length ≤ 2 * s.length := by
 induction s with
 | nil => exact ⟨Nat.le_refl _, Nat.le_refl _⟩
 | cons c s ih =>
  rw [esc_cons, List.length_append, esc1_len, List.length_cons]
  split <;> omega
def quoB (s : List UInt8) : List UInt8 := [34] ++ escB s ++ [34]
theorem quoB_le {s : L8} {N : Nat} (h : s.length ≤ N) : (quoB s).length ≤ 2 * N + 2 := by
 have := (esc_le s).2
 simp [quoB]; omega
end
section
open Go
theorem replK_ne {b c : UInt8} (new : L8) (h : b ≠ c) (l : L8) : ∀ k, Lib.replaceK [c] new k (b :: l) = b :: Lib.replaceK [c] new k l
  | 0 => rfl
  | k + 1 => by
    have hp : ([c] : L8).isPrefixOf (b :: l) = false := by
      simp only [List.isPrefixOf, Bool.and_true]
      simpa using fun e => h e.symm
    have hi : Lib.index (b :: l) [c] = if Lib.index l [c] == -1 then -1 else Lib.index l [c] + 1 := by
      show (if ([c] : L8).isPrefixOf (b :: l) then (0 : Int) else _) = _
      rw [hp]; rfl
    have hge := Lib.index_ge l [c]
    by_cases hm : Lib.index l [c] = -1
    · have e1 : Lib.index (b :: l) [c] = -1 := by rw [hi, hm]; rfl
      unfold Lib.replaceK
      rw [e1, hm]; rfl
    · have hm' : (Lib.index l [c] == -1) = false := by simpa using hm
      obtain ⟨i, hil⟩ : ∃ i : Nat, Lib.index l [c] = i := ⟨(Lib.index l [c]).toNat, by omega⟩
      have e1 : Lib.index (b :: l) [c] = ((i + 1 : Nat) : Int) := by rw [hi, hm', hil]; rfl
      rw [Lib.replaceK_hit _ _ _ _ _ e1, Lib.replaceK_hit _ _ _ _ _ hil]
      rfl
theorem repl_one (c : UInt8) {new : L8} : ∀ s : L8, Lib.replaceK [c] new (Lib.count s [c]) s = s.flatMap fun x => if x == c then new else [x]
  | [] => rfl
  | b :: l => by
    have ih := repl_one c (new := new) l
    by_cases h : b = c
    · subst h
      have hi : Lib.index (b :: l) [b] = ((0 : Nat) : Int) := by
        show (if ([b] : L8).isPrefixOf (b :: l) then (0 : Int) else _) = _
        simp [List.isPrefixOf]
      rw [Lib.count_cons_eq, Nat.add_comm, Lib.replaceK_hit _ _ _ _ _ hi]
      simp only [List.take_zero, List.nil_append, Nat.zero_add, List.length_cons, List.length_nil, List.drop_succ_cons, List.drop_zero, List.flatMap_cons, beq_self_eq_true, if_true]
      rw [ih]
    · rw [Lib.count_cons_ne b c l h, replK_ne new h, ih]
      have : (b == c) = false := by simpa using h
      simp only [List.flatMap_cons, this, Bool.false_eq_true, if_false]; rfl
theorem replAll_one (c : UInt8) {new : L8} (hn : new ≠ [c]) (s : L8) : Lib.replaceAll s [c] new = s.flatMap fun x => if x == c then new else [x] := by
 unfold Lib.replaceAll Lib.replace Lib.replaceNum
 rw [if_neg (by simpa using fun e => hn e.symm), if_pos (.inl (by decide))]
 exact repl_one c s
theorem repl_esc (s : L8) : Lib.replaceAll (Lib.replaceAll s [92] [92, 92]) [34] [92, 34] = escB s := by
  rw [replAll_one 92 (by decide), replAll_one 34 (by decide), List.flatMap_assoc]
  unfold escB
  congr 1
  funext c
  unfold esc1 spec
  by_cases h1 : c = 92
  · subst h1; rfl
  · by_cases h2 : c = 34
    · subst h2; rfl
    · have e1 : (c == 92) = false := by simpa using h1
      have e2 : (c == 34) = false := by simpa using h2
      simp [e1, e2, h1, h2]
theorem quote_esc (rest : L8) : ∀ (s o : L8) (i : Nat), quoteL (escB s ++ 34 :: rest) o i = some (o ++ s, i + (escB s).length + 1)
  | [], o, i => by
    show quoteL (34 :: rest) o i = _
    unfold quoteL
    simp [escB]
  | c :: s, o, i => by
    rw [esc_cons]
    have ih := fun o i => quote_esc rest s o i
    unfold esc1
    cases hs : spec c with
    | true =>
      rw [if_pos rfl]
      show quoteL (92 :: c :: (escB s ++ 34 :: rest)) o i = _
      unfold quoteL
      have hc : (c != 34 && c != 92) = false := by
        unfold spec at hs
        cases h1 : (c == 92) <;> cases h2 : (c == 34) <;> simp_all [bne]
      simp only [show ((92 : UInt8) == 34) = false from rfl, show ((92 : UInt8) == 92) = true from rfl, Bool.false_eq_true, if_false, if_true, hc]
      rw [ih]
      simp; omega
    | false =>
      rw [if_neg (by simp)]
      show quoteL (c :: (escB s ++ 34 :: rest)) o i = _
      unfold spec at hs
      rw [Bool.or_eq_false_iff] at hs
      unfold quoteL
      simp only [hs.1, hs.2, Bool.false_eq_true, if_false]
      rw [ih]
      simp; omega
theorem quo_len (s : L8) : (34 :: (escB s ++ [34])).length = (escB s).length + 2 := by simp
theorem qAt_quo (s rest : L8) : qAt (34 :: (escB s ++ [34]) ++ rest) 0 = some (s, (escB s).length + 2) := by
 unfold qAt
 show quoteL (escB s ++ [34] ++ rest) [] 1 = _
 rw [List.append_assoc]
 show quoteL (escB s ++ 34 :: rest) [] 1 = _
 rw [quote_esc]
 simp; omega
theorem quoP_quo (s rest : L8) : quoP (34 :: (escB s ++ [34]) ++ rest) = (s, rest, true) := by
 unfold quoP
 rw [qAt_quo]
 have hc : ((34 :: (escB s ++ [34]) ++ rest) == [] || (bI ((34 :: (escB s ++ [34]) ++ rest).getD 0 0) != 34)) = false := rfl
 rw [hc]
 show (s, (34 :: (escB s ++ [34]) ++ rest).drop ((escB s).length + 2), true) = _
 rw [List.drop_append_of_le_length (by rw [quo_len]; exact Nat.le_refl _), List.drop_of_length_le (by rw [quo_len]; exact Nat.le_refl _)]; rfl
theorem quote_sound : ∀ (n : Nat) (l o : L8) (i : Nat) (x : L8) (e : Nat), l.length ≤ n → quoteL l o i = some (x, e) → ∃ y t, x = o ++ y ∧ l = escB y ++ 34 :: t ∧ e = i + (escB y).length + 1
  | 0, l, o, i, x, e, h, hq => by
    obtain rfl : l = [] := List.length_eq_zero_iff.1 (by omega)
    simp [quoteL] at hq
  | n + 1, [], o, i, x, e, h, hq => by simp [quoteL] at hq
  | n + 1, c :: l, o, i, x, e, h, hq => by
    unfold quoteL at hq
    split at hq
    · rename_i hc
      have hc : c = 34 := by simpa using hc
      subst hc
      simp only [Option.some.injEq, Prod.mk.injEq] at hq
      exact ⟨[], l, by simp [hq.1], by simp [escB], by simp [escB]; omega⟩
    · rename_i hc
      split at hq
      · rename_i hb
        have hb : c = 92 := by simpa using hb
        subst hb
        split at hq
        · cases hq
        · rename_i d m
          split at hq
          · cases hq
          · rename_i hd
            simp at h
            obtain ⟨y, t, h1, h2, h3⟩ := quote_sound n m (o ++ [d]) (i + 2) x e (by omega) hq
            have hs : spec d = true := by
              unfold spec
              cases e1 : (d == 92) <;> cases e2 : (d == 34) <;> simp_all [bne]
            refine ⟨d :: y, t, by rw [h1]; simp, ?_, ?_⟩
            · rw [esc_cons, h2]; unfold esc1; rw [if_pos hs]; simp
            · rw [esc_cons, List.length_append, esc1_len, if_pos hs]; omega
      · rename_i hb
        simp at h
        obtain ⟨y, t, h1, h2, h3⟩ := quote_sound n l (o ++ [c]) (i + 1) x e (by omega) hq
        have hs : spec c = false := by
          unfold spec
          have e1 : (c == 92) = false := by simpa using hb
          have e2 : (c == 34) = false := by simpa using hc
          rw [e1, e2]; rfl
        refine ⟨c :: y, t, by rw [h1]; simp, ?_, ?_⟩
        · rw [esc_cons, h2]; unfold esc1; rw [if_neg (by rw [hs]; simp)]; simp
        · rw [esc_cons, List.length_append, esc1_len, if_neg (by rw [hs]; simp)]; omega
theorem qAt_sound {s x : L8} {e : Nat} (h0 : s.getD 0 0 = 34) (h1 : s ≠ []) (h : qAt s 0 = some (x, e)) : s = 34 :: (escB x ++ [34]) ++ s.drop e ∧ e = (escB x).length + 2 := by
 cases s with
 | nil => exact absurd rfl h1
 | cons c l =>
  have hc : c = 34 := by simpa using h0
  subst hc
  unfold qAt at h
  obtain ⟨y, t, h2, h3, h4⟩ := quote_sound _ _ _ _ _ _ (Nat.le_refl _) (show quoteL l [] 1 = some (x, e) from h)
  simp at h2
  subst h2
  refine ⟨?_, by omega⟩
  have he : e = (escB x).length + 2 := by omega
  rw [he, h3]
  have : (34 :: (escB x ++ 34 :: t)) = (34 :: (escB x ++ [34])) ++ t := by simp
  rw [this, List.drop_append_of_le_length (by rw [quo_len]; exact Nat.le_refl _), List.drop_of_length_le (by rw [quo_len]; exact Nat.le_refl _)]; rfl
end
section
open Go
open Go.RowKit
attribute [local irreducible] thenK blockK W
attribute [local irreducible] rangeB pathB nameB valueB firstNe escB quoB
theorem pc_ReplaceAll (a b c : List UInt8) (ha : a.length ≤ 1000000000) (h1 : 1 ≤ b.length) (hc : c.length ≤ 10) : PureCall Tryz.prog J 240 [.one (.d (.str a)), .one (.d (.str b)), .one (.d (.str c))] (.one (.d (.str (Lib.replaceAll a b c)))) :=
  PureCall.lib Tryz.func240 (by kernel_rfl) (by kernel_rfl) (xs := [.string ⟨a.toArray⟩, .string ⟨b.toArray⟩, .string ⟨c.toArray⟩]) rfl fun w hw =>
    hw.max.elim fun m hm => Calls.mono (Tryz.strings_ReplaceAll ⟨a.toArray⟩ ⟨b.toArray⟩ ⟨c.toArray⟩ m w (by simp [ByteArray.size]; omega) hm (by simpa [ByteArray.size] using h1) (by
      have h2 := Lib.countB_mul_le ⟨b.toArray⟩ (by simpa [ByteArray.size] using h1) _ ⟨a.toArray⟩ (Nat.le_refl _)
      have h3 : Lib.countB ⟨a.toArray⟩ ⟨b.toArray⟩ * 1 ≤ Lib.countB ⟨a.toArray⟩ ⟨b.toArray⟩ * b.length := Nat.mul_le_mul_left _ h1
      have h4 : Lib.countB ⟨a.toArray⟩ ⟨b.toArray⟩ * c.length ≤ Lib.countB ⟨a.toArray⟩ ⟨b.toArray⟩ * 10 := Nat.mul_le_mul_left _ hc
      simp only [ByteArray.size, List.size_toArray] at h2 ⊢
      omega)) fun e w' ⟨he, hw⟩ => ⟨_, he, hw, RV.of_lit (by simp [D.lit])⟩
theorem esc_eq (s : List UInt8) : Lib.replaceAll (Lib.replaceAll s [92] [92, 92]) [34] [92, 34] = escB s := repl_esc s
theorem repl_len (s : List UInt8) : (Lib.replaceAll s [92] [92, 92]).length ≤ 2 * s.length := by
 rw [replAll_one 92 (by decide)]
 induction s with
 | nil => simp
 | cons c s ih =>
  rw [List.flatMap_cons, List.length_append, List.length_cons]
  split <;> simp at * <;> omega
theorem pc_outref2_Quoted (s : List UInt8) (hs : s.length ≤ 4000000) :
  PureCall Tryz.prog J 197 [.one (.d (.str s))] (.one (.d (.str (quoB s)))) := by
 have hle := esc_le s
 have hrl := repl_len s
 refine PureCall.of_body tOk (fn := Tryz.f197) Tryz.func197 (by kernel_rfl) rfl (Nat.le_of_ble_eq_true rfl) (fun E => ?_)
 iterate 4 first|refine Yp rfl ?_|apply Y3|apply Y1
 refine S.call rfl rfl rfl rfl rfl (pc_ReplaceAll s [92] [92, 92] (by omega) (by decide) (by decide)) ?_
 refine S.call rfl rfl rfl rfl rfl (pc_ReplaceAll _ [34] [92, 34] (by omega) (by decide) (by decide)) ?_
 refine YP rfl (cat_ok (by have := congrArg List.length (repl_esc s); simp at this ⊢; omega)) rfl ?_
 refine YP rfl (cat_ok (by have := congrArg List.length (repl_esc s); simp at this ⊢; omega)) rfl ?_
 refine Yp rfl ?_
 apply Yn
 apply Yt
 exact Yz rfl rfl rfl (by rw [esc_eq]; unfold quoB; rfl)
end
section
open Go
open Go.RowKit
attribute [local irreducible] thenK blockK W
attribute [local irreducible] rangeB pathB nameB valueB visit visits checkP quoteL qAt
end
end Go.Proofs.YtpelfildfidnbaaGreatDoor
namespace Go.Proofs.YtpelfildfidnbaaGreatDoor
section
open Go
section
variable {s o : List UInt8} {i : Nat}
theorem qcat (hi : i < s.length) : V.one (.d (.str (o ++ (s.take ((i + 1 : Nat) : Int).toNat).drop ((i : Nat) : Int).toNat))) = V.one (.d (.str (o ++ [s.getD i 0]))) := by
 have h : (s.take (i + 1)).drop i = [s.getD i 0] := by
  rw [List.getD_eq_getElem?_getD, List.getElem?_eq_getElem hi, List.take_succ_eq_append_getElem hi, List.drop_append_of_le_length (by simp; omega)]
  simp
 show V.one (.d (.str (o ++ (s.take (i + 1)).drop i))) = _
 rw [h]
end
end
section
open Go
open Go.RowKit
attribute [local irreducible] thenK blockK W
attribute [local irreducible] rangeB pathB nameB valueB visit visits checkP quoteL qAt
theorem pc_outref2_quotedAt (s : List UInt8) (f : Nat) (hs : s.length ≤ 4000) (hf : f < s.length) :
  PureCall Tryz.prog J 134 [.one (.d (.str s)), .one (.d (.int .i64 (f : Int)))] (.tup [.one (.d (.str (qT (qAt s f)))), .one (.d (.int .i64 (qE (qAt s f) : Int))), .one (.d (.bool (qAt s f).isSome))]) := by
 refine PureCall.of_body tOk (fn := Tryz.f134) Tryz.func134 (by kernel_rfl) rfl (Nat.le_of_ble_eq_true rfl) (fun E => ?_)
 iterate 10 first|refine Yp rfl ?_|apply Y1|apply Y3|apply Ys|apply Yn
 refine YE rfl rfl (inc_i64 (by omega)) rfl ?_
 refine Yp rfl ?_
 apply Yn
 apply Yb
 refine W.loop (fun k st => ∃ i : Nat, ∃ o : List UInt8, i ≤ s.length ∧ quoteL (s.drop i) o i = (qAt s f) ∧ o.length ≤ i ∧ k = s.length - i ∧ ∃ t b2 r2 m2, st = ⟨t, [] ++ b2, [] ++ r2, [] ++ m2⟩ ∧ holdsL t [(0, .one (.d (.str s))), (7, .one (.d (.str o))), (8, .one (.d (.int .i64 (i : Int))))]) (s.length - (f + 1)) ⟨f + 1, [], hf, q_start, Nat.zero_le _, rfl, _, _, _, _, rfl, rfl, rfl, rfl, trivial⟩ ?_
 rintro k0 _ ⟨i, o, f0_0, f0_1, f0_2, rfl, t0, bb0, rr0, mm0, rfl, hh0⟩
 refine W.keepR _ _ _ _ _ _ _ hh0 rfl ?_
 apply Ys
 apply Y1
 iterate 4 refine Yp rfl ?_
 apply Yn
 refine W.cond rfl (fun c1=>?_) fun c1=>?_
 ·skip
  have hi : i < s.length := by simpa using c1
  iterate 8 first|refine Yp rfl ?_|apply Yb|apply Yk|apply Y1|apply Ys|apply Yn
  refine YP rfl (str_ok hi) rfl ?_
  iterate 6 first|refine Yp rfl ?_|apply Yb|apply Y1|apply Yn
  refine W.cond rfl (fun c2=>?_) fun c2=>?_
  ·skip
   have hq := qL_q hi (u8i (k := 34) c2) f0_1
   apply Y1
   iterate 2 refine Yp rfl ?_
   refine YE rfl rfl (inc_i64 (by omega)) rfl ?_
   iterate 12 first|apply Yu|apply Yv|refine Yp rfl ?_|apply Yt|apply Yn
   exact Yz rfl rfl rfl (by rw [hq]; rfl)
  have hc := u8i (c := s.getD i 0) (k := 34) c2
  apply Y1
  iterate 2 refine Yp rfl ?_
  apply Yn
  refine W.cond rfl (fun c3=>?_) fun c3=>?_
  ·skip
   have hb := u8i (c := s.getD i 0) (k := 92) c3
   apply Y1
   refine Yp rfl ?_
   refine YE rfl rfl (inc_i64 (by omega)) rfl ?_
   iterate 9 first|refine Yp rfl ?_|refine Yg rfl rfl tg ?_|apply Y3
   refine YG rfl rfl tg (fun h => qidx hi h) rfl ?_
   iterate 4 refine Yg rfl rfl tg ?_
   refine YG rfl rfl tg (fun h => qidx hi (andl h)) rfl ?_
   refine Yg rfl rfl tg ?_
   refine S.pickAndG tOk zOk rfl rfl rfl tg tg ?_
   refine S.pickOr tOk zOk rfl rfl tg ?_
   apply Yn
   refine W.cond rfl (fun c4=>?_) fun c4=>?_
   ·skip
    have hq := qL_bad hi hc hb (qbad c4) f0_1
    iterate 13 first|apply Yu|apply Yv|refine Yp rfl ?_|apply Yt|apply Y1|apply Yn
    exact Yz rfl rfl rfl (by rw [hq]; rfl)
   have hi1 : i + 1 < s.length := qok1 hi c4
   have hd := qok2 c4
   iterate 7 first|refine Yp rfl ?_|apply Yw|apply Yk|apply Y4
   refine YE rfl rfl (inc_i64 (by omega)) rfl ?_
   refine YP rfl (sl_ok (by omega) (by omega) (by omega)) rfl ?_
   refine YE rfl (cat_ok (by simp; omega)) (by first | exact qcat hi1 | exact qcat hi) rfl ?_
   iterate 6 first|refine Yp rfl ?_|apply Yw|apply Y4
   refine loop_n (s.length - _) (by first | exact qm2 hi | exact qm1 hi) ⟨i + 1 + 1, _, hi1, qL_esc hi1 hc hb hd f0_1, (by simp; omega), rfl, _, _, _, _, rfl, rfl, rfl, inc_i64 (by omega), trivial⟩
  have hb := u8i (c := s.getD i 0) (k := 92) c3
  apply Yk
  apply Yw
  apply Y4
  iterate 4 refine Yp rfl ?_
  refine YE rfl rfl (inc_i64 (by omega)) rfl ?_
  refine YP rfl (sl_ok (by omega) (by omega) (by omega)) rfl ?_
  refine YE rfl (cat_ok (by simp; omega)) (by first | exact qcat hi1 | exact qcat hi) rfl ?_
  iterate 6 first|refine Yp rfl ?_|apply Yw|apply Y4
  refine loop_n (s.length - _) (by first | exact qm2 hi | exact qm1 hi) ⟨i + 1, _, hi, qL_c hi hc hb f0_1, (by simp; omega), rfl, _, _, _, _, rfl, rfl, rfl, inc_i64 (by omega), trivial⟩
 have hi : s.length ≤ i := by simpa using c1
 have hq := qL_end hi f0_1
 iterate 9 first|refine Yp rfl ?_|apply Ye|apply Yx|apply Yq|apply Y3|apply Yn
 apply Yt
 exact Yz rfl rfl rfl (by rw [hq]; rfl)
end
section
open Go
open Go.RowKit
attribute [local irreducible] thenK blockK W
attribute [local irreducible] rangeB pathB nameB valueB firstNe ruleC escB quoB parR ruleW
def rt1 (r : Rul) : L8 := if usTu r.kd then ruleW r.kd ++ [32] ++ r.k ++ ([32] ++ r.tu) else ruleW r.kd ++ [32] ++ r.k
def rt2 (r : Rul) : L8 := if usOld r.kd then rt1 r ++ ([32] ++ quoB r.old) else rt1 r
def ruleT (r : Rul) : L8 := if usNew r.kd then rt2 r ++ ([32] ++ quoB r.nu) else rt2 r
theorem ruleW_le (x : Int) : (ruleW x).length ≤ 10 := by
 unfold ruleW
 repeat' split
 all_goals decide
theorem pc_RuleText (r : Rul) (hr : RulB r) :
  PureCall Tryz.prog J 135 [.agg [.d (.int .i64 r.kd), .d (.str r.k), .d (.str r.tu), .d (.str r.old), .d (.str r.nu)]] (.one (.d (.str (ruleT r)))) := by
 obtain ⟨hr1, hr2, hr3, hr4⟩ := hr
 have hqo := quoB_le hr3
 have hqn := quoB_le hr4
 have hwl := ruleW_le r.kd
 refine PureCall.of_body tOk (fn := Tryz.f135) Tryz.func135 (by kernel_rfl) rfl (Nat.le_of_ble_eq_true rfl) (fun E => ?_)
 iterate 6 first|refine Yp rfl ?_|refine S.box rfl rfl rfl rfl ?_|apply Y3|apply Y1
 refine S.call rfl rfl rfl rfl rfl (pc_ruleWord r.kd) ?_
 iterate 11 first|refine Yp rfl ?_|apply Y3
 refine YP rfl (cat_ok (by simp only [List.length_append, List.length_cons, List.length_nil]; omega)) rfl ?_
 iterate 2 refine Yp rfl ?_
 refine YP rfl (cat_ok (by simp only [List.length_append, List.length_cons, List.length_nil]; omega)) rfl ?_
 iterate 6 first|refine Yp rfl ?_|apply Y1|apply Yn|apply Ys
 refine W.cond rfl (fun c1=>?_) fun c1=>?_
 ·skip
  apply Yr
  iterate 3 refine Yp rfl ?_
  refine YP rfl (cat_ok (by simp only [List.length_append, List.length_cons, List.length_nil]; omega)) rfl ?_
  refine YP rfl (cat_ok (by simp only [List.length_append, List.length_cons, List.length_nil]; omega)) rfl ?_
  iterate 6 first|refine Yp rfl ?_|apply Y1|apply Yn|apply Ys
  refine W.cond rfl (fun c2=>?_) fun c2=>?_
  ·skip
   apply Yr
   iterate 3 refine Yp rfl ?_
   refine S.call rfl rfl rfl rfl rfl (pc_outref2_Quoted r.old (by omega)) ?_
   refine YP rfl (cat_ok (by simp only [List.length_append, List.length_cons, List.length_nil]; omega)) rfl ?_
   refine YP rfl (cat_ok (by simp only [List.length_append, List.length_cons, List.length_nil]; omega)) rfl ?_
   iterate 6 first|refine Yp rfl ?_|apply Y1|apply Yn|apply Ys
   refine W.cond rfl (fun c3=>?_) fun c3=>?_
   ·skip
    apply Yr
    iterate 3 refine Yp rfl ?_
    refine S.call rfl rfl rfl rfl rfl (pc_outref2_Quoted r.nu (by omega)) ?_
    refine YP rfl (cat_ok (by simp only [List.length_append, List.length_cons, List.length_nil]; omega)) rfl ?_
    refine YP rfl (cat_ok (by simp only [List.length_append, List.length_cons, List.length_nil]; omega)) rfl ?_
    iterate 6 first|refine Yp rfl ?_|apply Yt|apply Y3|apply Yn
    exact Yz rfl rfl rfl (by unfold ruleT rt2 rt1; simp only [c1, c2, c3, Bool.false_eq_true, if_true, if_false])
   iterate 6 first|refine Yp rfl ?_|apply Yt|apply Yk|apply Y3|apply Yn
   exact Yz rfl rfl rfl (by unfold ruleT rt2 rt1; simp only [c1, c2, c3, Bool.false_eq_true, if_true, if_false])
  iterate 6 first|refine Yp rfl ?_|apply Yk|apply Y1|apply Yn|apply Ys
  refine W.cond rfl (fun c4=>?_) fun c4=>?_
  ·skip
   apply Yr
   iterate 3 refine Yp rfl ?_
   refine S.call rfl rfl rfl rfl rfl (pc_outref2_Quoted r.nu (by omega)) ?_
   refine YP rfl (cat_ok (by simp only [List.length_append, List.length_cons, List.length_nil]; omega)) rfl ?_
   refine YP rfl (cat_ok (by simp only [List.length_append, List.length_cons, List.length_nil]; omega)) rfl ?_
   iterate 6 first|refine Yp rfl ?_|apply Yt|apply Y3|apply Yn
   exact Yz rfl rfl rfl (by unfold ruleT rt2 rt1; simp only [c1, c2, c4, Bool.false_eq_true, if_true, if_false])
  iterate 6 first|refine Yp rfl ?_|apply Yt|apply Yk|apply Y3|apply Yn
  exact Yz rfl rfl rfl (by unfold ruleT rt2 rt1; simp only [c1, c2, c4, Bool.false_eq_true, if_true, if_false])
 apply Yk
 apply Yn
 apply Ys
 apply Y1
 refine Yp rfl ?_
 apply Yn
 refine W.cond rfl (fun c5=>?_) fun c5=>?_
 ·skip
  apply Yr
  iterate 3 refine Yp rfl ?_
  refine S.call rfl rfl rfl rfl rfl (pc_outref2_Quoted r.old (by omega)) ?_
  refine YP rfl (cat_ok (by simp only [List.length_append, List.length_cons, List.length_nil]; omega)) rfl ?_
  refine YP rfl (cat_ok (by simp only [List.length_append, List.length_cons, List.length_nil]; omega)) rfl ?_
  iterate 6 first|refine Yp rfl ?_|apply Y1|apply Yn|apply Ys
  refine W.cond rfl (fun c6=>?_) fun c6=>?_
  ·skip
   apply Yr
   iterate 3 refine Yp rfl ?_
   refine S.call rfl rfl rfl rfl rfl (pc_outref2_Quoted r.nu (by omega)) ?_
   refine YP rfl (cat_ok (by simp only [List.length_append, List.length_cons, List.length_nil]; omega)) rfl ?_
   refine YP rfl (cat_ok (by simp only [List.length_append, List.length_cons, List.length_nil]; omega)) rfl ?_
   iterate 6 first|refine Yp rfl ?_|apply Yt|apply Y3|apply Yn
   exact Yz rfl rfl rfl (by unfold ruleT rt2 rt1; simp only [c1, c5, c6, Bool.false_eq_true, if_true, if_false])
  iterate 6 first|refine Yp rfl ?_|apply Yt|apply Yk|apply Y3|apply Yn
  exact Yz rfl rfl rfl (by unfold ruleT rt2 rt1; simp only [c1, c5, c6, Bool.false_eq_true, if_true, if_false])
 apply Yk
 apply Yn
 apply Ys
 apply Y1
 refine Yp rfl ?_
 apply Yn
 refine W.cond rfl (fun c7=>?_) fun c7=>?_
 ·skip
  apply Yr
  iterate 3 refine Yp rfl ?_
  refine S.call rfl rfl rfl rfl rfl (pc_outref2_Quoted r.nu (by omega)) ?_
  refine YP rfl (cat_ok (by simp only [List.length_append, List.length_cons, List.length_nil]; omega)) rfl ?_
  refine YP rfl (cat_ok (by simp only [List.length_append, List.length_cons, List.length_nil]; omega)) rfl ?_
  iterate 6 first|refine Yp rfl ?_|apply Yt|apply Y3|apply Yn
  exact Yz rfl rfl rfl (by unfold ruleT rt2 rt1; simp only [c1, c5, c7, Bool.false_eq_true, if_true, if_false])
 apply Yk
 apply Y3
 iterate 2 refine Yp rfl ?_
 apply Yn
 apply Yt
 exact Yz rfl rfl rfl (by unfold ruleT rt2 rt1; simp only [c1, c5, c7, Bool.false_eq_true, if_true, if_false])
end
section
open Go
theorem qAt_nil : qT (qAt [] 0) = [] ∧ qE (qAt [] 0) = 0 ∧ (qAt [] 0).isSome = false := by
 have : qAt [] 0 = none := by unfold qAt quoteL; rfl
 rw [this]; exact ⟨rfl, rfl, rfl⟩
def takeP (isu right last : Bool) (cur rest : L8) : L8 × L8 × Bool :=
 if !isu || !right then (cur, rest, right)
 else if (!Lib.hasPrefix rest [34] || !(qAt rest 0).isSome) || (!last && !Lib.hasPrefix (rest.drop (qE (qAt rest 0))) [32]) then (cur, rest, false)
 else (qT (qAt rest 0), if last then rest.drop (qE (qAt rest 0)) else (rest.drop (qE (qAt rest 0))).drop 1, right)
theorem tk_a {isu right last : Bool} {cur rest : L8} (h : (!isu || !right) = true) : takeP isu right last cur rest = (cur, rest, right) := if_pos h
theorem tk_b {isu right last : Bool} {cur rest : L8} (h : (!isu || !right) = false) (c : ((!Lib.hasPrefix rest [34] || !(qAt rest 0).isSome) || (!last && !Lib.hasPrefix (rest.drop (qE (qAt rest 0))) [32])) = true) : takeP isu right last cur rest = (cur, rest, false) := by
 unfold takeP; rw [if_neg (Bool.eq_false_iff.1 h), if_pos c]
theorem tk_c {isu right last : Bool} {cur rest : L8} (h : (!isu || !right) = false) (c : ((!Lib.hasPrefix rest [34] || !(qAt rest 0).isSome) || (!last && !Lib.hasPrefix (rest.drop (qE (qAt rest 0))) [32])) = false) :
  takeP isu right last cur rest = (qT (qAt rest 0), if last then rest.drop (qE (qAt rest 0)) else (rest.drop (qE (qAt rest 0))).drop 1, right) := by
 unfold takeP; rw [if_neg (Bool.eq_false_iff.1 h), if_neg (Bool.eq_false_iff.1 c)]
theorem qE_le (s : L8) : qE (qAt s 0) ≤ s.length ∧ (qT (qAt s 0)).length ≤ s.length := by
 cases h : (qAt s 0).isSome with
 | false =>
  have : qAt s 0 = none := by simpa using h
  rw [this]; exact ⟨Nat.zero_le _, Nat.zero_le _⟩
 | true =>
  cases s with
  | nil => rw [qAt_nil.2.2] at h; cases h
  | cons c s => have := qAt_le (s := c :: s) (f := 0) (by simp) h; exact this.2
theorem tk_le (isu right last : Bool) (cur rest : L8) : (takeP isu right last cur rest).1.length ≤ max cur.length rest.length ∧ (takeP isu right last cur rest).2.1.length ≤ rest.length := by
 have := qE_le rest
 unfold takeP
 split
 ·skip
  exact ⟨Nat.le_max_left .., Nat.le_refl _⟩
 ·skip
  split
  ·skip
   exact ⟨Nat.le_max_left .., Nat.le_refl _⟩
  ·skip
   refine ⟨Nat.le_trans this.2 (Nat.le_max_right ..), ?_⟩
   show (if last then _ else _ : L8).length ≤ _
   split <;> simp <;> omega
theorem pre_1 {a : Bool} {s : L8} (h : (a || (!false && !Lib.hasPrefix s [32])) = false) : 1 ≤ s.length := by
 rw [Bool.or_eq_false_iff] at h
 have h2 : Lib.hasPrefix s [32] = true := by simpa using h.2
 obtain ⟨z, rfl⟩ := hasPrefix_iff.1 h2
 simp
end
section
open Go
open Go.RowKit
attribute [local irreducible] thenK blockK W
attribute [local irreducible] rangeB pathB nameB valueB firstNe ruleC escB quoB parR ruleW ruleT Lib.hasPrefix qAt qT qE quoteL takeP
theorem pc_quotedAt_nil  :
  PureCall Tryz.prog J 134 [.one (.d (.str [])), .one (.d (.int .i64 0))] (.tup [.one (.d (.str [])), .one (.d (.int .i64 0)), .one (.d (.bool false))]) := by
 refine PureCall.of_body tOk (fn := Tryz.f134) Tryz.func134 (by kernel_rfl) rfl (Nat.le_of_ble_eq_true rfl) (fun E => ?_)
 iterate 14 first|refine Yp rfl ?_|apply Yb|apply Y1|apply Y3|apply Yn|apply Ys
 refine W.rounds 1 ?_
 refine WR.succ ?_
 apply Ys
 apply Y1
 iterate 4 refine Yp rfl ?_
 apply Yn
 refine W.condF rfl rfl ?_
 iterate 9 first|refine Yp rfl ?_|apply Ye|apply Yx|apply Yq|apply Y3|apply Yn
 apply Yt
 exact ⟨_, rfl, rfl, LeV.refl _⟩
theorem pc_quotedA (s : List UInt8) (hs : s.length ≤ 4000) : PureCall Tryz.prog J 134 [.one (.d (.str s)), .one (.d (.int .i64 0))] (.tup [.one (.d (.str (qT (qAt s 0)))), .one (.d (.int .i64 (qE (qAt s 0) : Int))), .one (.d (.bool (qAt s 0).isSome))]) := by
 cases s with
 | nil =>
  obtain ⟨h1, h2, h3⟩ := qAt_nil
  rw [h1, h2, h3]
  exact pc_quotedAt_nil
 | cons c s => exact pc_outref2_quotedAt (c :: s) 0 hs (by simp)
theorem tk1 {kd : Int} {k tu nu old rest a b : L8} {isu right c : Bool} (h : takeP isu right false old rest = (a, b, c)) : ([[.d (.int .i64 kd), .d (.str k), .d (.str tu), .d (.str a), .d (.str nu)], [.d (.str b)], [.d (.bool c)]] : List (List C)) =
  [[.d (.int .i64 kd), .d (.str k), .d (.str tu), .d (.str (takeP isu right false old rest).1), .d (.str nu)], [.d (.str (takeP isu right false old rest).2.1)], [.d (.bool (takeP isu right false old rest).2.2)]] := by rw [h]
theorem tk2 {kd : Int} {k tu nu old rest a b : L8} {isu right c : Bool} (h : takeP isu right true nu rest = (a, b, c)) : ([[.d (.int .i64 kd), .d (.str k), .d (.str tu), .d (.str old), .d (.str a)], [.d (.str b)], [.d (.bool c)]] : List (List C)) =
  [[.d (.int .i64 kd), .d (.str k), .d (.str tu), .d (.str old), .d (.str (takeP isu right true nu rest).1)], [.d (.str (takeP isu right true nu rest).2.1)], [.d (.bool (takeP isu right true nu rest).2.2)]] := by rw [h]
theorem sl_qE (s : L8) : V.one (.d (.str ((s.take ((s.length : Int)).toNat).drop ((qE (qAt s 0) : Int)).toNat))) = V.one (.d (.str (s.drop (qE (qAt s 0))))) := by
 rw [Int.toNat_natCast, Int.toNat_natCast, List.take_length]
theorem pc_take1 (kd : Int) (k tu old nu rest : List UInt8) (isu right : Bool) (hs : rest.length ≤ 4000) :
  HCall Tryz.prog J 133 ([.one (.d (.bool isu)), .one (.ptr 0 3), .one (.d (.bool false)), .one (.ptr 2 0), .one (.ptr 1 0)]) ([[.d (.int .i64 kd), .d (.str k), .d (.str tu), .d (.str old), .d (.str nu)], [.d (.str rest)], [.d (.bool right)]]) ([]) ([]) (isH (.tup []) ([[.d (.int .i64 kd), .d (.str k), .d (.str tu), .d (.str (takeP isu right false old rest).1), .d (.str nu)], [.d (.str (takeP isu right false old rest).2.1)], [.d (.bool (takeP isu right false old rest).2.2)]]) ([]) ([])) := by
 refine HCall.ofD tOk ⟨3, 0, 0⟩ (fn := Tryz.f133) Tryz.func133 (by kernel_rfl) rfl (Nat.le_of_ble_eq_true rfl) (fun E => ?_)
 iterate 9 first|refine S.pickOr tOk zOk rfl rfl tg ?_|refine Yp rfl ?_|refine Yg rfl rfl tg ?_|apply Y1|apply Yn|apply Ys
 refine W.cond rfl (fun c1=>?_) fun c1=>?_
 ·skip
  apply Yt
  apply Yu
  exact ⟨_, rfl, rfl, LeG.refl _, (tk1 (tk_a c1)), rfl, rfl⟩
 apply Yk
 apply Y3
 refine Yp rfl ?_
 refine S.call rfl rfl rfl rfl rfl (pc_quotedA rest hs) ?_
 iterate 11 first|refine Yp rfl ?_|apply Y1|apply Ys|apply Yn
 refine S.call rfl rfl rfl rfl rfl (pc_HasPrefix rest [34]) ?_
 iterate 11 first|refine S.pickOr tOk zOk rfl rfl tg ?_|refine Yg rfl rfl tg ?_|refine Yp rfl ?_
 refine S.pureEG tOk zOk rfl rfl tg (fun _ => sl_ok (Int.natCast_nonneg _) (by have := (qE_le rest).1; omega) (Int.le_refl _)) (sl_qE rest) rfl ?_
 refine S.callG rfl rfl rfl rfl tg rfl rfl (fun _ => pc_HasPrefix _ [32]) ?_
 refine Yg rfl rfl tg ?_
 refine S.pickAndG tOk zOk rfl rfl rfl tg tg ?_
 refine S.pickOr tOk zOk rfl rfl tg ?_
 apply Yn
 refine W.cond rfl (fun c2=>?_) fun c2=>?_
 ·skip
  apply Y1
  refine S.store tOk rfl rfl rfl rfl rfl rfl rfl rfl ?_
  apply Yn
  apply Yt
  apply Yu
  exact ⟨_, rfl, rfl, LeG.refl _, (tk1 (tk_b c1 c2)), rfl, rfl⟩
 apply Yk
 apply Yn
 apply Ys
 refine W.regionS 8 mixed rfl (by kernel_rfl) ?_
 refine AnyZ.eager 0 rfl (by kernel_rfl) (Eag.pure tOk zOk rfl (fun _ _ _ => rfl) rfl rfl) ?_
 refine AnyZ.eager 1 rfl (by kernel_rfl) (Eag.pure tOk zOk rfl (fun _ _ _ => rfl) rfl rfl) ?_
 refine AnyZ.eager 3 rfl (by kernel_rfl) (Eag.pure tOk zOk rfl (fun _ _ _ => rfl) rfl rfl) ?_
 refine AnyZ.eager 5 rfl (by kernel_rfl) (Eag.pure tOk zOk rfl (fun _ _ _ => rfl) rfl rfl) ?_
 refine AnyZ.two 2 6 (by kernel_rfl) rfl rfl ?_ ?_
 ·skip
  refine OpZ.d ?_
  refine Ym rfl rfl ?_
  refine WD.nil ?_
  refine AnyZ.two 4 6 (by kernel_rfl) rfl rfl ?_ ?_
  ·skip
   refine OpZ.d ?_
   refine D.pureE tOk zOk rfl rfl (sl_ok (Int.natCast_nonneg _) (by have := (qE_le rest).1; omega) (Int.le_refl _)) (sl_qE rest) rfl ?_
   refine WD.nil ?_
   refine AnyZ.one 6 (by kernel_rfl) rfl ?_
   refine OpZ.d ?_
   refine D.store tOk rfl rfl rfl rfl rfl rfl rfl rfl ?_
   refine WD.nil ?_
   refine AnyZ.one 7 (by kernel_rfl) rfl ?_
   refine OpZ.d ?_
   refine D.store tOk rfl rfl rfl rfl rfl rfl rfl rfl ?_
   refine WD.nil ?_
   refine AnyZ.nil (by kernel_rfl) ?_
   apply Y3
   iterate 2 refine Yp rfl ?_
   apply Yn
   refine W.cond rfl (fun c3=>?_) fun c3=>?_
   ·skip
    apply Yr
    refine Yp rfl ?_
    refine YE rfl (sl_ok (l := 1) (by decide) (by have := pre_1 c2; omega) (Int.le_refl _)) (sl_drop1 _) rfl ?_
    refine S.store tOk rfl rfl rfl rfl rfl rfl rfl rfl ?_
    exact ⟨_, rfl, rfl, LeG.refl _, (tk1 (tk_c c1 c2)), rfl, rfl⟩
   exact absurd (show (!false) = false by assumption) (by decide)
  refine OpZ.d ?_
  refine D.store tOk rfl rfl rfl rfl rfl rfl rfl rfl ?_
  refine WD.nil ?_
  refine AnyZ.one 4 (by kernel_rfl) rfl ?_
  refine OpZ.d ?_
  refine D.pureE tOk zOk rfl rfl (sl_ok (Int.natCast_nonneg _) (by have := (qE_le rest).1; omega) (Int.le_refl _)) (sl_qE rest) rfl ?_
  refine WD.nil ?_
  refine AnyZ.one 7 (by kernel_rfl) rfl ?_
  refine OpZ.d ?_
  refine D.store tOk rfl rfl rfl rfl rfl rfl rfl rfl ?_
  refine WD.nil ?_
  refine AnyZ.nil (by kernel_rfl) ?_
  apply Y3
  iterate 2 refine Yp rfl ?_
  apply Yn
  refine W.cond rfl (fun c4=>?_) fun c4=>?_
  ·skip
   apply Yr
   refine Yp rfl ?_
   refine YE rfl (sl_ok (l := 1) (by decide) (by have := pre_1 c2; omega) (Int.le_refl _)) (sl_drop1 _) rfl ?_
   refine S.store tOk rfl rfl rfl rfl rfl rfl rfl rfl ?_
   exact ⟨_, rfl, rfl, LeG.refl _, (tk1 (tk_c c1 c2)), rfl, rfl⟩
  exact absurd (show (!false) = false by assumption) (by decide)
 refine OpZ.d ?_
 refine D.store tOk rfl rfl rfl rfl rfl rfl rfl rfl ?_
 refine WD.nil ?_
 refine AnyZ.one 2 (by kernel_rfl) rfl ?_
 refine OpZ.d ?_
 refine Ym rfl rfl ?_
 refine WD.nil ?_
 refine AnyZ.one 4 (by kernel_rfl) rfl ?_
 refine OpZ.d ?_
 refine D.pureE tOk zOk rfl rfl (sl_ok (Int.natCast_nonneg _) (by have := (qE_le rest).1; omega) (Int.le_refl _)) (sl_qE rest) rfl ?_
 refine WD.nil ?_
 refine AnyZ.one 7 (by kernel_rfl) rfl ?_
 refine OpZ.d ?_
 refine D.store tOk rfl rfl rfl rfl rfl rfl rfl rfl ?_
 refine WD.nil ?_
 refine AnyZ.nil (by kernel_rfl) ?_
 apply Y3
 iterate 2 refine Yp rfl ?_
 apply Yn
 refine W.cond rfl (fun c5=>?_) fun c5=>?_
 ·skip
  apply Yr
  refine Yp rfl ?_
  refine YE rfl (sl_ok (l := 1) (by decide) (by have := pre_1 c2; omega) (Int.le_refl _)) (sl_drop1 _) rfl ?_
  refine S.store tOk rfl rfl rfl rfl rfl rfl rfl rfl ?_
  exact ⟨_, rfl, rfl, LeG.refl _, (tk1 (tk_c c1 c2)), rfl, rfl⟩
 exact absurd (show (!false) = false by assumption) (by decide)
theorem pc_take2 (kd : Int) (k tu old nu rest : List UInt8) (isu right : Bool) (hs : rest.length ≤ 4000) :
  HCall Tryz.prog J 133 ([.one (.d (.bool isu)), .one (.ptr 0 4), .one (.d (.bool true)), .one (.ptr 2 0), .one (.ptr 1 0)]) ([[.d (.int .i64 kd), .d (.str k), .d (.str tu), .d (.str old), .d (.str nu)], [.d (.str rest)], [.d (.bool right)]]) ([]) ([]) (isH (.tup []) ([[.d (.int .i64 kd), .d (.str k), .d (.str tu), .d (.str old), .d (.str (takeP isu right true nu rest).1)], [.d (.str (takeP isu right true nu rest).2.1)], [.d (.bool (takeP isu right true nu rest).2.2)]]) ([]) ([])) := by
 refine HCall.ofD tOk ⟨3, 0, 0⟩ (fn := Tryz.f133) Tryz.func133 (by kernel_rfl) rfl (Nat.le_of_ble_eq_true rfl) (fun E => ?_)
 iterate 9 first|refine S.pickOr tOk zOk rfl rfl tg ?_|refine Yp rfl ?_|refine Yg rfl rfl tg ?_|apply Y1|apply Yn|apply Ys
 refine W.cond rfl (fun c1=>?_) fun c1=>?_
 ·skip
  apply Yt
  apply Yu
  exact ⟨_, rfl, rfl, LeG.refl _, (tk2 (tk_a c1)), rfl, rfl⟩
 apply Yk
 apply Y3
 refine Yp rfl ?_
 refine S.call rfl rfl rfl rfl rfl (pc_quotedA rest hs) ?_
 iterate 11 first|refine Yp rfl ?_|apply Y1|apply Ys|apply Yn
 refine S.call rfl rfl rfl rfl rfl (pc_HasPrefix rest [34]) ?_
 iterate 11 first|refine S.pickOr tOk zOk rfl rfl tg ?_|refine Yg rfl rfl tg ?_|refine Yp rfl ?_
 refine S.pureEG tOk zOk rfl rfl tg (fun _ => sl_ok (Int.natCast_nonneg _) (by have := (qE_le rest).1; omega) (Int.le_refl _)) (sl_qE rest) rfl ?_
 refine S.callG rfl rfl rfl rfl tg rfl rfl (fun _ => pc_HasPrefix _ [32]) ?_
 refine Yg rfl rfl tg ?_
 refine S.pickAndG tOk zOk rfl rfl rfl tg tg ?_
 refine S.pickOr tOk zOk rfl rfl tg ?_
 apply Yn
 refine W.cond rfl (fun c2=>?_) fun c2=>?_
 ·skip
  apply Y1
  refine S.store tOk rfl rfl rfl rfl rfl rfl rfl rfl ?_
  apply Yn
  apply Yt
  apply Yu
  exact ⟨_, rfl, rfl, LeG.refl _, (tk2 (tk_b c1 c2)), rfl, rfl⟩
 apply Yk
 apply Yn
 apply Ys
 refine W.regionS 8 mixed rfl (by kernel_rfl) ?_
 refine AnyZ.eager 0 rfl (by kernel_rfl) (Eag.pure tOk zOk rfl (fun _ _ _ => rfl) rfl rfl) ?_
 refine AnyZ.eager 1 rfl (by kernel_rfl) (Eag.pure tOk zOk rfl (fun _ _ _ => rfl) rfl rfl) ?_
 refine AnyZ.eager 3 rfl (by kernel_rfl) (Eag.pure tOk zOk rfl (fun _ _ _ => rfl) rfl rfl) ?_
 refine AnyZ.eager 5 rfl (by kernel_rfl) (Eag.pure tOk zOk rfl (fun _ _ _ => rfl) rfl rfl) ?_
 refine AnyZ.two 2 6 (by kernel_rfl) rfl rfl ?_ ?_
 ·skip
  refine OpZ.d ?_
  refine Ym rfl rfl ?_
  refine WD.nil ?_
  refine AnyZ.two 4 6 (by kernel_rfl) rfl rfl ?_ ?_
  ·skip
   refine OpZ.d ?_
   refine D.pureE tOk zOk rfl rfl (sl_ok (Int.natCast_nonneg _) (by have := (qE_le rest).1; omega) (Int.le_refl _)) (sl_qE rest) rfl ?_
   refine WD.nil ?_
   refine AnyZ.one 6 (by kernel_rfl) rfl ?_
   refine OpZ.d ?_
   refine D.store tOk rfl rfl rfl rfl rfl rfl rfl rfl ?_
   refine WD.nil ?_
   refine AnyZ.one 7 (by kernel_rfl) rfl ?_
   refine OpZ.d ?_
   refine D.store tOk rfl rfl rfl rfl rfl rfl rfl rfl ?_
   refine WD.nil ?_
   refine AnyZ.nil (by kernel_rfl) ?_
   apply Y3
   iterate 2 refine Yp rfl ?_
   apply Yn
   refine W.cond rfl (fun c3=>?_) fun c3=>?_
   ·skip
    exact absurd (show (!true) = true by assumption) (by decide)
   apply Yk
   exact ⟨_, rfl, rfl, LeG.refl _, (tk2 (tk_c c1 c2)), rfl, rfl⟩
  refine OpZ.d ?_
  refine D.store tOk rfl rfl rfl rfl rfl rfl rfl rfl ?_
  refine WD.nil ?_
  refine AnyZ.one 4 (by kernel_rfl) rfl ?_
  refine OpZ.d ?_
  refine D.pureE tOk zOk rfl rfl (sl_ok (Int.natCast_nonneg _) (by have := (qE_le rest).1; omega) (Int.le_refl _)) (sl_qE rest) rfl ?_
  refine WD.nil ?_
  refine AnyZ.one 7 (by kernel_rfl) rfl ?_
  refine OpZ.d ?_
  refine D.store tOk rfl rfl rfl rfl rfl rfl rfl rfl ?_
  refine WD.nil ?_
  refine AnyZ.nil (by kernel_rfl) ?_
  apply Y3
  iterate 2 refine Yp rfl ?_
  apply Yn
  refine W.cond rfl (fun c4=>?_) fun c4=>?_
  ·skip
   exact absurd (show (!true) = true by assumption) (by decide)
  apply Yk
  exact ⟨_, rfl, rfl, LeG.refl _, (tk2 (tk_c c1 c2)), rfl, rfl⟩
 refine OpZ.d ?_
 refine D.store tOk rfl rfl rfl rfl rfl rfl rfl rfl ?_
 refine WD.nil ?_
 refine AnyZ.one 2 (by kernel_rfl) rfl ?_
 refine OpZ.d ?_
 refine Ym rfl rfl ?_
 refine WD.nil ?_
 refine AnyZ.one 4 (by kernel_rfl) rfl ?_
 refine OpZ.d ?_
 refine D.pureE tOk zOk rfl rfl (sl_ok (Int.natCast_nonneg _) (by have := (qE_le rest).1; omega) (Int.le_refl _)) (sl_qE rest) rfl ?_
 refine WD.nil ?_
 refine AnyZ.one 7 (by kernel_rfl) rfl ?_
 refine OpZ.d ?_
 refine D.store tOk rfl rfl rfl rfl rfl rfl rfl rfl ?_
 refine WD.nil ?_
 refine AnyZ.nil (by kernel_rfl) ?_
 apply Y3
 iterate 2 refine Yp rfl ?_
 apply Yn
 refine W.cond rfl (fun c5=>?_) fun c5=>?_
 ·skip
  exact absurd (show (!true) = true by assumption) (by decide)
 apply Yk
 exact ⟨_, rfl, rfl, LeG.refl _, (tk2 (tk_c c1 c2)), rfl, rfl⟩
end
section
open Go
open Go.RowKit
attribute [local irreducible] thenK blockK W
attribute [local irreducible] rangeB pathB nameB valueB firstNe ruleC escB quoB parR ruleW ruleT Lib.hasPrefix Lib.cut qAt qT qE quoteL takeP usTu usOld usNew
def rdE (kd : Int) (k tu rest s : L8) : Rul × Int :=
 if ((((!(takeP (usNew kd) (takeP (usOld kd) true false [] rest).2.2 true [] (takeP (usOld kd) true false [] rest).2.1).2.2 || !((takeP (usNew kd) (takeP (usOld kd) true false [] rest).2.2 true [] (takeP (usOld kd) true false [] rest).2.1).2.1 == [])) || k == []) || (usTu kd && tu == [])) ||
   !(ruleT ⟨kd, k, tu, (takeP (usOld kd) true false [] rest).1, (takeP (usNew kd) (takeP (usOld kd) true false [] rest).2.2 true [] (takeP (usOld kd) true false [] rest).2.1).1⟩ == s)) then (Rul.z, 8)
 else if ruleC ⟨kd, k, tu, (takeP (usOld kd) true false [] rest).1, (takeP (usNew kd) (takeP (usOld kd) true false [] rest).2.2 true [] (takeP (usOld kd) true false [] rest).2.1).1⟩ != 0 then (Rul.z, ruleC ⟨kd, k, tu, (takeP (usOld kd) true false [] rest).1, (takeP (usNew kd) (takeP (usOld kd) true false [] rest).2.2 true [] (takeP (usOld kd) true false [] rest).2.1).1⟩)
 else (⟨kd, k, tu, (takeP (usOld kd) true false [] rest).1, (takeP (usNew kd) (takeP (usOld kd) true false [] rest).2.2 true [] (takeP (usOld kd) true false [] rest).2.1).1⟩, 0)
def rdK (kd : Int) (rest s : L8) : Rul × Int :=
 if usTu kd then rdE kd (Lib.cut rest [32]).1 (Lib.cut (Lib.cut rest [32]).2.1 [32]).1 (Lib.cut (Lib.cut rest [32]).2.1 [32]).2.1 s else rdE kd (Lib.cut rest [32]).1 [] (Lib.cut rest [32]).2.1 s
def rdR (s : L8) : Rul × Int :=
 if decide ((s.length : Int) > 4000) then (Rul.z, 4)
 else if decide (idxOf (fun y => (Lib.cut s [32]).1 == y) ruleWs < 1) then (Rul.z, 8)
 else rdK (idxOf (fun y => (Lib.cut s [32]).1 == y) ruleWs) (Lib.cut s [32]).2.1 s
theorem rd_1 {s : L8} (h : decide ((s.length : Int) > 4000) = true) : rdR s = (Rul.z, 4) := if_pos h
theorem ix_word {w : L8} {i : Nat} (h1 : 1 ≤ i) (h2 : i ≤ 8) (h : ruleW (i : Int) = w) : idxOf (fun y => w == y) ruleWs = (i : Int) := by
 subst h
 have : i = 1 ∨ i = 2 ∨ i = 3 ∨ i = 4 ∨ i = 5 ∨ i = 6 ∨ i = 7 ∨ i = 8 := by omega
 unfold ruleW
 rcases this with h | h | h | h | h | h | h | h <;> subst h <;> rfl
theorem ix_none {w : L8} (h : ∀ j : Nat, 1 ≤ j → j < 9 → ruleW (j : Int) ≠ w) : idxOf (fun y => w == y) ruleWs < 1 := by
 have e : ∀ (j : Nat), 1 ≤ j → j < 9 → ∀ x : L8, x = ruleW (j : Int) → (w == x) = false := fun j h1 h2 x hx => by
  have := h j h1 h2
  rw [← hx] at this
  simpa using fun e => this e.symm
 have e1 := e 1 (by decide) (by decide) [114, 101, 110, 97, 109, 101] (by unfold ruleW; rfl)
 have e2 := e 2 (by decide) (by decide) [112, 114, 101, 102, 105, 120] (by unfold ruleW; rfl)
 have e3 := e 3 (by decide) (by decide) [99, 111, 112, 121] (by unfold ruleW; rfl)
 have e4 := e 4 (by decide) (by decide) [115, 101, 116] (by unfold ruleW; rfl)
 have e5 := e 5 (by decide) (by decide) [100, 101, 102, 97, 117, 108, 116] (by unfold ruleW; rfl)
 have e6 := e 6 (by decide) (by decide) [100, 114, 111, 112] (by unfold ruleW; rfl)
 have e7 := e 7 (by decide) (by decide) [109, 97, 112] (by unfold ruleW; rfl)
 have e8 := e 8 (by decide) (by decide) [115, 119, 97, 112] (by unfold ruleW; rfl)
 have hn : idxOf (fun y => w == y) [[114, 101, 110, 97, 109, 101], [112, 114, 101, 102, 105, 120], [99, 111, 112, 121], [115, 101, 116], [100, 101, 102, 97, 117, 108, 116], [100, 114, 111, 112], [109, 97, 112], [115, 119, 97, 112]] = -1 :=
  idxOf_none (by simp only [List.any_cons, List.any_nil, e1, e2, e3, e4, e5, e6, e7, e8, Bool.or_false])
 show (if (w == []) then (0 : Int) else if idxOf (fun y => w == y) _ == -1 then -1 else _) < 1
 rw [hn]
 split <;> decide
theorem rd_hit {s : L8} (h : decide ((s.length : Int) > 4000) = false) {i : Nat} (h1 : 1 ≤ i) (h2 : i ≤ 8) (hw : (!(ruleW (i : Int) == (Lib.cut s [32]).1)) = false) : rdR s = rdK (i : Int) (Lib.cut s [32]).2.1 s := by
 have hw : ruleW (i : Int) = (Lib.cut s [32]).1 := by simpa using hw
 have e := ix_word h1 h2 hw
 unfold rdR
 rw [if_neg (Bool.eq_false_iff.1 h), e, if_neg (by simp; omega)]
theorem rd_none {s : L8} (h : decide ((s.length : Int) > 4000) = false) (hw : ∀ j : Nat, 1 ≤ j → j < 9 → ruleW (j : Int) ≠ (Lib.cut s [32]).1) : rdR s = (Rul.z, 8) := by
 unfold rdR
 rw [if_neg (Bool.eq_false_iff.1 h), if_pos (by simpa using ix_none hw)]
theorem no_more {w : L8} {i : Nat} (h : ∀ j : Nat, 1 ≤ j → j < i → ruleW (j : Int) ≠ w) (c : (!(ruleW (i : Int) == w)) = true) : ∀ j : Nat, 1 ≤ j → j < i + 1 → ruleW (j : Int) ≠ w := fun j h1 h2 => by
  by_cases hj : j < i
  · exact h j h1 hj
  · obtain rfl : j = i := by omega
    simpa using c
theorem pc_ReadRule (s : List UInt8) (hs : s.length ≤ 4000000) :
  PureCall Tryz.prog J 81 [.one (.d (.str s))] (.tup [.agg [.d (.int .i64 (rdR s).1.kd), .d (.str (rdR s).1.k), .d (.str (rdR s).1.tu), .d (.str (rdR s).1.old), .d (.str (rdR s).1.nu)], .one (.d (.int .i64 (rdR s).2))]) := by
 have hq1 := cut_le s [32]
 have hq2 := cut_le (Lib.cut s [32]).2.1 [32]
 have hq3 := cut_le (Lib.cut (Lib.cut s [32]).2.1 [32]).2.1 [32]
 refine PureCall.of_body tOk (fn := Tryz.f81) Tryz.func81 (by kernel_rfl) rfl (Nat.le_of_ble_eq_true rfl) (fun E => ?_)
 iterate 10 first|refine Yp rfl ?_|refine S.alloc tOk rfl rfl rfl rfl ?_|apply Y1|apply Yn|apply Ys
 refine W.cond rfl (fun c1=>?_) fun c1=>?_
 ·skip
  iterate 7 first|refine Yp rfl ?_|apply Yu|apply Yt|refine S.store tOk rfl rfl rfl rfl rfl rfl rfl rfl ?_|apply Y1|apply Yn
  exact Yz rfl rfl rfl (by rw [rd_1 c1]; rfl)
 have hs4 : s.length ≤ 4000 := by simp at c1; omega
 apply Yk
 apply Y3
 refine Yp rfl ?_
 refine S.call rfl rfl rfl rfl rfl (pc_Cut s [32] (by omega)) ?_
 iterate 14 first|refine Yp rfl ?_|apply Yb|refine S.store tOk rfl rfl rfl rfl rfl rfl rfl rfl ?_|refine S.alloc tOk rfl rfl rfl rfl ?_|apply Y1|apply Yn|apply Ys
 refine W.loop (fun k st => ∃ i : Nat, 1 ≤ i ∧ i ≤ 9 ∧ (∀ j : Nat, 1 ≤ j → j < i → ruleW (j : Int) ≠ (Lib.cut s [32]).1) ∧ k = 9 - i ∧ ∃ t b2 r2 m2, st = ⟨t, [[.d (.int .i64 0), .d (.str []), .d (.str []), .d (.str []), .d (.str [])], [.d (.str (Lib.cut s [32]).2.1)]] ++ b2, [] ++ r2, [] ++ m2⟩ ∧ holdsL t [(0, .one (.d (.str s))), (2, .one (.ptr 0 0)), (4, .one (.d (.str (Lib.cut s [32]).1))), (5, .one (.ptr 1 0)), (7, .one (.d (.int .i64 (i : Int))))]) (8) ⟨1, Nat.le_refl _, (by decide), (fun j h1 h2 => absurd h1 (by omega)), rfl, _, _, _, _, rfl, rfl, rfl, rfl, rfl, rfl, trivial⟩ ?_
 rintro k0 _ ⟨i, f0_0, f0_1, f0_2, rfl, t0, bb0, rr0, mm0, rfl, hh0⟩
 refine W.keepR _ _ _ _ _ _ _ hh0 rfl ?_
 apply Ys
 apply Y1
 iterate 2 refine Yp rfl ?_
 apply Yn
 refine W.cond rfl (fun c2=>?_) fun c2=>?_
 ·skip
  have hi : i ≤ 8 := by simp at c2; omega
  apply Yk
  apply Yn
  apply Ys
  apply Yb
  apply Y1
  refine Yp rfl ?_
  refine S.call rfl rfl rfl rfl rfl (pc_ruleWord (i : Int)) ?_
  iterate 16 first|refine Yp rfl ?_|apply Y1|apply Yn|apply Ys
  refine W.cond rfl (fun c3=>?_) fun c3=>?_
  ·skip
   iterate 7 first|refine Yp rfl ?_|apply Yx|apply Ye|apply Yq|apply Y4
   refine loop_n (9 - (i + 1)) (by omega) ⟨i + 1, (by omega), (by omega), no_more f0_2 c3, rfl, _, _, _, _, rfl, rfl, rfl, rfl, rfl, inc_i64 (by omega), trivial⟩
  have hm := rd_hit c1 f0_0 hi c3
  iterate 11 first|refine Yp rfl ?_|refine S.store tOk rfl rfl rfl rfl rfl rfl rfl rfl ?_|refine S.alloc tOk rfl rfl rfl rfl ?_|apply Yk|apply Y3
  refine S.call rfl rfl rfl rfl rfl (pc_Cut (Lib.cut s [32]).2.1 [32] (by omega)) ?_
  iterate 12 first|refine Yp rfl ?_|refine S.store tOk rfl rfl rfl rfl rfl rfl rfl rfl ?_|apply Y1|apply Yn|apply Ys
  refine W.cond rfl (fun c4=>?_) fun c4=>?_
  ·skip
   have hta := tk_le (usOld (i : Int)) true false [] (Lib.cut (Lib.cut (Lib.cut s [32]).2.1 [32]).2.1 [32]).2.1
   have htb := tk_le (usNew (i : Int)) (takeP (usOld (i : Int)) true false [] (Lib.cut (Lib.cut (Lib.cut s [32]).2.1 [32]).2.1 [32]).2.1).2.2 true [] (takeP (usOld (i : Int)) true false [] (Lib.cut (Lib.cut (Lib.cut s [32]).2.1 [32]).2.1 [32]).2.1).2.1
   simp only [List.length_nil, Nat.zero_max] at hta htb
   apply Yr
   refine Yp rfl ?_
   refine S.call rfl rfl rfl rfl rfl (pc_Cut (Lib.cut (Lib.cut s [32]).2.1 [32]).2.1 [32] (by omega)) ?_
   iterate 8 first|refine Yp rfl ?_|refine S.store tOk rfl rfl rfl rfl rfl rfl rfl rfl ?_|apply Y3
   refine S.makeFunc rfl rfl rfl ?_
   iterate 5 first|refine Yp rfl ?_|apply Y3
   refine S.hcallD rfl rfl rfl rfl ((pc_take1 (i : Int) (Lib.cut (Lib.cut s [32]).2.1 [32]).1 (Lib.cut (Lib.cut (Lib.cut s [32]).2.1 [32]).2.1 [32]).1 [] [] (Lib.cut (Lib.cut (Lib.cut s [32]).2.1 [32]).2.1 [32]).2.1 (usOld (i : Int)) true (by omega)).fd [2, 1, 3] [] [] rfl) ?_
   apply Y3
   iterate 3 refine Yp rfl ?_
   refine S.hcallD rfl rfl rfl rfl ((pc_take2 (i : Int) (Lib.cut (Lib.cut s [32]).2.1 [32]).1 (Lib.cut (Lib.cut (Lib.cut s [32]).2.1 [32]).2.1 [32]).1 (takeP (usOld (i : Int)) true false [] (Lib.cut (Lib.cut (Lib.cut s [32]).2.1 [32]).2.1 [32]).2.1).1 [] (takeP (usOld (i : Int)) true false [] (Lib.cut (Lib.cut (Lib.cut s [32]).2.1 [32]).2.1 [32]).2.1).2.1 (usNew (i : Int)) (takeP (usOld (i : Int)) true false [] (Lib.cut (Lib.cut (Lib.cut s [32]).2.1 [32]).2.1 [32]).2.1).2.2 (by omega)).fd [2, 1, 3] [] [] rfl) ?_
   iterate 24 first|refine S.pickOr tOk zOk rfl rfl tg ?_|refine S.pickAndG tOk zOk rfl rfl rfl tg tg ?_|refine Yg rfl rfl tg ?_|refine Yp rfl ?_|apply Y1|apply Ys|apply Yn
   refine S.callG rfl rfl rfl rfl tg rfl rfl (fun _ => pc_RuleText ⟨(i : Int), (Lib.cut (Lib.cut s [32]).2.1 [32]).1, (Lib.cut (Lib.cut (Lib.cut s [32]).2.1 [32]).2.1 [32]).1, (takeP (usOld (i : Int)) true false [] (Lib.cut (Lib.cut (Lib.cut s [32]).2.1 [32]).2.1 [32]).2.1).1, (takeP (usNew (i : Int)) (takeP (usOld (i : Int)) true false [] (Lib.cut (Lib.cut (Lib.cut s [32]).2.1 [32]).2.1 [32]).2.1).2.2 true [] (takeP (usOld (i : Int)) true false [] (Lib.cut (Lib.cut (Lib.cut s [32]).2.1 [32]).2.1 [32]).2.1).2.1).1⟩ ⟨by show (Lib.cut (Lib.cut s [32]).2.1 [32]).1.length ≤ _; omega, by show ((Lib.cut (Lib.cut (Lib.cut s [32]).2.1 [32]).2.1 [32]).1 : L8).length ≤ _; omega, by show (takeP (usOld (i : Int)) true false [] (Lib.cut (Lib.cut (Lib.cut s [32]).2.1 [32]).2.1 [32]).2.1).1.length ≤ _; omega, by show (takeP (usNew (i : Int)) (takeP (usOld (i : Int)) true false [] (Lib.cut (Lib.cut (Lib.cut s [32]).2.1 [32]).2.1 [32]).2.1).2.2 true [] (takeP (usOld (i : Int)) true false [] (Lib.cut (Lib.cut (Lib.cut s [32]).2.1 [32]).2.1 [32]).2.1).2.1).1.length ≤ _; omega⟩) ?_
   iterate 2 refine Yg rfl rfl tg ?_
   refine S.pickOr tOk zOk rfl rfl tg ?_
   apply Yn
   refine W.cond rfl (fun c5=>?_) fun c5=>?_
   ·skip
    iterate 12 first|apply Yu|apply Yv|refine Yp rfl ?_|apply Yt|refine S.store tOk rfl rfl rfl rfl rfl rfl rfl rfl ?_|apply Y1|apply Yn
    exact Yz rfl rfl rfl (congrArg (fun x : Rul × Int => V.tup [V.agg [.d (.int .i64 x.1.kd), .d (.str x.1.k), .d (.str x.1.tu), .d (.str x.1.old), .d (.str x.1.nu)], V.one (C.d (D.int .i64 x.2))]) (hm.trans ((if_pos c4).trans (if_pos c5)))).symm
   apply Yk
   apply Yn
   apply Ys
   apply Y1
   refine Yp rfl ?_
   refine S.call rfl rfl rfl rfl rfl (pc_RuleError ⟨(i : Int), (Lib.cut (Lib.cut s [32]).2.1 [32]).1, (Lib.cut (Lib.cut (Lib.cut s [32]).2.1 [32]).2.1 [32]).1, (takeP (usOld (i : Int)) true false [] (Lib.cut (Lib.cut (Lib.cut s [32]).2.1 [32]).2.1 [32]).2.1).1, (takeP (usNew (i : Int)) (takeP (usOld (i : Int)) true false [] (Lib.cut (Lib.cut (Lib.cut s [32]).2.1 [32]).2.1 [32]).2.1).2.2 true [] (takeP (usOld (i : Int)) true false [] (Lib.cut (Lib.cut (Lib.cut s [32]).2.1 [32]).2.1 [32]).2.1).2.1).1⟩ ⟨by show (Lib.cut (Lib.cut s [32]).2.1 [32]).1.length ≤ _; omega, by show ((Lib.cut (Lib.cut (Lib.cut s [32]).2.1 [32]).2.1 [32]).1 : L8).length ≤ _; omega, by show (takeP (usOld (i : Int)) true false [] (Lib.cut (Lib.cut (Lib.cut s [32]).2.1 [32]).2.1 [32]).2.1).1.length ≤ _; omega, by show (takeP (usNew (i : Int)) (takeP (usOld (i : Int)) true false [] (Lib.cut (Lib.cut (Lib.cut s [32]).2.1 [32]).2.1 [32]).2.1).2.2 true [] (takeP (usOld (i : Int)) true false [] (Lib.cut (Lib.cut (Lib.cut s [32]).2.1 [32]).2.1 [32]).2.1).2.1).1.length ≤ _; omega⟩) ?_
   iterate 5 first|refine Yp rfl ?_|apply Y3|apply Yn
   refine W.cond rfl (fun c6=>?_) fun c6=>?_
   ·skip
    iterate 13 first|apply Yu|refine Yp rfl ?_|apply Yv|apply Yt|refine S.store tOk rfl rfl rfl rfl rfl rfl rfl rfl ?_|apply Y1|apply Yn
    exact Yz rfl rfl rfl (congrArg (fun x : Rul × Int => V.tup [V.agg [.d (.int .i64 x.1.kd), .d (.str x.1.k), .d (.str x.1.tu), .d (.str x.1.old), .d (.str x.1.nu)], V.one (C.d (D.int .i64 x.2))]) (hm.trans ((if_pos c4).trans ((if_neg (Bool.eq_false_iff.1 c5)).trans (if_pos c6))))).symm
   iterate 12 first|apply Yu|apply Yv|refine Yp rfl ?_|apply Yt|refine S.store tOk rfl rfl rfl rfl rfl rfl rfl rfl ?_|apply Yk|apply Y3|apply Yn
   exact Yz rfl rfl rfl (congrArg (fun x : Rul × Int => V.tup [V.agg [.d (.int .i64 x.1.kd), .d (.str x.1.k), .d (.str x.1.tu), .d (.str x.1.old), .d (.str x.1.nu)], V.one (C.d (D.int .i64 x.2))]) (hm.trans ((if_pos c4).trans ((if_neg (Bool.eq_false_iff.1 c5)).trans (if_neg (Bool.eq_false_iff.1 c6)))))).symm
  have hta := tk_le (usOld (i : Int)) true false [] (Lib.cut (Lib.cut s [32]).2.1 [32]).2.1
  have htb := tk_le (usNew (i : Int)) (takeP (usOld (i : Int)) true false [] (Lib.cut (Lib.cut s [32]).2.1 [32]).2.1).2.2 true [] (takeP (usOld (i : Int)) true false [] (Lib.cut (Lib.cut s [32]).2.1 [32]).2.1).2.1
  simp only [List.length_nil, Nat.zero_max] at hta htb
  apply Yk
  apply Y3
  refine S.makeFunc rfl rfl rfl ?_
  iterate 5 first|refine Yp rfl ?_|apply Y3
  refine S.hcallD rfl rfl rfl rfl ((pc_take1 (i : Int) (Lib.cut (Lib.cut s [32]).2.1 [32]).1 [] [] [] (Lib.cut (Lib.cut s [32]).2.1 [32]).2.1 (usOld (i : Int)) true (by omega)).fd [2, 1, 3] [] [] rfl) ?_
  apply Y3
  iterate 3 refine Yp rfl ?_
  refine S.hcallD rfl rfl rfl rfl ((pc_take2 (i : Int) (Lib.cut (Lib.cut s [32]).2.1 [32]).1 [] (takeP (usOld (i : Int)) true false [] (Lib.cut (Lib.cut s [32]).2.1 [32]).2.1).1 [] (takeP (usOld (i : Int)) true false [] (Lib.cut (Lib.cut s [32]).2.1 [32]).2.1).2.1 (usNew (i : Int)) (takeP (usOld (i : Int)) true false [] (Lib.cut (Lib.cut s [32]).2.1 [32]).2.1).2.2 (by omega)).fd [2, 1, 3] [] [] rfl) ?_
  iterate 24 first|refine S.pickOr tOk zOk rfl rfl tg ?_|refine S.pickAndG tOk zOk rfl rfl rfl tg tg ?_|refine Yg rfl rfl tg ?_|refine Yp rfl ?_|apply Y1|apply Ys|apply Yn
  refine S.callG rfl rfl rfl rfl tg rfl rfl (fun _ => pc_RuleText ⟨(i : Int), (Lib.cut (Lib.cut s [32]).2.1 [32]).1, [], (takeP (usOld (i : Int)) true false [] (Lib.cut (Lib.cut s [32]).2.1 [32]).2.1).1, (takeP (usNew (i : Int)) (takeP (usOld (i : Int)) true false [] (Lib.cut (Lib.cut s [32]).2.1 [32]).2.1).2.2 true [] (takeP (usOld (i : Int)) true false [] (Lib.cut (Lib.cut s [32]).2.1 [32]).2.1).2.1).1⟩ ⟨by show (Lib.cut (Lib.cut s [32]).2.1 [32]).1.length ≤ _; omega, by show ([] : L8).length ≤ _; exact Nat.zero_le _, by show (takeP (usOld (i : Int)) true false [] (Lib.cut (Lib.cut s [32]).2.1 [32]).2.1).1.length ≤ _; omega, by show (takeP (usNew (i : Int)) (takeP (usOld (i : Int)) true false [] (Lib.cut (Lib.cut s [32]).2.1 [32]).2.1).2.2 true [] (takeP (usOld (i : Int)) true false [] (Lib.cut (Lib.cut s [32]).2.1 [32]).2.1).2.1).1.length ≤ _; omega⟩) ?_
  iterate 2 refine Yg rfl rfl tg ?_
  refine S.pickOr tOk zOk rfl rfl tg ?_
  apply Yn
  refine W.cond rfl (fun c7=>?_) fun c7=>?_
  ·skip
   iterate 12 first|apply Yu|apply Yv|refine Yp rfl ?_|apply Yt|refine S.store tOk rfl rfl rfl rfl rfl rfl rfl rfl ?_|apply Y1|apply Yn
   exact Yz rfl rfl rfl (congrArg (fun x : Rul × Int => V.tup [V.agg [.d (.int .i64 x.1.kd), .d (.str x.1.k), .d (.str x.1.tu), .d (.str x.1.old), .d (.str x.1.nu)], V.one (C.d (D.int .i64 x.2))]) (hm.trans ((if_neg (Bool.eq_false_iff.1 c4)).trans (if_pos c7)))).symm
  apply Yk
  apply Yn
  apply Ys
  apply Y1
  refine Yp rfl ?_
  refine S.call rfl rfl rfl rfl rfl (pc_RuleError ⟨(i : Int), (Lib.cut (Lib.cut s [32]).2.1 [32]).1, [], (takeP (usOld (i : Int)) true false [] (Lib.cut (Lib.cut s [32]).2.1 [32]).2.1).1, (takeP (usNew (i : Int)) (takeP (usOld (i : Int)) true false [] (Lib.cut (Lib.cut s [32]).2.1 [32]).2.1).2.2 true [] (takeP (usOld (i : Int)) true false [] (Lib.cut (Lib.cut s [32]).2.1 [32]).2.1).2.1).1⟩ ⟨by show (Lib.cut (Lib.cut s [32]).2.1 [32]).1.length ≤ _; omega, by show ([] : L8).length ≤ _; exact Nat.zero_le _, by show (takeP (usOld (i : Int)) true false [] (Lib.cut (Lib.cut s [32]).2.1 [32]).2.1).1.length ≤ _; omega, by show (takeP (usNew (i : Int)) (takeP (usOld (i : Int)) true false [] (Lib.cut (Lib.cut s [32]).2.1 [32]).2.1).2.2 true [] (takeP (usOld (i : Int)) true false [] (Lib.cut (Lib.cut s [32]).2.1 [32]).2.1).2.1).1.length ≤ _; omega⟩) ?_
  iterate 5 first|refine Yp rfl ?_|apply Y3|apply Yn
  refine W.cond rfl (fun c8=>?_) fun c8=>?_
  ·skip
   iterate 13 first|apply Yu|refine Yp rfl ?_|apply Yv|apply Yt|refine S.store tOk rfl rfl rfl rfl rfl rfl rfl rfl ?_|apply Y1|apply Yn
   exact Yz rfl rfl rfl (congrArg (fun x : Rul × Int => V.tup [V.agg [.d (.int .i64 x.1.kd), .d (.str x.1.k), .d (.str x.1.tu), .d (.str x.1.old), .d (.str x.1.nu)], V.one (C.d (D.int .i64 x.2))]) (hm.trans ((if_neg (Bool.eq_false_iff.1 c4)).trans ((if_neg (Bool.eq_false_iff.1 c7)).trans (if_pos c8))))).symm
  iterate 12 first|apply Yu|apply Yv|refine Yp rfl ?_|apply Yt|refine S.store tOk rfl rfl rfl rfl rfl rfl rfl rfl ?_|apply Yk|apply Y3|apply Yn
  exact Yz rfl rfl rfl (congrArg (fun x : Rul × Int => V.tup [V.agg [.d (.int .i64 x.1.kd), .d (.str x.1.k), .d (.str x.1.tu), .d (.str x.1.old), .d (.str x.1.nu)], V.one (C.d (D.int .i64 x.2))]) (hm.trans ((if_neg (Bool.eq_false_iff.1 c4)).trans ((if_neg (Bool.eq_false_iff.1 c7)).trans (if_neg (Bool.eq_false_iff.1 c8)))))).symm
 have hi : 9 ≤ i := by simp at c2; omega
 obtain rfl : i = 9 := by omega
 iterate 9 first|refine Yp rfl ?_|apply Ye|refine S.store tOk rfl rfl rfl rfl rfl rfl rfl rfl ?_|apply Yx|apply Yq|apply Y3|apply Yn
 apply Yt
 exact Yz rfl rfl rfl (by rw [rd_none c1 f0_2]; rfl)
end
section
open Go
open Go.RowKit
attribute [local irreducible] thenK blockK W
attribute [local irreducible] rangeE orderB compareR Lib.split
end
section
open Go
open Go.RowKit
attribute [local irreducible] thenK blockK W
attribute [local irreducible] rangeE orderB compareR Lib.split hasB
end
section
open Go
open Go.RowKit
attribute [local irreducible] thenK blockK W
attribute [local irreducible] rangeE orderB compareR Lib.split
theorem pc_outref2_Inside (s : Sp) (v : Ver) (h1 : s.f.e.length < 4294967281) (h2 : s.t.e.length < 4294967281) (hv : v.e.length < 4294967281) :
  PureCall Tryz.prog J 142 [spV s, verV v] (.one (.d (.bool (insideR s v)))) := by
 refine PureCall.of_body tOk (fn := Tryz.f142) Tryz.func142 (by kernel_rfl) rfl (Nat.le_of_ble_eq_true rfl) (fun E => ?_)
 iterate 11 first|refine Yp rfl ?_|refine Yg rfl rfl tg ?_|refine S.box rfl rfl rfl rfl ?_|apply Y3|apply Y1
 refine S.callG rfl rfl rfl rfl tg rfl rfl (fun _ => pc_outref2_CompareOf v s.f hv h1) ?_
 iterate 10 first|refine S.pickAnd tOk zOk rfl rfl tg ?_|refine Yg rfl rfl tg ?_|refine Yp rfl ?_
 refine S.callG rfl rfl rfl rfl tg rfl rfl (fun _ => pc_outref2_CompareOf v s.t hv h2) ?_
 iterate 7 first|refine S.pickAnd tOk zOk rfl rfl tg ?_|refine S.pickAndG tOk zOk rfl rfl rfl tg tg ?_|refine Yg rfl rfl tg ?_|apply Yt|refine Yp rfl ?_|apply Yn
 exact ⟨_, rfl, rfl, LeV.refl _⟩
theorem pc_near (h : Bool) (e v : Ver) :
  HCall Tryz.prog J 139 ([.one (.d (.bool h)), verV e, .one (.ptr 0 0)]) ([[.d (.int .i64 v.a), .d (.int .i64 v.b), .d (.int .i64 v.c), .d (.str v.e)]]) ([]) ([]) (isH (.one (.d (.bool (namesB h e v)))) ([[.d (.int .i64 v.a), .d (.int .i64 v.b), .d (.int .i64 v.c), .d (.str v.e)]]) ([]) ([])) := by
 refine HCall.ofD tOk ⟨1, 0, 0⟩ (fn := Tryz.f139) Tryz.func139 (by kernel_rfl) rfl (Nat.le_of_ble_eq_true rfl) (fun E => ?_)
 iterate 34 first|refine S.pickAnd tOk zOk rfl rfl tg ?_|refine Yg rfl rfl tg ?_|refine Yp rfl ?_|apply Yt|refine S.box rfl rfl rfl rfl ?_|apply Y3|apply Y1|apply Yn
 exact ⟨_, rfl, rfl, LeG.refl _, rfl, rfl, rfl⟩
theorem pc_hasAt (s : Sp) (v : Ver) (al : Bool) (h1 : s.f.e.length < 4294967281) (h2 : s.t.e.length < 4294967281) (hv : v.e.length < 4294967281) :
  HCall Tryz.prog J 141 ([spV s, .one (.ptr 0 0), .one (.ptr 1 0), .one (.ptr 2 0)]) ([[.d (.int .i64 v.a), .d (.int .i64 v.b), .d (.int .i64 v.c), .d (.str v.e)], [.d (.bool al)], [.clo 139 [.ptr 0 0]]]) ([]) ([]) (isH (.one (.d (.bool (hasAtR al v s)))) ([[.d (.int .i64 v.a), .d (.int .i64 v.b), .d (.int .i64 v.c), .d (.str v.e)], [.d (.bool al)], [.clo 139 [.ptr 0 0]]]) ([]) ([])) := by
 refine HCall.ofD tOk ⟨3, 0, 0⟩ (fn := Tryz.f141) Tryz.func141 (by kernel_rfl) rfl (Nat.le_of_ble_eq_true rfl) (fun E => ?_)
 iterate 6 first|refine Yp rfl ?_|refine S.box rfl rfl rfl rfl ?_|apply Y3|apply Y1
 refine S.call rfl rfl rfl rfl rfl (pc_outref2_Inside s v h1 h2 hv) ?_
 refine Yp rfl ?_
 iterate 5 refine Yg rfl rfl tg ?_
 refine S.pickOrG tOk zOk rfl rfl rfl tg tg ?_
 iterate 6 refine Yg rfl rfl tg ?_
 refine S.hcallG rfl rfl rfl rfl tg rfl (fun _ => (pc_near s.hf s.f v).fd [0] [] [] rfl) ?_
 refine S.pickOrG tOk zOk rfl rfl rfl tg tg ?_
 iterate 6 refine Yg rfl rfl tg ?_
 refine S.hcallG rfl rfl rfl rfl tg rfl (fun _ => (pc_near s.ht s.t v).fd [0] [] [] rfl) ?_
 refine S.pickOrG tOk zOk rfl rfl rfl tg tg ?_
 refine S.pickAnd tOk zOk rfl rfl tg ?_
 refine Yp rfl ?_
 apply Yn
 apply Yt
 exact ⟨_, rfl, rfl, LeG.refl _, rfl, rfl, rfl⟩
theorem mem_at {α : Type} {l : List α} {i : Nat} {d : α} (h : i < l.length) : l.getD i d ∈ l := by
 rw [List.getD_eq_getElem?_getD, List.getElem?_eq_getElem h]; exact List.getElem_mem h
theorem pc_IndexFunc_Span (f : Nat) (caps : List C) (b : List (List C)) (r : List (Option RowO)) (m : List (List (DV × DV))) (φ : Sp → Bool) (ss : List Sp) (hl : ss.length ≤ 1000000000) (hc : ∀ s ∈ ss, HCall Tryz.prog J f (spV s :: caps.map V.one) b r m (isH (.one (.d (.bool (φ s)))) b r m)) :
  HCall Tryz.prog J 201 ([.one (.d (.vec 10 (ss.map spD))), .one (.clo f caps)]) (b) (r) (m) (isH (.one (.d (.int .i64 (idxOf φ ss)))) (b) (r) (m)) := by
 refine HCall.ofN tOk (fn := Tryz.f201) Tryz.func201 (by kernel_rfl) rfl (Nat.le_of_ble_eq_true rfl) (fun E => ?_)
 iterate 9 first|refine Yp rfl ?_|apply Y1|apply Yn|apply Ys
 apply Yb
 refine W.loop (fun k st => ∃ i : Nat, i ≤ ss.length ∧ (ss.take i).any φ = false ∧ k = ss.length - i ∧ ∃ t, st = ⟨t, b, r, m⟩ ∧ holdsL t [(0, .one (.d (.vec 10 (ss.map spD)))), (1, .one (.clo f caps)), (6, .one (.d (.vec 10 (ss.map spD)))), (7, .one (.d (.int .i64 ((ss.map spD).length : Int)))), (8, .one (.d (.int .i64 (i : Int))))]) (ss.length) ⟨0, Nat.zero_le _, by simp, rfl, _, rfl, rfl, rfl, rfl, rfl, rfl, trivial⟩ ?_
 rintro k0 _ ⟨i, f0_0, f0_1, rfl, t0, rfl, hh0⟩
 refine W.keep _ hh0 ?_
 apply Y1
 refine Yp rfl ?_
 apply Yn
 apply Ys
 refine W.cond rfl (fun c1=>?_) fun c1=>?_
 ·skip
  have hi := row_lt c1
  iterate 11 first|refine Yp rfl ?_|apply Yb|apply Yk|apply Y3|apply Y1|apply Ys|apply Yn
  refine YE rfl (row_ok hi) (row_at Sp.z hi) rfl ?_
  refine Yp rfl ?_
  refine S.hcallU rfl rfl rfl (hc (ss.getD i Sp.z) (mem_at hi)) ?_
  apply Yn
  refine W.cond rfl (fun c2=>?_) fun c2=>?_
  ·skip
   iterate 10 first|apply Yu|apply Yv|refine Yp rfl ?_|apply Yt|apply Y1|apply Yn
   exact ⟨_, rfl, LeG.of_eq (congrArg (fun x => V.one (C.d (D.int .i64 x))) (idxOf_at (d := Sp.z) hi f0_1 c2).symm), rfl, rfl, rfl⟩
  apply Yk
  apply Yw
  apply Y4
  iterate 2 refine Yp rfl ?_
  refine loop_n (ss.length - (i + 1)) (by omega) ⟨i + 1, hi, any_take (d := Sp.z) hi f0_1 c2, rfl, _, rfl, rfl, rfl, rfl, rfl, inc_i64 (by omega), trivial⟩
 have hi := row_ge c1
 apply Yq
 apply Ye
 apply Ye
 apply Yx
 apply Y3
 refine Yp rfl ?_
 apply Yn
 apply Yt
 exact ⟨_, rfl, LeG.of_eq (congrArg (fun x => V.one (C.d (D.int .i64 x))) (idxOf_none (any_end hi f0_1)).symm), rfl, rfl, rfl⟩
theorem pc_ContainsFunc_Span (f : Nat) (caps : List C) (b : List (List C)) (r : List (Option RowO)) (m : List (List (DV × DV))) (φ : Sp → Bool) (ss : List Sp) (hl : ss.length ≤ 1000000000) (hc : ∀ s ∈ ss, HCall Tryz.prog J f (spV s :: caps.map V.one) b r m (isH (.one (.d (.bool (φ s)))) b r m)) :
  HCall Tryz.prog J 140 ([.one (.d (.vec 10 (ss.map spD))), .one (.clo f caps)]) (b) (r) (m) (isH (.one (.d (.bool (ss.any φ)))) (b) (r) (m)) := by
 refine HCall.ofN tOk (fn := Tryz.f140) Tryz.func140 (by kernel_rfl) rfl (Nat.le_of_ble_eq_true rfl) (fun E => ?_)
 iterate 5 first|refine Yp rfl ?_|apply Y3|apply Y1
 refine S.hcallD rfl rfl rfl rfl (pc_IndexFunc_Span f caps b r m φ ss hl hc) ?_
 iterate 2 refine Yp rfl ?_
 apply Yn
 apply Yt
 exact ⟨_, rfl, LeG.of_eq (congrArg (fun x => V.one (C.d (D.bool x))) idxOf_ge), rfl, rfl, rfl⟩
theorem zero_ok {x : Sp} {l : List Sp} : (decide (0 ≤ (0 : Int)) && decide ((0 : Int) < (((x :: l).map spD).length : Int))) = true := by simp
theorem pc_HasOf_nil (hl : ([] : List Sp).length ≤ 1000000000) (hs : ∀ s ∈ ([] : List Sp), SpLen s) (v : Ver) (hv : v.e.length < 4294967281) :
  PureCall Tryz.prog J 85 [rgV ([] : List Sp), verV v] (.one (.d (.bool (([] : List Sp).any (hasAtR false v))))) := by
 refine PureCall.of_body tOk (fn := Tryz.f85) Tryz.func85 (by kernel_rfl) rfl (Nat.le_of_ble_eq_true rfl) (fun E => ?_)
 apply Y1
 iterate 2 refine S.box rfl rfl rfl rfl ?_
 refine Yp rfl ?_
 apply Y3
 refine S.makeFunc rfl rfl rfl ?_
 refine S.alloc tOk rfl rfl rfl rfl ?_
 iterate 9 first|refine Yp rfl ?_|refine Yg rfl rfl tg ?_|refine S.store tOk rfl rfl rfl rfl rfl rfl rfl rfl ?_|apply Y3
 refine S.deadG rfl (.one (.eptr (spD Sp.z))) ?_
 iterate 7 first|refine S.pickAnd tOk zOk rfl rfl tg ?_|refine Yg rfl rfl tg ?_|refine Yp rfl ?_
 refine S.deadG rfl (.one (.eptr (spD Sp.z))) ?_
 iterate 9 first|refine S.pickAnd tOk zOk rfl rfl tg ?_|refine Yg rfl rfl tg ?_|refine Yp rfl ?_|refine S.store tOk rfl rfl rfl rfl rfl rfl rfl rfl ?_|refine S.alloc tOk rfl rfl rfl rfl ?_|apply Y3
 refine S.makeFunc rfl rfl rfl ?_
 refine S.hcallD rfl rfl rfl rfl (pc_ContainsFunc_Span 141 [.ptr 1 0, .ptr 3 0, .ptr 2 0] _ _ _ (hasAtR false v) ([] : List Sp) hl (fun s hs' => (pc_hasAt s v false (hs s hs').1 (hs s hs').2 hv).fd [1, 3, 2] [] [] rfl)) ?_
 refine Yp rfl ?_
 apply Yn
 apply Yt
 exact ⟨_, rfl, rfl, LeV.refl _⟩
theorem pc_HasOf_cons (x : Sp) (l : List Sp) (hl : (x :: l).length ≤ 1000000000) (hs : ∀ s ∈ x :: l, SpLen s) (v : Ver) (hv : v.e.length < 4294967281) :
  PureCall Tryz.prog J 85 [rgV (x :: l), verV v] (.one (.d (.bool ((x :: l).any (hasAtR ((((((x :: l).map spD).length : Int) == 1 && !x.hf) && !x.ht)) v))))) := by
 refine PureCall.of_body tOk (fn := Tryz.f85) Tryz.func85 (by kernel_rfl) rfl (Nat.le_of_ble_eq_true rfl) (fun E => ?_)
 apply Y1
 iterate 2 refine S.box rfl rfl rfl rfl ?_
 refine Yp rfl ?_
 apply Y3
 refine S.makeFunc rfl rfl rfl ?_
 refine S.alloc tOk rfl rfl rfl rfl ?_
 iterate 9 first|refine Yp rfl ?_|refine Yg rfl rfl tg ?_|refine S.store tOk rfl rfl rfl rfl rfl rfl rfl rfl ?_|apply Y3
 refine YG rfl rfl tg (fun h => zero_ok) rfl ?_
 iterate 7 first|refine S.pickAnd tOk zOk rfl rfl tg ?_|refine Yg rfl rfl tg ?_|refine Yp rfl ?_
 refine YG rfl rfl tg (fun h => zero_ok) rfl ?_
 iterate 9 first|refine S.pickAnd tOk zOk rfl rfl tg ?_|refine Yg rfl rfl tg ?_|refine Yp rfl ?_|refine S.store tOk rfl rfl rfl rfl rfl rfl rfl rfl ?_|refine S.alloc tOk rfl rfl rfl rfl ?_|apply Y3
 refine S.makeFunc rfl rfl rfl ?_
 refine S.hcallD rfl rfl rfl rfl (pc_ContainsFunc_Span 141 [.ptr 1 0, .ptr 3 0, .ptr 2 0] _ _ _ (hasAtR ((((((x :: l).map spD).length : Int) == 1 && !x.hf) && !x.ht)) v) (x :: l) hl (fun s hs' => (pc_hasAt s v ((((((x :: l).map spD).length : Int) == 1 && !x.hf) && !x.ht)) (hs s hs').1 (hs s hs').2 hv).fd [1, 3, 2] [] [] rfl)) ?_
 refine Yp rfl ?_
 apply Yn
 apply Yt
 exact ⟨_, rfl, rfl, LeV.refl _⟩
theorem pc_outref2_HasOf (ss : List Sp) (hl : ss.length ≤ 1000000000) (hs : ∀ s ∈ ss, SpLen s) (v : Ver) (hv : v.e.length < 4294967281) : PureCall Tryz.prog J 85 [rgV ss, verV v] (.one (.d (.bool (hasR ss v)))) := by
 cases ss with
 | nil => exact pc_HasOf_nil hl hs v hv
 | cons x l =>
  have h := pc_HasOf_cons x l hl hs v hv
  rw [List.length_map] at h
  exact h
end
section
open Go
theorem snocInd {α : Type} {p : List α → Prop} (h0 : p []) (hs : ∀ l x, p l → p (l ++ [x])) (l : List α) : p l := by
 have h : ∀ m : List α, p m.reverse := fun m => by
  induction m with
  | nil => exact h0
  | cons x m ih => rw [List.reverse_cons]; exact hs _ _ ih
 have := h l.reverse
 rwa [List.reverse_reverse] at this
def Wlk (l : List Mv) : Ver → List Nat → Prop
 | v, [] => True
 | v, k :: ks => k < l.length ∧ hasM (l.getD k Mv.z) v = true ∧ Wlk l (l.getD k Mv.z).t ks
theorem wlk_snoc {l : List Mv} {k : Nat} : ∀ {v : Ver} {ks : List Nat}, Wlk l v (ks ++ [k]) ↔ Wlk l v ks ∧ k < l.length ∧ hasM (l.getD k Mv.z) (wEnd l v ks) = true
  | v, [] => by simp [Wlk, wEnd]
  | v, j :: ks => by
    simp only [List.cons_append, Wlk, wEnd]
    rw [wlk_snoc (v := (l.getD j Mv.z).t) (ks := ks)]
    constructor
    · rintro ⟨a, b, c, d, e⟩; exact ⟨⟨a, b, c⟩, d, e⟩
    · rintro ⟨⟨a, b, c⟩, d, e⟩; exact ⟨a, b, c, d, e⟩
theorem wEnd_snoc {l : List Mv} {k : Nat} : ∀ {v : Ver} {ks : List Nat}, wEnd l v (ks ++ [k]) = (l.getD k Mv.z).t
 | v, [] => rfl
 | v, j :: ks => wEnd_snoc (v := (l.getD j Mv.z).t) (ks := ks)
def encG (a : Nat) : List Nat → Nat
 | [] => a
 | k :: ks => encG (a * 1000 + (k + 1)) ks
def encN (ks : List Nat) : Nat := encG 0 ks
theorem encG_snoc (k : Nat) : ∀ (ks : List Nat) (a : Nat), encG a (ks ++ [k]) = encG a ks * 1000 + (k + 1)
 | [], _ => rfl
 | j :: ks, a => encG_snoc k ks _
theorem enc_snoc (ks : List Nat) (k : Nat) : encN (ks ++ [k]) = encN ks * 1000 + (k + 1) := encG_snoc k ks 0
theorem enc_nil : encN [] = 0 := rfl
def dig (ks : List Nat) : Prop := ∀ k ∈ ks, k < 900
theorem wlk_dig {l : List Mv} (hl : l.length ≤ 900) : ∀ {v : Ver} {ks : List Nat}, Wlk l v ks → dig ks
  | v, [], _ => fun k hk => by cases hk
  | v, j :: ks, h => fun k hk => by
    rcases List.mem_cons.1 hk with rfl | hk
    · have := h.1; omega
    · exact wlk_dig hl h.2.2 k hk
theorem dig_snoc {ks : List Nat} {k : Nat} : dig (ks ++ [k]) ↔ dig ks ∧ k < 900 := by
 unfold dig
 constructor
 ·skip
  intro h; exact ⟨fun j hj => h j (by simp [hj]), h k (by simp)⟩
 ·skip
  rintro ⟨h1, h2⟩ j hj
  rcases List.mem_append.1 hj with hj | hj
  ·skip
   exact h1 j hj
  ·skip
   obtain rfl := List.mem_singleton.1 hj; exact h2
theorem enc_inj : ∀ (x y : List Nat), dig x → dig y → encN x = encN y → x = y := fun x => by
 induction x using snocInd with
 | h0 =>
  intro y _ _ h
  induction y using snocInd with
  | h0 => rfl
  | hs y j _ => rw [enc_snoc, enc_nil] at h; omega
 | hs x i ih =>
  intro y hx hy h
  induction y using snocInd with
  | h0 => rw [enc_snoc, enc_nil] at h; omega
  | hs y j _ =>
   rw [enc_snoc, enc_snoc] at h
   have h1 := dig_snoc.1 hx
   have h2 := dig_snoc.1 hy
   have h3 : i = j := by omega
   rw [ih y h1.1 h2.1 (by omega), h3]
theorem enc_len : ∀ (x y : List Nat), dig x → dig y → x.length < y.length → encN x < encN y := fun x => by
 induction x using snocInd with
 | h0 =>
  intro y _ _ h
  induction y using snocInd with
  | h0 => simp at h
  | hs y j _ => rw [enc_snoc, enc_nil]; omega
 | hs x i ih =>
  intro y hx hy h
  induction y using snocInd with
  | h0 => simp at h
  | hs y j _ =>
   have h1 := dig_snoc.1 hx
   have h2 := dig_snoc.1 hy
   have := ih y h1.1 h2.1 (by simpa using h)
   rw [enc_snoc, enc_snoc]; omega
def cmpN : List Nat → List Nat → Int
 | [], [] => 0
 | [], _ :: _ => -1
 | _ :: _, [] => 1
 | a :: x, b :: y => if a < b then -1 else if b < a then 1 else cmpN x y
theorem cmp_pre (a b : Nat) : ∀ (x y : List Nat), dig x → dig y → x.length = y.length → a < b → encG a x < encG b y := fun x => by
 induction x using snocInd with
 | h0 =>
  intro y _ _ h hab
  obtain rfl : y = [] := by simpa using h.symm
  exact hab
 | hs x i ih =>
  intro y hx hy h hab
  induction y using snocInd with
  | h0 => simp at h
  | hs y j _ =>
   have h1 := dig_snoc.1 hx
   have h2 := dig_snoc.1 hy
   have := ih y h1.1 h2.1 (by simpa using h) hab
   rw [encG_snoc, encG_snoc]; omega
theorem cmp_encG : ∀ (x y : List Nat) (a : Nat), dig x → dig y → x.length = y.length → (cmpN x y < 0 ↔ encG a x < encG a y)
  | [], [], a, _, _, _ => by simp [cmpN, encG]
  | [], _ :: _, _, _, _, h => by simp at h
  | _ :: _, [], _, _, _, h => by simp at h
  | i :: x, j :: y, a, hx, hy, h => by
    have hx' : dig x := fun k hk => hx k (by simp [hk])
    have hy' : dig y := fun k hk => hy k (by simp [hk])
    have hi := hx i (by simp)
    have hj := hy j (by simp)
    have hl : x.length = y.length := by simpa using h
    show (if i < j then -1 else if j < i then 1 else cmpN x y) < 0 ↔ encG (a * 1000 + (i + 1)) x < encG (a * 1000 + (j + 1)) y
    by_cases h1 : i < j
    · rw [if_pos h1]
      have := cmp_pre (a * 1000 + (i + 1)) (a * 1000 + (j + 1)) x y hx' hy' hl (by omega)
      constructor
      · intro _; exact this
      · intro _; decide
    · rw [if_neg h1]
      by_cases h2 : j < i
      · rw [if_pos h2]
        have := cmp_pre (a * 1000 + (j + 1)) (a * 1000 + (i + 1)) y x hy' hx' hl.symm (by omega)
        constructor
        · intro h; exact absurd h (by decide)
        · intro h; omega
      · rw [if_neg h2]
        obtain rfl : i = j := by omega
        exact cmp_encG x y _ hx' hy' hl
theorem cmp_enc {x y : List Nat} (hx : dig x) (hy : dig y) (h : x.length = y.length) : cmpN x y < 0 ↔ encN x < encN y := cmp_encG x y 0 hx hy h
attribute [local irreducible] encN encG
structure MinW (l : List Mv) (v w : Ver) (ks : List Nat) : Prop where
 wk : Wlk l v ks
 en : wEnd l v ks = w
 mn : ∀ ks', Wlk l v ks' → wEnd l v ks' = w → encN ks ≤ encN ks'
theorem MinW.uniq {l : List Mv} {v w : Ver} {x y : List Nat} (hl : l.length ≤ 900) (hx : MinW l v w x) (hy : MinW l v w y) : x = y :=
 enc_inj x y (wlk_dig hl hx.wk) (wlk_dig hl hy.wk) (Nat.le_antisymm (hx.mn y hy.wk hy.en) (hy.mn x hx.wk hx.en))
theorem eA {a b c i : Nat} (h : a ≤ b * 1000 + i) (h2 : b ≤ c) : a ≤ c * 1000 + i := by omega
theorem eB {a b c n : Nat} (h : a < b * 1000 + (n + 1)) (hl : n ≤ 900) (h2 : b < c) : a < c * 1000 + 1 := by omega
structure BI (l : List Mv) (v w : Ver) (D q : List Stp) (seen : Seen) : Prop where
 srt : (D ++ q).Pairwise (fun a b => encN a.2 < encN b.2)
 wk : ∀ s ∈ D ++ q, Wlk l v s.2 ∧ wEnd l v s.2 = s.1
 se : ∀ x, getL beqV false seen x = true ↔ ∃ s ∈ D ++ q, s.1 = x
 cl : ∀ s ∈ D, ∀ i, i < l.length → hasM (l.getD i Mv.z) s.1 = true → ∃ s' ∈ D ++ q, s'.1 = (l.getD i Mv.z).t ∧ encN s'.2 ≤ encN s.2 * 1000 + (i + 1)
 st : ∃ s ∈ D ++ q, s.1 = v ∧ encN s.2 = 0
 hd : ∀ a q', q = a :: q' → ∀ s ∈ D ++ q, encN s.2 < encN a.2 * 1000 + 1
 nt : ∀ s ∈ D, s.1 ≠ w
 ln : ∀ s ∈ D ++ q, s.2.length < seen.length
theorem BI.reach {l : List Mv} {v w : Ver} {D q : List Stp} {seen : Seen} (h : BI l v w D q seen) (ks : List Nat) : Wlk l v ks →
    (∃ s ∈ D, s.1 = wEnd l v ks ∧ encN s.2 ≤ encN ks) ∨ (∃ s ∈ q, encN s.2 ≤ encN ks) := by
  induction ks using snocInd with
  | h0 =>
    intro _
    obtain ⟨s, hs, h1, h2⟩ := h.st
    rcases List.mem_append.1 hs with hs | hs
    · exact .inl ⟨s, hs, h1, by omega⟩
    · exact .inr ⟨s, hs, by omega⟩
  | hs ks i ih =>
    intro hw
    obtain ⟨h1, h2, h3⟩ := wlk_snoc.1 hw
    rw [wEnd_snoc, enc_snoc]
    rcases ih h1 with ⟨s, hs, he, hle⟩ | ⟨s, hs, hle⟩
    · obtain ⟨s', hs', h4, h5⟩ := h.cl s hs i h2 (by rw [he]; exact h3)
      rcases List.mem_append.1 hs' with hs' | hs'
      · exact .inl ⟨s', hs', h4, eA h5 hle⟩
      · exact .inr ⟨s', hs', eA h5 hle⟩
    · exact .inr ⟨s, hs, by omega⟩
theorem BI.found {l : List Mv} {v w : Ver} {D q : List Stp} {a : Stp} {seen : Seen} (h : BI l v w D (a :: q) seen) (ha : a.1 = w) : MinW l v w a.2 := by
 have h1 := h.wk a (by simp)
 refine ⟨h1.1, h1.2.trans ha, fun ks hk he => ?_⟩
 rcases h.reach ks hk with ⟨s, hs, h2, _⟩ | ⟨s, hs, h2⟩
 ·skip
  exact absurd (h2.trans he) (h.nt s hs)
 ·skip
  have h3 := (List.pairwise_append.1 h.srt).2.1
  rcases List.mem_cons.1 hs with rfl | hs
  ·skip
   exact h2
  ·skip
   have := (List.pairwise_cons.1 h3).1 s hs; omega
theorem BI.none {l : List Mv} {v w : Ver} {D : List Stp} {seen : Seen} (h : BI l v w D [] seen) : ∀ ks, Wlk l v ks → wEnd l v ks ≠ w := fun ks hk he => by
 rcases h.reach ks hk with ⟨s, hs, h2, _⟩ | ⟨s, hs, _⟩
 ·skip
  exact h.nt s hs (h2.trans he)
 ·skip
  cases hs
structure SI (l : List Mv) (v : Ver) (D q0 : List Stp) (a : Stp) (i : Nat) (sn : Seen) (rest : List Stp) : Prop where
 srt : (D ++ a :: rest).Pairwise (fun a b => encN a.2 < encN b.2)
 wk : ∀ s ∈ D ++ a :: rest, Wlk l v s.2 ∧ wEnd l v s.2 = s.1
 se : ∀ x, getL beqV false sn x = true ↔ ∃ s ∈ D ++ a :: rest, s.1 = x
 up : ∀ s ∈ D ++ a :: rest, encN s.2 < encN a.2 * 1000 + (i + 1)
 cl : ∀ j, j < i → hasM (l.getD j Mv.z) a.1 = true → ∃ s' ∈ D ++ a :: rest, s'.1 = (l.getD j Mv.z).t ∧ encN s'.2 ≤ encN a.2 * 1000 + (j + 1)
 old : ∀ s ∈ D ++ a :: q0, s ∈ D ++ a :: rest
 ln : ∀ s ∈ D ++ a :: rest, s.2.length < sn.length
theorem get_setVx {seen : Seen} {k x : Ver} (hn : getL beqV false seen k = false) (ht : ∀ y ∈ seen, y.2 = true) : getL beqV false (setL beqV seen k true) x = true ↔ x = k ∨ getL beqV false seen x = true := by
 have ht2 : ∀ y ∈ setL beqV seen k true, y.2 = true := by
  rw [set_seen (by rw [← get_seen ht]; exact hn)]
  intro y hy
  rcases List.mem_append.1 hy with hy | hy
  ·skip
   exact ht y hy
  ·skip
   obtain rfl := List.mem_singleton.1 hy; rfl
 rw [get_seen ht2, get_seen ht, has_seen, has_seen, set_seen (by rw [← get_seen ht]; exact hn)]
 simp [or_comm]
theorem SI.step {l : List Mv} {v : Ver} {D q0 rest : List Stp} {a : Stp} {i : Nat} {sn : Seen} (hl : l.length ≤ 900) (h : SI l v D q0 a i sn rest) (hi : i < l.length) (ht : ∀ y ∈ sn, y.2 = true) :
    ∃ rest', (stepW l a (sn, a :: rest) i).2 = a :: rest' ∧ SI l v D q0 a (i + 1) (stepW l a (sn, a :: rest) i).1 rest' := by
  have ha := h.wk a (by simp)
  unfold stepW
  by_cases hc : (hasM (l.getD i Mv.z) a.1 && !getL beqV false sn (l.getD i Mv.z).t) = true
  · rw [if_pos hc]
    rw [Bool.and_eq_true] at hc
    have hn : getL beqV false sn (l.getD i Mv.z).t = false := by simpa using hc.2
    refine ⟨rest ++ [((l.getD i Mv.z).t, a.2 ++ [i])], rfl, ?_⟩
    have e : D ++ a :: (rest ++ [((l.getD i Mv.z).t, a.2 ++ [i])]) = (D ++ a :: rest) ++ [((l.getD i Mv.z).t, a.2 ++ [i])] := by simp
    refine ⟨?_, ?_, ?_, ?_, ?_, ?_, ?_⟩
    · rw [e, List.pairwise_append]
      refine ⟨h.srt, by simp, fun s hs y hy => ?_⟩
      obtain rfl := List.mem_singleton.1 hy
      rw [enc_snoc]; exact h.up s hs
    · rw [e]
      intro s hs
      rcases List.mem_append.1 hs with hs | hs
      · exact h.wk s hs
      · obtain rfl := List.mem_singleton.1 hs
        exact ⟨wlk_snoc.2 ⟨ha.1, hi, by rw [ha.2]; exact hc.1⟩, wEnd_snoc⟩
    · intro x
      rw [e]
      show getL beqV false (setL beqV sn _ true) x = true ↔ _
      rw [get_setVx hn ht, h.se]
      constructor
      · rintro (rfl | ⟨s, hs, hx⟩)
        · exact ⟨_, List.mem_append_right _ (List.mem_singleton.2 rfl), rfl⟩
        · exact ⟨s, List.mem_append_left _ hs, hx⟩
      · rintro ⟨s, hs, hx⟩
        rcases List.mem_append.1 hs with hs | hs
        · exact .inr ⟨s, hs, hx⟩
        · obtain rfl := List.mem_singleton.1 hs; exact .inl hx.symm
    · rw [e]
      intro s hs
      rcases List.mem_append.1 hs with hs | hs
      · have := h.up s hs; omega
      · obtain rfl := List.mem_singleton.1 hs
        rw [enc_snoc]; omega
    · rw [e]
      intro j hj hm
      rcases Nat.lt_or_ge j i with h1 | h1
      · obtain ⟨s, hs, h2, h3⟩ := h.cl j h1 hm
        exact ⟨s, List.mem_append_left _ hs, h2, h3⟩
      · obtain rfl : j = i := by omega
        exact ⟨_, List.mem_append_right _ (List.mem_singleton.2 rfl), rfl, by rw [enc_snoc]; omega⟩
    · rw [e]; exact fun s hs => List.mem_append_left _ (h.old s hs)
    · rw [e]
      intro s hs
      show s.2.length < (setL beqV sn _ true).length
      rw [set_seen (by rw [← get_seen ht]; exact hn)]
      simp only [List.length_append, List.length_singleton]
      rcases List.mem_append.1 hs with hs | hs
      · have := h.ln s hs; omega
      · obtain rfl := List.mem_singleton.1 hs
        have := h.ln a (by simp)
        simp; omega
  · rw [if_neg hc]
    refine ⟨rest, rfl, h.srt, h.wk, h.se, fun s hs => by have := h.up s hs; omega, fun j hj hm => ?_, h.old, h.ln⟩
    rcases Nat.lt_or_ge j i with h1 | h1
    · exact h.cl j h1 hm
    · obtain rfl : j = i := by omega
      have hs : getL beqV false sn (l.getD j Mv.z).t = true := by
        cases hg : getL beqV false sn (l.getD j Mv.z).t with
        | true => rfl
        | false => rw [hm, hg] at hc; exact absurd rfl hc
      obtain ⟨s, hs, h2⟩ := (h.se _).1 hs
      exact ⟨s, hs, h2, by have := h.up s hs; omega⟩
theorem SI.scan {l : List Mv} {v : Ver} {D q0 : List Stp} {a : Stp} {sn : Seen} (hl : l.length ≤ 900) (h : SI l v D q0 a 0 sn q0) (hok : SeenOk l v sn) : ∀ {i : Nat}, i ≤ l.length →
    ∃ rest', (scanW l a (sn, a :: q0) i).2 = a :: rest' ∧ SI l v D q0 a i (scanW l a (sn, a :: q0) i).1 rest'
  | 0, _ => ⟨q0, rfl, h⟩
  | i + 1, hi => by
    obtain ⟨r1, h1, h2⟩ := SI.scan hl h hok (i := i) (by omega)
    have hs := SeenOk.scan (sq := (sn, a :: q0)) hok a (i := i) (by omega)
    have e : scanW l a (sn, a :: q0) i = ((scanW l a (sn, a :: q0) i).1, a :: r1) := by rw [← h1]
    unfold scanW
    rw [e]
    exact h2.step hl (by omega) hs.1.tr
theorem BI.next {l : List Mv} {v w : Ver} {D q : List Stp} {a : Stp} {seen : Seen} (hl : l.length ≤ 900) (h : BI l v w D (a :: q) seen) (hok : SeenOk l v seen) (ha : a.1 ≠ w) :
  BI l v w (D ++ [a]) ((scanW l a (seen, a :: q) l.length).2.drop 1) (scanW l a (seen, a :: q) l.length).1 := by
 obtain ⟨rest, h1, h2⟩ := SI.scan hl (D := D) (q0 := q) (a := a) (sn := seen) ⟨h.srt, h.wk, h.se, h.hd a q rfl, fun j hj => absurd hj (Nat.not_lt_zero _), fun s hs => hs, h.ln⟩ hok (Nat.le_refl _)
 rw [h1]
 have e : (D ++ [a]) ++ (a :: rest).drop 1 = D ++ a :: rest := by simp
 refine ⟨by rw [e]; exact h2.srt, by rw [e]; exact h2.wk, by rw [e]; exact h2.se, ?_, ?_, ?_, ?_, by rw [e]; exact h2.ln⟩
 ·skip
  rw [e]
  intro s hs i hi hm
  rcases List.mem_append.1 hs with hs | hs
  ·skip
   obtain ⟨s', hs', h3, h4⟩ := h.cl s hs i hi hm
   exact ⟨s', h2.old s' hs', h3, h4⟩
  ·skip
   obtain rfl := List.mem_singleton.1 hs
   exact h2.cl i hi hm
 ·skip
  rw [e]
  obtain ⟨s, hs, h3⟩ := h.st
  exact ⟨s, h2.old s hs, h3⟩
 ·skip
  rw [e]
  intro b q' hq s hs
  have hq : rest = b :: q' := hq
  have h3 := (List.pairwise_append.1 h2.srt).2.1
  rw [hq] at h3
  have h4 := (List.pairwise_cons.1 h3).1 b (by simp)
  exact eB (h2.up s hs) hl h4
 ·skip
  intro s hs
  rcases List.mem_append.1 hs with hs | hs
  ·skip
   exact h.nt s hs
  ·skip
   obtain rfl := List.mem_singleton.1 hs; exact ha
theorem bfs_min {l : List Mv} {v w : Ver} (hl : l.length ≤ 900) : ∀ {n : Nat} {seen : Seen} {D q : List Stp}, BI l v w D q seen → FuelOk l v n seen q →
    (∃ ks, bfs l w n seen q = (ks, 0) ∧ MinW l v w ks ∧ ks.length ≤ l.length) ∨ (bfs l w n seen q = ([], 10) ∧ ∀ ks, Wlk l v ks → wEnd l v ks ≠ w)
  | 0, seen, D, q, h, hf => by
    have := hf.pos
    obtain rfl : q = [] := List.length_eq_zero_iff.1 (by omega)
    exact .inr ⟨rfl, h.none⟩
  | n + 1, seen, D, [], h, hf => .inr ⟨by simp [bfs], h.none⟩
  | n + 1, seen, D, a :: q, h, hf => by
    unfold bfs
    by_cases ho : (orderB a.1 w == 0) = true
    · rw [if_pos ho]
      have h1 := hf.ok.len
      have h2 := h.ln a (by simp)
      exact .inl ⟨a.2, rfl, h.found (order_0 (by simpa using ho)), by omega⟩
    · rw [if_neg ho]
      exact bfs_min hl (h.next hl hf.ok (fun e => ho (by rw [e, order_refl]; rfl))) (hf.next a (by simp))
theorem bi_0 (l : List Mv) (v w : Ver) : BI l v w [] [(v, [])] [(v, true)] := by
  have hk : beqV v v = true := (beqV_iff _ _).2 rfl
  refine ⟨by simp, fun s hs => ?_, fun x => ?_, fun s hs => (by cases hs), ⟨(v, []), by simp, rfl, enc_nil⟩, fun a q' hq s hs => ?_, fun s hs => (by cases hs), fun s hs => ?_⟩
  · obtain rfl := List.mem_singleton.1 hs
    exact ⟨trivial, rfl⟩
  · rw [get_seen (by simp), has_seen]
    constructor
    · intro h; exact ⟨(v, []), by simp, by simpa [eq_comm] using h⟩
    · rintro ⟨s, hs, hx⟩
      obtain rfl := List.mem_singleton.1 hs
      simp [← hx]
  · obtain rfl := List.mem_singleton.1 hs
    obtain ⟨rfl, _⟩ := List.cons.inj hq
    show encN [] < _; rw [enc_nil]; omega
  · obtain rfl := List.mem_singleton.1 hs
    show (0 : Nat) < 1; omega
abbrev LayT := List (Ver × List Nat)
structure TB (l : List Mv) (v : Ver) (n : Nat) (T : LayT) : Prop where
 hit : ∀ e ∈ T, Wlk l v e.2 ∧ wEnd l v e.2 = e.1 ∧ e.2.length = n ∧ ∀ ks, Wlk l v ks → wEnd l v ks = e.1 → ks.length = n → encN e.2 ≤ encN ks
 al : ∀ ks, Wlk l v ks → ks.length = n → ∃ e ∈ T, e.1 = wEnd l v ks
 nd : (T.map (·.1)).Nodup
theorem tb_0 (l : List Mv) (v : Ver) : TB l v 0 [(v, [])] := by
 refine ⟨fun e he => ?_, fun ks hk hn => ?_, by simp⟩
 ·skip
  obtain rfl := List.mem_singleton.1 he
  exact ⟨trivial, rfl, rfl, fun ks _ _ _ => (by show encN [] ≤ _; rw [enc_nil]; exact Nat.zero_le _)⟩
 ·skip
  obtain rfl : ks = [] := List.length_eq_zero_iff.1 hn
  exact ⟨_, List.mem_singleton.2 rfl, rfl⟩
structure NB (l : List Mv) (v : Ver) (n : Nat) (Dn : Stp → Nat → Prop) (N : LayT) : Prop where
 hit : ∀ e ∈ N, Wlk l v e.2 ∧ wEnd l v e.2 = e.1 ∧ e.2.length = n + 1
 mn : ∀ e ∈ N, ∀ d i, Dn d i → i < l.length → hasM (l.getD i Mv.z) d.1 = true → (l.getD i Mv.z).t = e.1 → encN e.2 ≤ encN d.2 * 1000 + (i + 1)
 al : ∀ d i, Dn d i → i < l.length → hasM (l.getD i Mv.z) d.1 = true → ∃ e ∈ N, e.1 = (l.getD i Mv.z).t
 nd : (N.map (·.1)).Nodup
theorem nb_0 (l : List Mv) (v : Ver) (n : Nat) : NB l v n (fun _ _ => False) [] := ⟨fun e he => (by cases he), fun e he => (by cases he), fun d i h => h.elim, by simp⟩
theorem NB.mono {l : List Mv} {v : Ver} {n : Nat} {P Q : Stp → Nat → Prop} {N : LayT} (h : NB l v n P N) (hq : ∀ d i, i < l.length → Q d i → P d i) : NB l v n Q N :=
 ⟨h.hit, fun e he d i hd hi => h.mn e he d i (hq d i hi hd) hi, fun d i hd hi => h.al d i (hq d i hi hd) hi, h.nd⟩
theorem hasW {N : LayT} {k : Ver} : hasL beqV N k = true ↔ k ∈ N.map (·.1) := by
 unfold hasL
 rw [List.any_eq_true]
 constructor
 ·skip
  rintro ⟨x, hx, h⟩; exact List.mem_map.2 ⟨x, hx, ((beqV_iff _ _).1 h).symm⟩
 ·skip
  intro h; obtain ⟨x, hx, h⟩ := List.mem_map.1 h; exact ⟨x, hx, (beqV_iff _ _).2 h.symm⟩
theorem getW {k : Ver} : ∀ {N : LayT}, hasL beqV N k = true → (k, getL beqV [] N k) ∈ N
  | [], h => by cases h
  | x :: N, h => by
    unfold getL
    cases hb : beqV k x.1 with
    | true =>
      have := (beqV_iff _ _).1 hb
      simp only [cond_true]
      rw [this]; exact List.mem_cons_self
    | false =>
      simp only [cond_false]
      have h1 : (beqV k x.1 || hasL beqV N k) = true := h
      rw [hb, Bool.false_or] at h1
      exact List.mem_cons_of_mem _ (getW h1)
theorem setW_mem {k : Ver} {p : List Nat} : ∀ {N : LayT} {e : Ver × List Nat}, e ∈ setL beqV N k p → e = (k, p) ∨ e ∈ N
  | [], e, h => .inl (by simpa [setL] using h)
  | x :: N, e, h => by
    unfold setL at h
    cases hb : beqV k x.1 with
    | true =>
      rw [hb, cond_true] at h
      rcases List.mem_cons.1 h with h | h
      · exact .inl h
      · exact .inr (List.mem_cons_of_mem _ h)
    | false =>
      rw [hb, cond_false] at h
      rcases List.mem_cons.1 h with h | h
      · exact .inr (by rw [h]; exact List.mem_cons_self)
      · rcases setW_mem h with h | h
        · exact .inl h
        · exact .inr (List.mem_cons_of_mem _ h)
theorem setW_keys {k : Ver} {p : List Nat} : ∀ {N : LayT} (x : Ver), x ∈ (setL beqV N k p).map (·.1) ↔ x = k ∨ x ∈ N.map (·.1)
  | [], x => by simp [setL]
  | y :: N, x => by
    unfold setL
    cases hb : beqV k y.1 with
    | true =>
      have := (beqV_iff _ _).1 hb
      simp only [cond_true, List.map_cons, List.mem_cons, ← this]
      constructor
      · rintro (h | h)
        · exact .inl h
        · exact .inr (.inr h)
      · rintro (h | h | h)
        · exact .inl h
        · exact .inl h
        · exact .inr h
    | false =>
      simp only [cond_false, List.map_cons, List.mem_cons]
      rw [setW_keys x]
      constructor
      · rintro (h | h | h)
        · exact .inr (.inl h)
        · exact .inl h
        · exact .inr (.inr h)
      · rintro (h | h | h)
        · exact .inr (.inl h)
        · exact .inl h
        · exact .inr (.inr h)
theorem setW_nd {k : Ver} {p : List Nat} : ∀ {N : LayT}, (N.map (·.1)).Nodup → ((setL beqV N k p).map (·.1)).Nodup
  | [], _ => by simp [setL]
  | y :: N, h => by
    have h' := List.nodup_cons.1 (by simpa using h : (y.1 :: N.map (·.1)).Nodup)
    unfold setL
    cases hb : beqV k y.1 with
    | true =>
      have := (beqV_iff _ _).1 hb
      simp only [cond_true, List.map_cons]
      rw [this]; exact List.nodup_cons.2 h'
    | false =>
      simp only [cond_false, List.map_cons]
      refine List.nodup_cons.2 ⟨fun hm => ?_, setW_nd h'.2⟩
      rcases (setW_keys _).1 hm with e | e
      · rw [e] at hb
        have : beqV k k = true := (beqV_iff _ _).2 rfl
        rw [this] at hb; cases hb
      · exact h'.1 e
theorem nd_same {N : LayT} (h : (N.map (·.1)).Nodup) {a b : Ver × List Nat} (ha : a ∈ N) (hb : b ∈ N) (he : a.1 = b.1) : a = b := by
 induction N with
 | nil => cases ha
 | cons x N ih =>
  have h' := List.nodup_cons.1 (by simpa using h : (x.1 :: N.map (·.1)).Nodup)
  rcases List.mem_cons.1 ha with e1 | ha1
  ·skip
   rcases List.mem_cons.1 hb with e2 | hb1
   ·skip
    rw [e1, e2]
   ·skip
    exact absurd (List.mem_map.2 ⟨b, hb1, by rw [← he, e1]⟩) h'.1
  ·skip
   rcases List.mem_cons.1 hb with e2 | hb1
   ·skip
    exact absurd (List.mem_map.2 ⟨a, ha1, by rw [he, e2]⟩) h'.1
   ·skip
    exact ih h'.2 ha1 hb1
theorem setW_self {k : Ver} {p : List Nat} {N : LayT} : (k, p) ∈ setL beqV N k p := by
 induction N with
 | nil => simp [setL]
 | cons y N ih =>
  unfold setL
  cases hb : beqV k y.1 with
  | true => simp only [cond_true]; exact List.mem_cons_self
  | false => simp only [cond_false]; exact List.mem_cons_of_mem _ ih
theorem setW_other {k : Ver} {p : List Nat} {N : LayT} (hd : (N.map (·.1)).Nodup) {e : Ver × List Nat} (h : e ∈ setL beqV N k p) : e = (k, p) ∨ (e ∈ N ∧ e.1 ≠ k) := by
 by_cases he : e.1 = k
 ·skip
  exact .inl (nd_same (setW_nd hd) h setW_self he)
 ·skip
  rcases setW_mem h with h | h
  ·skip
   exact .inl h
  ·skip
   exact .inr ⟨h, he⟩
section
variable {l : List Mv} {v : Ver} {n : Nat} {Dn : Stp → Nat → Prop} {N : LayT} (h : NB l v n Dn N) {y : Stp} {i : Nat}
include h
theorem NB.miss (hm : hasM (l.getD i Mv.z) y.1 = false) : NB l v n (fun d j => Dn d j ∨ (d = y ∧ j = i)) N := by
 refine ⟨h.hit, fun e he d j hd hj hh ht => ?_, fun d j hd hj hh => ?_, h.nd⟩
 ·skip
  rcases hd with hd | ⟨rfl, rfl⟩
  ·skip
   exact h.mn e he d j hd hj hh ht
  ·skip
   rw [hm] at hh; cases hh
 ·skip
  rcases hd with hd | ⟨rfl, rfl⟩
  ·skip
   exact h.al d j hd hj hh
  ·skip
   rw [hm] at hh; cases hh
variable (hl : l.length ≤ 900) (hi : i < l.length) (hm : hasM (l.getD i Mv.z) y.1 = true) (hy : Wlk l v y.2 ∧ wEnd l v y.2 = y.1 ∧ y.2.length = n)
include hl hi hm hy
theorem NB.less {o : List Nat} (ho : ((l.getD i Mv.z).t, o) ∈ N) : decide (cmpN (y.2 ++ [i]) o < 0) = decide (encN (y.2 ++ [i]) < encN o) := by
 have h1 := h.hit _ ho
 have hw : Wlk l v (y.2 ++ [i]) := wlk_snoc.2 ⟨hy.1, hi, by rw [hy.2.1]; exact hm⟩
 rw [Bool.eq_iff_iff, decide_eq_true_eq, decide_eq_true_eq]
 exact cmp_enc (wlk_dig hl hw) (wlk_dig hl h1.1) (by rw [List.length_append, hy.2.2, h1.2.2]; rfl)
theorem NB.put (hc : (!hasL beqV N (l.getD i Mv.z).t || decide (cmpN (y.2 ++ [i]) (getL beqV [] N (l.getD i Mv.z).t) < 0)) = true) :
  NB l v n (fun d j => Dn d j ∨ (d = y ∧ j = i)) (setL beqV N (l.getD i Mv.z).t (y.2 ++ [i])) := by
 have hw : Wlk l v (y.2 ++ [i]) := wlk_snoc.2 ⟨hy.1, hi, by rw [hy.2.1]; exact hm⟩
 refine ⟨fun e he => ?_, fun e he d j hd hj hh ht => ?_, fun d j hd hj hh => ?_, setW_nd h.nd⟩
 ·skip
  rcases setW_mem he with rfl | he
  ·skip
   exact ⟨hw, wEnd_snoc, by rw [List.length_append, hy.2.2]; rfl⟩
  ·skip
   exact h.hit e he
 ·skip
  rcases setW_other h.nd he with rfl | ⟨he, hne⟩
  ·skip
   show encN (y.2 ++ [i]) ≤ _
   rcases hd with hd | ⟨rfl, rfl⟩
   ·skip
    obtain ⟨e', he', h1⟩ := h.al d j hd hj hh
    have ht : (l.getD j Mv.z).t = (l.getD i Mv.z).t := ht
    have hk : hasL beqV N (l.getD i Mv.z).t = true := hasW.2 (List.mem_map.2 ⟨e', he', h1.trans ht⟩)
    rw [hk, Bool.not_true, Bool.false_or, h.less hl hi hm hy (getW hk), decide_eq_true_eq] at hc
    have := h.mn _ (getW hk) d j hd hj hh ht
    have : encN (getL beqV [] N (l.getD i Mv.z).t) ≤ _ := this
    omega
   ·skip
    rw [enc_snoc]; omega
  ·skip
   rcases hd with hd | ⟨rfl, rfl⟩
   ·skip
    exact h.mn e he d j hd hj hh ht
   ·skip
    exact absurd ht.symm hne
 ·skip
  rcases hd with hd | ⟨rfl, rfl⟩
  ·skip
   obtain ⟨e, he, h1⟩ := h.al d j hd hj hh
   have : (l.getD j Mv.z).t ∈ (setL beqV N (l.getD i Mv.z).t (y.2 ++ [i])).map (·.1) := (setW_keys _).2 (.inr (List.mem_map.2 ⟨e, he, h1⟩))
   obtain ⟨e', he', h2⟩ := List.mem_map.1 this
   exact ⟨e', he', h2⟩
  ·skip
   exact ⟨_, setW_self, rfl⟩
theorem NB.stay (hc : (!hasL beqV N (l.getD i Mv.z).t || decide (cmpN (y.2 ++ [i]) (getL beqV [] N (l.getD i Mv.z).t) < 0)) = false) :
  NB l v n (fun d j => Dn d j ∨ (d = y ∧ j = i)) N := by
 rw [Bool.or_eq_false_iff] at hc
 have hk : hasL beqV N (l.getD i Mv.z).t = true := by simpa using hc.1
 have h1 := hc.2
 rw [h.less hl hi hm hy (getW hk), decide_eq_false_iff_not, enc_snoc] at h1
 refine ⟨h.hit, fun e he d j hd hj hh ht => ?_, fun d j hd hj hh => ?_, h.nd⟩
 ·skip
  rcases hd with hd | ⟨rfl, rfl⟩
  ·skip
   exact h.mn e he d j hd hj hh ht
  ·skip
   have := nd_same h.nd he (getW hk) ht.symm
   rw [this]
   show encN (getL beqV [] N (l.getD j Mv.z).t) ≤ _
   omega
 ·skip
  rcases hd with hd | ⟨rfl, rfl⟩
  ·skip
   exact h.al d j hd hj hh
  ·skip
   exact ⟨_, getW hk, rfl⟩
end
theorem NB.done {l : List Mv} {v : Ver} {n : Nat} {T N : LayT} (ht : TB l v n T) (h : NB l v n (fun d _ => d ∈ T) N) : TB l v (n + 1) N := by
 refine ⟨fun e he => ?_, fun ks => ?_, h.nd⟩
 ·skip
  obtain ⟨h1, h2, h3⟩ := h.hit e he
  refine ⟨h1, h2, h3, fun ks => ?_⟩
  induction ks using snocInd with
  | h0 => intro _ _ h; simp at h
  | hs ks i _ =>
   intro hw hen hlen
   obtain ⟨h4, h5, h6⟩ := wlk_snoc.1 hw
   have hkl : ks.length = n := by simpa using hlen
   obtain ⟨d, hd, hde⟩ := ht.al ks h4 hkl
   have h7 := (ht.hit d hd).2.2.2 ks h4 hde.symm hkl
   rw [wEnd_snoc] at hen
   have h8 := h.mn e he d i hd h5 (by rw [hde]; exact h6) hen
   rw [enc_snoc]; exact eA h8 h7
 ·skip
  induction ks using snocInd with
  | h0 => intro _ h; simp at h
  | hs ks i _ =>
   intro hw hlen
   obtain ⟨h4, h5, h6⟩ := wlk_snoc.1 hw
   obtain ⟨d, hd, hde⟩ := ht.al ks h4 (by simpa using hlen)
   rw [wEnd_snoc]
   exact h.al d i hd h5 (by rw [hde]; exact h6)
def Far (l : List Mv) (v w : Ver) (n : Nat) : Prop := ∀ ks, Wlk l v ks → ks.length ≤ n → wEnd l v ks ≠ w
theorem far_0 {l : List Mv} {v w : Ver} (h : (orderB v w == 0) = false) : Far l v w 0 := fun ks hk hn he => by
 obtain rfl : ks = [] := List.length_eq_zero_iff.1 (by omega)
 have he : v = w := he
 rw [he, order_refl] at h; cases h
theorem Far.next {l : List Mv} {v w : Ver} {n : Nat} {N : LayT} (h : Far l v w n) (ht : TB l v (n + 1) N) (hc : hasL beqV N w = false) : Far l v w (n + 1) := fun ks hk hn he => by
  rcases Nat.lt_or_ge n ks.length with h1 | h1
  · obtain ⟨e, hm, h2⟩ := ht.al ks hk (by omega)
    have : hasL beqV N w = true := hasW.2 (List.mem_map.2 ⟨e, hm, h2.trans he⟩)
    rw [this] at hc; cases hc
  · exact h ks hk h1 he
theorem Far.hit {l : List Mv} {v w : Ver} {n : Nat} {N : LayT} (hl : l.length ≤ 900) (h : Far l v w n) (ht : TB l v (n + 1) N) (hc : hasL beqV N w = true) : MinW l v w (getL beqV [] N w) := by
 obtain ⟨h1, h2, h3, h4⟩ := ht.hit _ (getW hc)
 refine ⟨h1, h2, fun ks hk he => ?_⟩
 rcases Nat.lt_or_ge n ks.length with h5 | h5
 ·skip
  rcases Nat.lt_or_ge (n + 1) ks.length with h6 | h6
  ·skip
   exact Nat.le_of_lt (enc_len _ _ (wlk_dig hl h1) (wlk_dig hl hk) (by have h3 : (getL beqV [] N w).length = n + 1 := h3; omega))
  ·skip
   exact h4 ks hk he (by omega)
 ·skip
  exact absurd he (h ks hk h5)
section
variable {l : List Mv} {v w : Ver} (hl : l.length ≤ 900)
include hl
theorem bfs_far (h : Far l v w l.length) : bfs l w (l.length + 1) [(v, true)] [(v, [])] = ([], 10) := by
 rcases bfs_min hl (bi_0 l v w) (FuelOk.start l v) with ⟨ks, h1, h2, h3⟩ | ⟨h1, _⟩
 ·skip
  exact absurd h2.en (h ks h2.wk h3)
 ·skip
  exact h1
theorem bfs_is {ks : List Nat} (h : MinW l v w ks) : bfs l w (l.length + 1) [(v, true)] [(v, [])] = (ks, 0) := by
 rcases bfs_min hl (bi_0 l v w) (FuelOk.start l v) with ⟨ks', h1, h2, h3⟩ | ⟨_, h2⟩
 ·skip
  rw [h1, h2.uniq hl h]
 ·skip
  exact absurd h.en (h2 ks h.wk)
end
theorem wEnd_mem {l : List Mv} : ∀ {ks : List Nat} {v : Ver}, Wlk l v ks → wEnd l v ks = v ∨ ∃ m ∈ l, m.t = wEnd l v ks
  | [], v, _ => .inl rfl
  | k :: ks, v, h => by
    rcases wEnd_mem (ks := ks) (v := (l.getD k Mv.z).t) h.2.2 with h1 | h1
    · exact .inr ⟨l.getD k Mv.z, mem_getD h.1, h1.symm⟩
    · exact .inr h1
end
section
open Go
theorem spanE_0 {s : Sp} (h : spanE s = 0) : (s.hf = false → s.f = Ver.z) ∧ (s.ht = false → s.t = Ver.z) ∧ s.f.check = 0 ∧ s.t.check = 0 ∧ (s.hf = true → s.ht = true → orderB s.f s.t < 0) := by
 have hc := span_checks h
 have hform : ((!(s.f.eqb Ver.z) && !s.hf) || (!(s.t.eqb Ver.z) && !s.ht)) = false := by
  cases hx : ((!(s.f.eqb Ver.z) && !s.hf) || (!(s.t.eqb Ver.z) && !s.ht)) with
  | false => rfl
  | true => have := spE_form hx; omega
 have hf := form_f hform
 refine ⟨hf.1, hf.2, hc.1, hc.2, fun h1 h2 => ?_⟩
 have e2 : (s.hf && s.f.check != 0) = false := by simp [hc.1]
 have e3 : (s.ht && s.t.check != 0) = false := by simp [hc.2]
 cases h4 : ((s.hf && s.ht) && decide (orderB s.f s.t ≥ 0)) with
 | false => rw [h1, h2] at h4; simpa using h4
 | true => have := spE_o hform e2 e3 h4; omega
theorem spAt_zero {ss : List Sp} (h : rangeE ss = 0) {i : Nat} (hi : i < ss.length) : spAt ss i = 0 := by
 unfold rangeE at h
 split at h
 ·skip
  exact absurd h (by decide)
 ·skip
  exact firstNe_zero h _ (List.mem_map.2 ⟨i, List.mem_range.2 hi, rfl⟩)
theorem span_zero {ss : List Sp} (h : rangeE ss = 0) {i : Nat} (hi : i < ss.length) : spanE (ss.getD i Sp.z) = 0 := by
 have h1 := spAt_zero h hi
 cases hx : (spanE (ss.getD i Sp.z) != 0) with
 | false => simpa using hx
 | true => rw [spAt_own hx] at h1; exact h1
theorem span_in {ss : List Sp} (h : rangeE ss = 0) {s : Sp} (hs : s ∈ ss) : spanE s = 0 := by
 obtain ⟨i, hi, rfl⟩ := List.getElem_of_mem hs
 have := span_zero h hi
 rwa [List.getD_eq_getElem?_getD, List.getElem?_eq_getElem hi] at this
theorem within_inside {s : Sp} {v : Ver} (hf : s.f.check = 0) (ht : s.t.check = 0) (hv : v.check = 0) : withinB s v = insideR s v := by
 unfold withinB insideR
 rw [compare_eq hv hf, compare_eq hv ht]
 congr 1
 ·skip
  cases s.hf
  ·skip
   rfl
  ·skip
   rw [Bool.eq_iff_iff]; simp
 ·skip
  cases s.ht
  ·skip
   rfl
  ·skip
   rw [Bool.eq_iff_iff]; simp
theorem has_eq {ss : List Sp} {v : Ver} (h : rangeE ss = 0) (hv : v.check = 0) : hasB ss v = hasR ss v := by
 unfold hasB hasR
 have hc : ∀ s ∈ ss, s.f.check = 0 ∧ s.t.check = 0 := fun s hs => ⟨(spanE_0 (span_in h hs)).2.2.1, (spanE_0 (span_in h hs)).2.2.2.1⟩
 have key : ∀ s ∈ ss, hasAt ss.length v s = hasAtR (allR ss) v s := fun s hs => by
  unfold hasAt hasAtR
  rw [within_inside (hc s hs).1 (hc s hs).2 hv]
  have e : (((ss.length : Int) == 1 && !s.hf) && !s.ht) = allR ss := by
   unfold allR
   match ss, hs with
   | [x], hs => rw [List.mem_singleton.1 hs]; rfl
   | x :: y :: l, hs =>
    have : (((x :: y :: l).length : Int) == 1) = false := by simp; omega
    rw [this]; rfl
  rw [e]
 rw [Bool.eq_iff_iff, List.any_eq_true, List.any_eq_true]
 exact ⟨fun ⟨s, h1, h2⟩ => ⟨s, h1, by rw [← key s h1]; exact h2⟩, fun ⟨s, h1, h2⟩ => ⟨s, h1, by rw [key s h1]; exact h2⟩⟩
end
section
open Go
structure ShOk (r : Rul) : Prop where
 lo : 1 ≤ r.kd
 hi : r.kd ≤ 8
 k0 : r.k ≠ []
 k : (32 : UInt8) ∉ r.k
 tu : usTu r.kd = true → r.tu ≠ [] ∧ (32 : UInt8) ∉ r.tu
 tu0 : usTu r.kd = false → r.tu = []
 old0 : usOld r.kd = false → r.old = []
 nu0 : usNew r.kd = false → r.nu = []
def chk (r : Rul) : Rul × Int := if ruleC r != 0 then (Rul.z, ruleC r) else (r, 0)
theorem idxA {w t : L8} (h : (32 : UInt8) ∉ w) : Lib.index (w ++ 32 :: t) [32] = (w.length : Int) := by
 induction w with
 | nil =>
  show (if ([32] : L8).isPrefixOf (32 :: t) then (0 : Int) else _) = _
  simp [List.isPrefixOf]
 | cons c w ih =>
  have hc : c ≠ 32 := fun e => h (by rw [e]; simp)
  have ih := ih (fun hm => h (List.mem_cons_of_mem _ hm))
  have hp : ([32] : L8).isPrefixOf (c :: (w ++ 32 :: t)) = false := by
   simp only [List.isPrefixOf, Bool.and_true]
   simpa using fun e => hc e.symm
  show (if ([32] : L8).isPrefixOf (c :: (w ++ 32 :: t)) then (0 : Int) else if Lib.index (w ++ 32 :: t) [32] == -1 then -1 else Lib.index (w ++ 32 :: t) [32] + 1) = _
  rw [hp, ih]
  simp
theorem idxN {w : L8} (h : (32 : UInt8) ∉ w) : Lib.index w [32] = -1 := by
 induction w with
 | nil => rfl
 | cons c w ih =>
  have hc : c ≠ 32 := fun e => h (by rw [e]; simp)
  have ih := ih (fun hm => h (List.mem_cons_of_mem _ hm))
  have hp : ([32] : L8).isPrefixOf (c :: w) = false := by
   simp only [List.isPrefixOf, Bool.and_true]
   simpa using fun e => hc e.symm
  show (if ([32] : L8).isPrefixOf (c :: w) then (0 : Int) else if Lib.index w [32] == -1 then -1 else Lib.index w [32] + 1) = _
  rw [hp, ih]; rfl
theorem cutA {w t : L8} (h : (32 : UInt8) ∉ w) : Lib.cut (w ++ 32 :: t) [32] = (w, t, true) := by
 unfold Lib.cut
 rw [idxA h, if_pos (by omega), Int.toNat_natCast]
 simp
theorem cutN {w : L8} (h : (32 : UInt8) ∉ w) : Lib.cut w [32] = (w, [], false) := by
 unfold Lib.cut
 rw [idxN h, if_neg (by decide)]
theorem cutC (s : L8) : ((32 : UInt8) ∉ s ∧ Lib.cut s [32] = (s, [], false)) ∨ ∃ w t, (32 : UInt8) ∉ w ∧ s = w ++ 32 :: t ∧ Lib.cut s [32] = (w, t, true) := by
  induction s with
  | nil => exact .inl ⟨by simp, cutN (by simp)⟩
  | cons c s ih =>
    by_cases hc : c = 32
    · subst hc
      exact .inr ⟨[], s, by simp, rfl, cutA (w := []) (by simp)⟩
    · rcases ih with ⟨h1, _⟩ | ⟨w, t, h1, h2, _⟩
      · have : (32 : UInt8) ∉ c :: s := by simp [h1]; exact fun e => hc e.symm
        exact .inl ⟨this, cutN this⟩
      · have : (32 : UInt8) ∉ c :: w := by simp [h1]; exact fun e => hc e.symm
        exact .inr ⟨c :: w, t, this, by rw [h2]; rfl, by rw [h2]; exact cutA this⟩
theorem cutOne (s : L8) : (32 : UInt8) ∉ (Lib.cut s [32]).1 := by
 rcases cutC s with ⟨h1, h2⟩ | ⟨w, t, h1, _, h2⟩ <;> rw [h2] <;> exact h1
theorem us_cases {x : Int} (h1 : 1 ≤ x) (h2 : x ≤ 8) : (usTu x = true ∧ usOld x = false ∧ usNew x = false) ∨ (usTu x = false ∧ usOld x = false ∧ usNew x = true) ∨ (usTu x = false ∧ usOld x = false ∧ usNew x = false) ∨ (usTu x = false ∧ usOld x = true ∧ usNew x = true) := by
 have : x = 1 ∨ x = 2 ∨ x = 3 ∨ x = 4 ∨ x = 5 ∨ x = 6 ∨ x = 7 ∨ x = 8 := by omega
 rcases this with h | h | h | h | h | h | h | h <;> subst h <;> decide
theorem word_ok {x : Int} (h1 : 1 ≤ x) (h2 : x ≤ 8) : (32 : UInt8) ∉ ruleW x ∧ idxOf (fun y => ruleW x == y) ruleWs = x := by
 have : x = 1 ∨ x = 2 ∨ x = 3 ∨ x = 4 ∨ x = 5 ∨ x = 6 ∨ x = 7 ∨ x = 8 := by omega
 rcases this with h | h | h | h | h | h | h | h <;> subst h <;> exact ⟨by decide, by decide⟩
theorem quo_q (s rest : L8) : quoP (quoB s ++ rest) = (s, rest, true) := by
 have := quoP_quo s rest
 rwa [show quoB s = 34 :: (escB s ++ [34]) by simp [quoB]]
theorem quo_0 (s : L8) : quoP (quoB s) = (s, [], true) := by have := quo_q s []; rwa [List.append_nil] at this
def tailT (r : Rul) : L8 := (if usTu r.kd then 32 :: r.tu else []) ++ ((if usOld r.kd then 32 :: quoB r.old else []) ++ (if usNew r.kd then 32 :: quoB r.nu else []))
theorem ruleT_eq (r : Rul) : ruleT r = ruleW r.kd ++ 32 :: (r.k ++ tailT r) := by
 unfold ruleT rt2 rt1 tailT
 cases usTu r.kd <;> cases usOld r.kd <;> cases usNew r.kd <;> simp
theorem par_word {r : Rul} (h : ShOk r) (hl : (ruleT r).length ≤ 4000) : parR (ruleT r) = parK r.kd (r.k ++ tailT r) ∧ rdR (ruleT r) = rdK r.kd (r.k ++ tailT r) (ruleT r) := by
 obtain ⟨hw, hi⟩ := word_ok h.lo h.hi
 have hlo := h.lo
 have hc : Lib.cut (ruleT r) [32] = (ruleW r.kd, r.k ++ tailT r, true) := by rw [ruleT_eq]; exact cutA hw
 constructor
 ·skip
  unfold parR
  rw [if_neg (by simp; omega), hc]
  show (if (!true || decide (idxOf (fun y => ruleW r.kd == y) ruleWs < 1)) then _ else parK (idxOf (fun y => ruleW r.kd == y) ruleWs) (r.k ++ tailT r)) = _
  rw [hi, if_neg (by simp; omega)]
 ·skip
  unfold rdR
  rw [if_neg (by simp; omega), hc]
  show (if decide (idxOf (fun y => ruleW r.kd == y) ruleWs < 1) then _ else rdK (idxOf (fun y => ruleW r.kd == y) ruleWs) (r.k ++ tailT r) (ruleT r)) = _
  rw [hi, if_neg (by simp; omega)]
theorem prEnd_nil (r : Rul) : prEnd r [] = chk r := by unfold prEnd chk; rfl
theorem contains_no {s : L8} (h : (32 : UInt8) ∉ s) : Lib.contains s [32] = false := by
 unfold Lib.contains
 rw [idxN h]; rfl
theorem k_beq {k : L8} (h : k ≠ []) : (k == []) = false := by simpa using h
theorem par_print {r : Rul} (h : ShOk r) (hl : (ruleT r).length ≤ 4000) : parR (ruleT r) = chk r := by
 rw [(par_word h hl).1]
 obtain ⟨kd, k, tu, old, nu⟩ := r
 have hk0 := k_beq h.k0
 have hk := h.k
 unfold parK tailT
 rcases us_cases h.lo h.hi with ⟨a, b, c⟩ | ⟨a, b, c⟩ | ⟨a, b, c⟩ | ⟨a, b, c⟩
 ·skip
  obtain ⟨t1, t2⟩ := h.tu a
  have o0 := h.old0 b
  have n0 := h.nu0 c
  simp only at a b c t1 t2 o0 n0 hk hk0
  subst o0; subst n0
  simp only [a, b, c, if_true, Bool.false_eq_true, if_false, List.append_nil]
  rw [cutA hk]
  simp only [hk0, Bool.or_false, Bool.false_or, bne_self_eq_false, Bool.false_eq_true, if_false]
  unfold prTo
  simp only [a, if_true]
  rw [if_neg (by rw [k_beq t1, contains_no t2]; simp)]
  unfold prOld
  simp only [b, Bool.false_eq_true, if_false]
  unfold prNew
  simp only [c, Bool.false_eq_true, if_false]
  exact prEnd_nil _
 ·skip
  have t0 := h.tu0 a
  have o0 := h.old0 b
  simp only at a b c t0 o0 hk hk0
  subst o0; subst t0
  simp only [a, b, c, if_true, Bool.false_eq_true, if_false, List.nil_append]
  rw [cutA hk]
  simp only [hk0, Bool.or_true, Bool.false_or, bne_self_eq_false, Bool.false_eq_true, if_false]
  unfold prTo
  simp only [a, Bool.false_eq_true, if_false]
  unfold prOld
  simp only [b, Bool.false_eq_true, if_false]
  unfold prNew
  simp only [c, if_true, quo_0, Bool.not_true, Bool.false_eq_true, if_false]
  exact prEnd_nil _
 ·skip
  have t0 := h.tu0 a
  have o0 := h.old0 b
  have n0 := h.nu0 c
  simp only at a b c t0 o0 n0 hk hk0
  subst o0; subst t0; subst n0
  simp only [a, b, c, Bool.false_eq_true, if_false, List.append_nil]
  rw [cutN hk]
  simp only [hk0, Bool.or_false, Bool.false_or, bne_self_eq_false, Bool.false_eq_true, if_false]
  unfold prTo
  simp only [a, Bool.false_eq_true, if_false]
  unfold prOld
  simp only [b, Bool.false_eq_true, if_false]
  unfold prNew
  simp only [c, Bool.false_eq_true, if_false]
  exact prEnd_nil _
 ·skip
  have t0 := h.tu0 a
  simp only at a b c t0 hk hk0
  subst t0
  simp only [a, b, c, if_true, Bool.false_eq_true, if_false, List.nil_append, List.cons_append]
  rw [cutA hk]
  simp only [hk0, Bool.or_true, Bool.false_or, bne_self_eq_false, Bool.false_eq_true, if_false]
  unfold prTo
  simp only [a, Bool.false_eq_true, if_false]
  unfold prOld
  have hp : Lib.hasPrefix (32 :: quoB nu) [32] = true := hasPrefix_iff.2 ⟨quoB nu, rfl⟩
  simp only [b, if_true, quo_q, hp, Bool.not_true, Bool.or_false, Bool.false_eq_true, if_false, List.drop_succ_cons, List.drop_zero]
  unfold prNew
  simp only [c, if_true, quo_0, Bool.not_true, Bool.false_eq_true, if_false]
  exact prEnd_nil _
theorem qAt_q (s rest : L8) : qAt (quoB s ++ rest) 0 = some (s, (quoB s).length) := by
 have := qAt_quo s rest
 have e : quoB s = 34 :: (escB s ++ [34]) := by simp [quoB]
 rw [e, this]; simp
theorem take_f (right last : Bool) (rest : L8) : takeP false right last [] rest = ([], rest, right) := tk_a rfl
theorem take_q (s : L8) : takeP true true true [] (quoB s) = (s, [], true) := by
 have hq := qAt_q s []
 rw [List.append_nil] at hq
 have hp : Lib.hasPrefix (quoB s) [34] = true := hasPrefix_iff.2 ⟨escB s ++ [34], by simp [quoB]⟩
 rw [tk_c rfl (by rw [hq, hp]; rfl), hq]
 show (s, (quoB s).drop (quoB s).length, true) = _
 rw [List.drop_length]
theorem take_q2 (s t : L8) : takeP true true false [] (quoB s ++ 32 :: t) = (s, t, true) := by
 have hq := qAt_q s (32 :: t)
 have hp : Lib.hasPrefix (quoB s ++ 32 :: t) [34] = true := hasPrefix_iff.2 ⟨escB s ++ [34] ++ 32 :: t, by simp [quoB]⟩
 have hd : (quoB s ++ 32 :: t).drop (quoB s).length = 32 :: t := by simp
 have hp2 : Lib.hasPrefix (32 :: t) [32] = true := hasPrefix_iff.2 ⟨t, rfl⟩
 rw [tk_c rfl (by rw [hq, hp]; show (_ || (!false && !Lib.hasPrefix ((quoB s ++ 32 :: t).drop (quoB s).length) [32])) = false; rw [hd, hp2]; rfl), hq]
 show (s, ((quoB s ++ 32 :: t).drop (quoB s).length).drop 1, true) = _
 rw [hd]; rfl
theorem rdE_ok {kd : Int} {k tu rest s old nu : L8} (ha : takeP (usOld kd) true false [] rest = (old, (takeP (usOld kd) true false [] rest).2.1, true)) (hb : takeP (usNew kd) true true [] (takeP (usOld kd) true false [] rest).2.1 = (nu, [], true)) (hk : k ≠ []) (ht : usTu kd = true → tu ≠ []) (hs : s = ruleT ⟨kd, k, tu, old, nu⟩) : rdE kd k tu rest s = chk ⟨kd, k, tu, old, nu⟩ := by
 have e1 : (takeP (usOld kd) true false [] rest).1 = old := by rw [ha]
 have e2 : (takeP (usOld kd) true false [] rest).2.2 = true := by rw [ha]
 unfold rdE chk
 rw [e1, e2, hb]
 have ht' : (usTu kd && tu == []) = false := by
  cases hu : usTu kd with
  | false => rfl
  | true => rw [k_beq (ht hu)]; rfl
 rw [k_beq hk, ht', ← hs]
 simp
theorem rd_print {r : Rul} (h : ShOk r) (hl : (ruleT r).length ≤ 4000) : rdR (ruleT r) = chk r := by
 rw [(par_word h hl).2]
 obtain ⟨kd, k, tu, old, nu⟩ := r
 have hk := h.k
 unfold rdK tailT
 rcases us_cases h.lo h.hi with ⟨a, b, c⟩ | ⟨a, b, c⟩ | ⟨a, b, c⟩ | ⟨a, b, c⟩
 ·skip
  obtain ⟨t1, t2⟩ := h.tu a
  have o0 := h.old0 b
  have n0 := h.nu0 c
  simp only at a b c t1 t2 o0 n0 hk
  subst o0; subst n0
  simp only [a, b, c, if_true, Bool.false_eq_true, if_false, List.append_nil]
  rw [cutA hk]
  show rdE kd k (Lib.cut tu [32]).1 (Lib.cut tu [32]).2.1 _ = _
  rw [cutN t2]
  exact rdE_ok (by rw [b, take_f]) (by rw [b, c, take_f, take_f]) h.k0 (fun _ => t1) rfl
 ·skip
  have t0 := h.tu0 a
  have o0 := h.old0 b
  simp only at a b c t0 o0 hk
  subst o0; subst t0
  simp only [a, b, c, if_true, Bool.false_eq_true, if_false, List.nil_append]
  rw [cutA hk]
  exact rdE_ok (by rw [b, take_f]) (by rw [b, c, take_f, take_q]) h.k0 (fun hu => by rw [a] at hu; cases hu) rfl
 ·skip
  have t0 := h.tu0 a
  have o0 := h.old0 b
  have n0 := h.nu0 c
  simp only at a b c t0 o0 n0 hk
  subst o0; subst t0; subst n0
  simp only [a, b, c, Bool.false_eq_true, if_false, List.append_nil]
  rw [cutN hk]
  exact rdE_ok (by rw [b, take_f]) (by rw [b, c, take_f, take_f]) h.k0 (fun hu => by rw [a] at hu; cases hu) rfl
 ·skip
  have t0 := h.tu0 a
  simp only at a b c t0 hk
  subst t0
  simp only [a, b, c, if_true, Bool.false_eq_true, if_false, List.nil_append, List.cons_append]
  rw [cutA hk]
  exact rdE_ok (by rw [b, take_q2]) (by rw [b, c, take_q2, take_q]) h.k0 (fun hu => by rw [a] at hu; cases hu) rfl
end
section
open Go
theorem ixLt {α : Type} (φ : α → Bool) : ∀ l : List α, idxOf φ l < (l.length : Int) ∧ (0 ≤ idxOf φ l → ∃ i x, idxOf φ l = ((i : Nat) : Int) ∧ l[i]? = some x ∧ φ x = true)
  | [] => ⟨by show (-1 : Int) < _; simp, fun h => by have : (0 : Int) ≤ -1 := h; omega⟩
  | x :: l => by
    obtain ⟨h1, h2⟩ := ixLt φ l
    have hge : idxOf φ (x :: l) = if φ x then 0 else if idxOf φ l == -1 then -1 else idxOf φ l + 1 := rfl
    cases hx : φ x with
    | true => rw [hge, hx, if_pos rfl]; exact ⟨by rw [List.length_cons]; omega, fun _ => ⟨0, x, rfl, rfl, hx⟩⟩
    | false =>
      rw [hge, hx, if_neg (by simp)]
      cases hm : (idxOf φ l == -1) with
      | true => rw [if_pos rfl]; exact ⟨by simp; omega, fun h => absurd h (by decide)⟩
      | false =>
        rw [if_neg (by simp)]
        refine ⟨by simp; omega, fun h => ?_⟩
        have hne : idxOf φ l ≠ -1 := by simpa using hm
        obtain ⟨i, y, e1, e2, e3⟩ := h2 (by omega)
        exact ⟨i + 1, y, by rw [e1]; rfl, by simpa using e2, e3⟩
theorem ix_kind {w : L8} (h : ¬ idxOf (fun y => w == y) ruleWs < 1) : 1 ≤ idxOf (fun y => w == y) ruleWs ∧ idxOf (fun y => w == y) ruleWs ≤ 8 ∧ w = ruleW (idxOf (fun y => w == y) ruleWs) := by
 obtain ⟨h1, h2⟩ := ixLt (fun y => w == y) ruleWs
 have h9 : (ruleWs.length : Int) = 9 := rfl
 obtain ⟨i, x, e1, e2, e3⟩ := h2 (by omega)
 have hi : i = 1 ∨ i = 2 ∨ i = 3 ∨ i = 4 ∨ i = 5 ∨ i = 6 ∨ i = 7 ∨ i = 8 := by omega
 have hw : w = x := by simpa using e3
 refine ⟨by omega, by omega, ?_⟩
 rw [e1, hw]
 rcases hi with h | h | h | h | h | h | h | h <;> subst h <;> (have e2 : some _ = some x := e2) <;> (obtain rfl := Option.some.inj e2) <;> decide
theorem or5 {a b c d e : Bool} (h : ((((a || b) || c) || d) || e) = false) : a = false ∧ b = false ∧ c = false ∧ d = false ∧ e = false := by
 cases a <;> cases b <;> cases c <;> cases d <;> cases e <;> simp_all
theorem take_cur {right last : Bool} {rest : L8} : (takeP false right last [] rest).1 = [] := by rw [take_f]
theorem rdE_sound {kd : Int} {k tu rest s : L8} (h1 : 1 ≤ kd) (h2 : kd ≤ 8) (hk : (32 : UInt8) ∉ k) (ht : usTu kd = true → (32 : UInt8) ∉ tu) (ht0 : usTu kd = false → tu = []) : rdE kd k tu rest s = (Rul.z, 8) ∨ ∃ r, ShOk r ∧ s = ruleT r := by
 unfold rdE
 split
 ·skip
  exact .inl rfl
 ·skip
  rename_i c
  obtain ⟨_, _, c3, c4, c5⟩ := or5 (Bool.eq_false_iff.2 c)
  refine .inr ⟨_, ⟨h1, h2, ?_, hk, fun hu => ⟨?_, ht hu⟩, ht0, fun ho => ?_, fun hn => ?_⟩, (by simpa using c5 : ruleT _ = s).symm⟩
  ·skip
   show k ≠ []
   simpa using c3
  ·skip
   have hu : usTu kd = true := hu
   rw [hu] at c4
   simpa using c4
  ·skip
   have ho : usOld kd = false := ho
   show (takeP (usOld kd) true false [] rest).1 = []
   rw [ho]; exact take_cur
  ·skip
   have hn : usNew kd = false := hn
   show (takeP (usNew kd) _ true [] _).1 = []
   rw [hn]; exact take_cur
theorem rd_sound {s : L8} (hl : decide ((s.length : Int) > 4000) = false) : rdR s = (Rul.z, 8) ∨ ∃ r, ShOk r ∧ s = ruleT r := by
 unfold rdR
 rw [if_neg (by rw [hl]; simp)]
 split
 ·skip
  exact .inl rfl
 ·skip
  rename_i c
  obtain ⟨h1, h2, _⟩ := ix_kind (by simpa using c)
  unfold rdK
  split
  ·skip
   rename_i hu
   exact rdE_sound h1 h2 (cutOne _) (fun _ => cutOne _) (fun h => by rw [hu] at h; cases h)
  ·skip
   rename_i hu
   exact rdE_sound h1 h2 (cutOne _) (fun h => absurd h hu) (fun _ => rfl)
theorem contains_of {s : L8} (h : Lib.contains s [32] = false) : (32 : UInt8) ∉ s := by
 rcases cutC s with ⟨h1, _⟩ | ⟨w, t, h1, h2, _⟩
 ·skip
  exact h1
 ·skip
  exfalso
  unfold Lib.contains at h
  rw [h2, idxA h1] at h
  simp at h
theorem quoP_sound {u : L8} (h : (quoP u).2.2 = true) : u = quoB (quoP u).1 ++ (quoP u).2.1 := by
 by_cases c : (u == [] || (bI (u.getD 0 0) != 34)) = true
 ·skip
  rw [quo_1 c] at h; cases h
 ·skip
  have c := Bool.eq_false_iff.2 c
  cases hq : qAt u 0 with
  | none => rw [quo_3 c hq] at h; cases h
  | some q =>
   obtain ⟨x, e⟩ := q
   rw [quo_2 c hq]
   rw [Bool.or_eq_false_iff] at c
   have h0 : u.getD 0 0 = 34 := by
    have h3 : (bI (u.getD 0 0) != 34) = false := c.2
    have h4 : bI (u.getD 0 0) = 34 := by simpa using h3
    unfold bI at h4
    exact UInt8.toNat_inj.1 (by show (u.getD 0 0).toNat = 34; omega)
   have h1 : u ≠ [] := by simpa using c.1
   have := (qAt_sound h0 h1 hq).1
   have e0 : quoB x = 34 :: (escB x ++ [34]) := by simp [quoB]
   rw [e0]; exact this
theorem prNew_sound {r : Rul} {u : L8} (hn : usNew r.kd = true) : prNew r u = (Rul.z, 8) ∨ ∃ nu, u = quoB nu := by
 unfold prNew
 rw [if_pos hn]
 split
 ·skip
  exact .inl rfl
 ·skip
  rename_i c
  have hq := quoP_sound (by simpa using c)
  unfold prEnd
  split
  ·skip
   exact .inl rfl
  ·skip
   rename_i c2
   have : (quoP u).2.1 = [] := by simpa using c2
   rw [this, List.append_nil] at hq
   exact .inr ⟨_, hq⟩
theorem parK_sound {kd : Int} {t : L8} (h1 : 1 ≤ kd) (h2 : kd ≤ 8) : parK kd t = (Rul.z, 8) ∨ ∃ r, ShOk r ∧ r.kd = kd ∧ t = r.k ++ tailT r := by
  unfold parK
  split
  · exact .inl rfl
  · rename_i c
    have c := Bool.eq_false_iff.2 c
    rw [Bool.or_eq_false_iff] at c
    obtain ⟨c1, c2⟩ := c
    have hk0 : (Lib.cut t [32]).1 ≠ [] := by simpa using c1
    rcases us_cases h1 h2 with ⟨a, b, d⟩ | ⟨a, b, d⟩ | ⟨a, b, d⟩ | ⟨a, b, d⟩
    · rcases cutC t with ⟨g1, g2⟩ | ⟨k, u, g1, g2, g3⟩
      · rw [g2, a] at c2; cases c2
      · rw [g3] at hk0 ⊢
        unfold prTo
        simp only [a, if_true]
        split
        · exact .inl rfl
        · rename_i e
          have e := Bool.eq_false_iff.2 e
          rw [Bool.or_eq_false_iff] at e
          exact .inr ⟨⟨kd, k, u, [], []⟩, ⟨h1, h2, hk0, g1, fun _ => ⟨by simpa using e.1, contains_of e.2⟩, fun h => (by rw [a] at h; cases h), fun _ => rfl, fun _ => rfl⟩, rfl, by rw [g2]; simp [tailT, a, b, d]⟩
    · rcases cutC t with ⟨g1, g2⟩ | ⟨k, u, g1, g2, g3⟩
      · rw [g2, a, b, d] at c2; cases c2
      · rw [g3] at hk0 ⊢
        unfold prTo
        simp only [a, Bool.false_eq_true, if_false]
        unfold prOld
        simp only [b, Bool.false_eq_true, if_false]
        rcases prNew_sound (r := ⟨kd, k, [], [], []⟩) (u := u) d with e | ⟨nu, e⟩
        · exact .inl e
        · exact .inr ⟨⟨kd, k, [], [], nu⟩, ⟨h1, h2, hk0, g1, fun h => (by rw [a] at h; cases h), fun _ => rfl, fun _ => rfl, fun h => (by rw [d] at h; cases h)⟩, rfl, by rw [g2, e]; simp [tailT, a, b, d]⟩
    · rcases cutC t with ⟨g1, g2⟩ | ⟨k, u, g1, g2, g3⟩
      · rw [g2] at hk0
        exact .inr ⟨⟨kd, t, [], [], []⟩, ⟨h1, h2, hk0, g1, fun h => (by rw [a] at h; cases h), fun _ => rfl, fun _ => rfl, fun _ => rfl⟩, rfl, by simp [tailT, a, b, d]⟩
      · rw [g3, a, b, d] at c2; cases c2
    · rcases cutC t with ⟨g1, g2⟩ | ⟨k, u, g1, g2, g3⟩
      · rw [g2, a, b, d] at c2; cases c2
      · rw [g3] at hk0 ⊢
        unfold prTo
        simp only [a, Bool.false_eq_true, if_false]
        unfold prOld
        simp only [b, if_true]
        split
        · exact .inl rfl
        · rename_i e
          have e := Bool.eq_false_iff.2 e
          rw [Bool.or_eq_false_iff] at e
          have hq := quoP_sound (show (quoP u).2.2 = true by simpa using e.1)
          obtain ⟨v, hv⟩ := hasPrefix_iff.1 (show Lib.hasPrefix (quoP u).2.1 [32] = true by simpa using e.2)
          rw [hv]
          rcases prNew_sound (r := ⟨kd, k, [], (quoP u).1, []⟩) (u := v) d with e2 | ⟨nu, e2⟩
          · exact .inl e2
          · refine .inr ⟨⟨kd, k, [], (quoP u).1, nu⟩, ⟨h1, h2, hk0, g1, fun h => (by rw [a] at h; cases h), fun _ => rfl, fun h => (by rw [b] at h; cases h), fun h => (by rw [d] at h; cases h)⟩, rfl, ?_⟩
            rw [hv, e2] at hq
            rw [g2]
            show k ++ 32 :: u = k ++ tailT _
            rw [show tailT ⟨kd, k, [], (quoP u).1, nu⟩ = 32 :: (quoB (quoP u).1 ++ 32 :: quoB nu) from by simp [tailT, a, b, d]]
            exact congrArg (fun z => k ++ 32 :: z) hq
theorem par_sound {s : L8} (hl : decide ((s.length : Int) > 4000) = false) : parR s = (Rul.z, 8) ∨ ∃ r, ShOk r ∧ s = ruleT r := by
 unfold parR
 rw [if_neg (by rw [hl]; simp)]
 split
 ·skip
  exact .inl rfl
 ·skip
  rename_i c
  have c := Bool.eq_false_iff.2 c
  rw [Bool.or_eq_false_iff] at c
  rcases cutC s with ⟨g1, g2⟩ | ⟨w, t, g1, g2, g3⟩
  ·skip
   rw [g2] at c; cases c.1
  ·skip
   rw [g3] at c ⊢
   obtain ⟨h1, h2, hw⟩ := ix_kind (w := w) (by simpa using c.2)
   rcases parK_sound (t := t) h1 h2 with e | ⟨r, hr, e1, e2⟩
   ·skip
    exact .inl e
   ·skip
    refine .inr ⟨r, hr, ?_⟩
    rw [ruleT_eq, e1, ← hw, g2, e2]
theorem readers (s : L8) : rdR s = parR s := by
 cases hl : decide ((s.length : Int) > 4000) with
 | true => rw [rd_1 hl]; unfold parR; rw [if_pos hl]
 | false =>
  have hle : s.length ≤ 4000 := by simp at hl; omega
  have key : ∀ r, ShOk r → s = ruleT r → rdR s = parR s := fun r hr e => by
   subst e
   rw [rd_print hr hle, par_print hr hle]
  rcases rd_sound hl with h1 | ⟨r, hr, e⟩
  ·skip
   rcases par_sound hl with h2 | ⟨r, hr, e⟩
   ·skip
    rw [h1, h2]
   ·skip
    exact key r hr e
  ·skip
   exact key r hr e
end
section
open Go
def mvL (m : Mv) : List Int := [rangeE m.f, firstNe ([m.t].map Ver.check), if decide (((m.rs.map fun x => ([.str x] : List D)).length : Int) > 100) then 4 else 0]
def mvI (m : Mv) (i : Nat) : Int := firstNe (mvL m ++ (m.rs.map fun s => (parR s).2).take i)
theorem mvI_0 (m : Mv) : firstNe (mvL m) = mvI m 0 := by unfold mvI; simp
theorem mvI_s {m : Mv} {i : Nat} (hi : i < m.rs.length) : firstNe [mvI m i, (rdR (m.rs.getD i [])).2] = mvI m (i + 1) := by
 unfold mvI
 rw [readers, first2, take_getD (d := (0 : Int)) (by simpa using hi), ← List.append_assoc, firstNe_snoc, map_at (f := fun s => (parR s).2) (d := ([] : L8)) hi]
theorem mvI_end (m : Mv) : mvI m m.rs.length = moveE m := by
 unfold mvI mvL moveE
 rw [List.take_of_length_le (by simp), List.length_map]
 simp only [List.cons_append, List.nil_append, List.map_cons, List.map_nil]
 have e1 : firstNe [m.t.check] = m.t.check := by
  have h1 : firstNe ([] ++ [m.t.check]) = firstB (firstNe []) m.t.check := firstNe_snoc [] _
  exact h1
 rw [e1, firstNe_cons, firstNe_cons, firstNe_cons]
 have e2 : (readM m.rs).2 = firstNe (m.rs.map fun s => (parR s).2) := by
  unfold readM readE
  split
  ·skip
   rfl
  ·skip
   rename_i h; simpa using (show firstNe (m.rs.map fun s => (parR s).2) = 0 by simpa using h).symm
 rw [e2]
 unfold firstB
 by_cases h : decide ((m.rs.length : Int) > 100) = true
 ·skip
  rw [if_pos h, if_pos h]; rfl
 ·skip
  rw [if_neg h, if_neg h]; rfl
theorem mv_0 {m : Mv} (h : moveE m = 0) : rangeE m.f = 0 ∧ m.t.check = 0 := by
 unfold moveE at h
 split at h
 ·skip
  rename_i h1; rw [h] at h1; exact absurd h1 (by decide)
 ·skip
  rename_i h1
  split at h
  ·skip
   rename_i h2; rw [h] at h2; exact absurd h2 (by decide)
  ·skip
   rename_i h2; exact ⟨by simpa using h1, by simpa using h2⟩
theorem has_mv {m : Mv} {v : Ver} (h : moveE m = 0) (hv : v.check = 0) : hasM m v = hasR m.f v := by
 have h1 := (mv_0 h).1
 unfold hasM HasB
 rw [if_neg (by rw [h1]; decide), if_neg (by rw [hv]; decide)]
 exact has_eq h1 hv
theorem mv_all {l : List Mv} (h : ((l.map moveE).take l.length).all (· == 0) = true) : ∀ m ∈ l, moveE m = 0 := fun m hm => by
 rw [List.take_of_length_le (by simp), List.all_eq_true] at h
 simpa using h _ (List.mem_map.2 ⟨m, hm, rfl⟩)
theorem end_ok {l : List Mv} {v : Ver} {ks : List Nat} (hm : ∀ m ∈ l, moveE m = 0) (hv : v.check = 0) (hw : Wlk l v ks) : (wEnd l v ks).check = 0 := by
 rcases wEnd_mem hw with h | ⟨m, h1, h2⟩
 ·skip
  rw [h]; exact hv
 ·skip
  rw [← h2]; exact (mv_0 (hm m h1)).2
theorem end_len {l : List Mv} {v : Ver} {ks : List Nat} {B : Nat} (hm : ∀ m ∈ l, m.t.e.length < B) (hv : v.e.length < B) (hw : Wlk l v ks) : (wEnd l v ks).e.length < B := by
 rcases wEnd_mem hw with h | ⟨m, h1, h2⟩
 ·skip
  rw [h]; exact hv
 ·skip
  rw [← h2]; exact hm m h1
theorem cmpN_step {x y : List Nat} {i : Nat} (hi : i < x.length) (hj : i < y.length) : cmpN (x.drop i) (y.drop i) = if Lib.compareInt (x.getD i 0 : Nat) (y.getD i 0 : Nat) != 0 then Lib.compareInt (x.getD i 0 : Nat) (y.getD i 0 : Nat) else cmpN (x.drop (i + 1)) (y.drop (i + 1)) := by
  rw [List.drop_eq_getElem_cons hi, List.drop_eq_getElem_cons hj]
  have e1 : x.getD i 0 = x[i] := by rw [List.getD_eq_getElem?_getD, List.getElem?_eq_getElem hi]; rfl
  have e2 : y.getD i 0 = y[i] := by rw [List.getD_eq_getElem?_getD, List.getElem?_eq_getElem hj]; rfl
  rw [e1, e2]
  generalize x[i] = a
  generalize y[i] = b
  show (if a < b then -1 else if b < a then 1 else cmpN _ _) = _
  unfold Lib.compareInt
  by_cases h1 : a < b
  · have h2 : (a : Int) < (b : Int) := by omega
    rw [if_pos h1, if_pos h2]; rfl
  · have h2 : ¬ (a : Int) < (b : Int) := by omega
    rw [if_neg h1, if_neg h2]
    by_cases h3 : b < a
    · have h4 : (a : Int) > (b : Int) := by omega
      rw [if_pos h3, if_pos h4]; rfl
    · have h4 : ¬ (a : Int) > (b : Int) := by omega
      rw [if_neg h3, if_neg h4]; rfl
theorem cmpN_hit {x y : List Nat} {i : Nat} {r : Int} (hi : i < x.length) (hj : i < y.length) (h : cmpN (x.drop i) (y.drop i) = r) (c : (Lib.compareInt (x.getD i 0 : Nat) (y.getD i 0 : Nat) != 0) = true) : Lib.compareInt (x.getD i 0 : Nat) (y.getD i 0 : Nat) = r := by
 rw [cmpN_step hi hj, if_pos c] at h; exact h
theorem cmpN_go {x y : List Nat} {i : Nat} {r : Int} (hi : i < x.length) (hj : i < y.length) (h : cmpN (x.drop i) (y.drop i) = r) (c : (Lib.compareInt (x.getD i 0 : Nat) (y.getD i 0 : Nat) != 0) = false) : cmpN (x.drop (i + 1)) (y.drop (i + 1)) = r := by
 rw [cmpN_step hi hj, if_neg (Bool.eq_false_iff.1 c)] at h; exact h
theorem cmpN_more {x y : List Nat} {i : Nat} {r : Int} (hi : i < x.length) (hj : y.length ≤ i) (h : cmpN (x.drop i) (y.drop i) = r) : 1 = r := by
 rw [List.drop_eq_getElem_cons hi, List.drop_of_length_le hj] at h; exact h
theorem cmpN_less {x y : List Nat} {i : Nat} {r : Int} (hi : x.length ≤ i) (hj : i < y.length) (h : cmpN (x.drop i) (y.drop i) = r) : -1 = r := by
 rw [List.drop_of_length_le hi, List.drop_eq_getElem_cons hj] at h; exact h
theorem cmpN_same {x y : List Nat} {i : Nat} {r : Int} (hi : x.length ≤ i) (hj : y.length ≤ i) (h : cmpN (x.drop i) (y.drop i) = r) : 0 = r := by
 rw [List.drop_of_length_le hi, List.drop_of_length_le hj] at h; exact h
theorem nb_dn0 (l : List Mv) (v : Ver) (n : Nat) : NB l v n (fun d _ => d ∈ ([] : List Stp)) [] := (nb_0 l v n).mono (fun d i _ h => by cases h)
theorem nb_in {l : List Mv} {v : Ver} {n : Nat} {dn : List Stp} {y : Stp} {N : LayT} (h : NB l v n (fun d _ => d ∈ dn) N) : NB l v n (fun d j => d ∈ dn ∨ (d = y ∧ j < 0)) N :=
 h.mono (fun d i _ h => h.elim id (fun h => absurd h.2 (Nat.not_lt_zero _)))
theorem nb_next {l : List Mv} {v : Ver} {n i : Nat} {dn : List Stp} {y : Stp} {N : LayT} (h : NB l v n (fun d j => (d ∈ dn ∨ (d = y ∧ j < i)) ∨ (d = y ∧ j = i)) N) : NB l v n (fun d j => d ∈ dn ∨ (d = y ∧ j < i + 1)) N :=
 h.mono (fun d j _ h => by
  rcases h with h | ⟨h1, h2⟩
  ·skip
   exact .inl (.inl h)
  ·skip
   rcases Nat.lt_or_ge j i with h3 | h3
   ·skip
    exact .inl (.inr ⟨h1, h3⟩)
   ·skip
    exact .inr ⟨h1, by omega⟩)
theorem nb_out {l : List Mv} {v : Ver} {n i : Nat} {dn : List Stp} {y : Stp} {N : LayT} (h : NB l v n (fun d j => d ∈ dn ∨ (d = y ∧ j < i)) N) (hi : l.length ≤ i) : NB l v n (fun d _ => d ∈ dn ++ [y]) N :=
 h.mono (fun d j hj h => by
  rcases List.mem_append.1 h with h | h
  ·skip
   exact .inl h
  ·skip
   exact .inr ⟨List.mem_singleton.1 h, by omega⟩)
theorem nb_tb {l : List Mv} {v : Ver} {n : Nat} {dn : List Stp} {T N : LayT} (ht : TB l v n T) (hp : List.Perm T dn) (h : NB l v n (fun d _ => d ∈ dn) N) : TB l v (n + 1) N :=
 NB.done ht (h.mono (fun d j _ h => hp.mem_iff.1 h))
theorem getW_len {B : Nat} (k : Ver) : ∀ {N : LayT}, (∀ e ∈ N, e.2.length ≤ B) → (getL beqV [] N k).length ≤ B
  | [], _ => Nat.zero_le _
  | x :: N, h => by
    unfold getL
    cases hb : beqV k x.1 with
    | true => exact h x (by simp)
    | false => exact getW_len k (fun e he => h e (by simp [he]))
theorem nb_len {l : List Mv} {v : Ver} {n : Nat} {Dn : Stp → Nat → Prop} {N : LayT} (h : NB l v n Dn N) (k : Ver) : (getL beqV [] N k).length ≤ n + 1 := getW_len k (fun e he => Nat.le_of_eq (h.hit e he).2.2)
section
variable {l : List Mv} {v w : Ver} (h00 : wayP l v w = if v.check != 0 then ([], v.check) else if w.check != 0 then ([], w.check) else bfs l w (l.length + 1) [(v, true)] [(v, [])])
include h00
theorem wr_e (h : (firstNe ([v, w].map Ver.check) != 0) = true) : wayP l v w = ([], firstNe ([v, w].map Ver.check)) := by
 rw [h00]
 simp only [List.map_cons, List.map_nil] at h ⊢
 rw [first2] at h ⊢
 unfold firstB at h ⊢
 by_cases h1 : (v.check != 0) = true
 ·skip
  rw [if_pos h1, if_pos h1]
 ·skip
  rw [if_neg h1] at h
  rw [if_neg h1, if_neg h1, if_pos h]
theorem wr_0 (h : (firstNe ([v, w].map Ver.check) != 0) = false) : (v.check = 0 ∧ w.check = 0) ∧ wayP l v w = bfs l w (l.length + 1) [(v, true)] [(v, [])] := by
 have h0 : firstNe ([v, w].map Ver.check) = 0 := by simpa using h
 have hz := firstNe_zero h0
 have h1 : v.check = 0 := hz _ (by simp)
 have h2 : w.check = 0 := hz _ (by simp)
 refine ⟨⟨h1, h2⟩, ?_⟩
 rw [h00, if_neg (by rw [h1]; decide), if_neg (by rw [h2]; decide)]
end
end
section
open Go Go.RowKit
def pickAt {α : Type} : List Nat → List α → Option (List α)
  | [], _ => some []
  | q :: ρ, B => match B[q]?, pickAt ρ B with
    | some x, some l => some (x :: l)
    | _, _ => none
theorem pickAt_get {α : Type} : ∀ {ρ : List Nat} {B l : List α}, pickAt ρ B = some l → l.length = ρ.length ∧ ∀ i, i < ρ.length → B[ρ.getD i 0]? = l[i]? ∧ ρ.getD i 0 < B.length
  | [], B, l, h => by
    obtain rfl : [] = l := by simpa [pickAt] using h
    exact ⟨rfl, fun i hi => absurd hi (Nat.not_lt_zero _)⟩
  | q :: ρ, B, l, h => by
    unfold pickAt at h
    cases h1 : B[q]? with
    | none => rw [h1] at h; simp at h
    | some x =>
      cases h2 : pickAt ρ B with
      | none => rw [h1, h2] at h; simp at h
      | some l1 =>
        rw [h1, h2] at h
        obtain rfl : x :: l1 = l := by simpa using h
        obtain ⟨h3, h4⟩ := pickAt_get h2
        refine ⟨by simp [h3], fun i hi => ?_⟩
        cases i with
        | zero => exact ⟨by simpa using h1, by simpa using (List.getElem?_eq_some_iff.1 h1).1⟩
        | succ i => simpa using h4 i (by simpa using hi)
def pickR (ρb ρr ρm : List Nat) : Ren := ⟨fun i => ρb.getD i 0, fun i => ρr.getD i 0, fun i => ρm.getD i 0⟩
def renL (p : Ren) : List (Nat × V) → List (Nat × V)
 | [] => []
 | (k, v) :: l => (k, renV p v) :: renL p l
theorem ofL_ren (p : Ren) : ∀ (l : List (Nat × V)) (j : Nat), ofL (renL p l) j = renV p (ofL l j)
  | [], _ => by simp [renL, ofL, renV]
  | (k, u) :: l, j => by
    show (bif Nat.beq k j then renV p u else ofL (renL p l) j) = renV p (bif Nat.beq k j then u else ofL l j)
    cases Nat.beq k j with
    | true => rfl
    | false => exact ofL_ren p l j
def upTo : Nat → List Nat → Bool
 | 0, _ => true
 | k + 1, ρ => Nat.blt k ρ.length && (Nat.beq (ρ.getD k 0) k && upTo k ρ)
theorem upTo_at {ρ : List Nat} : ∀ {k : Nat}, upTo k ρ = true → ∀ i, i < k → ρ.getD i 0 = i ∧ i < ρ.length
  | 0, _, i, hi => absurd hi (Nat.not_lt_zero _)
  | k + 1, h, i, hi => by
    unfold upTo at h
    simp only [Bool.and_eq_true, Nat.blt_eq] at h
    rcases Nat.lt_or_ge i k with h1 | h1
    · exact upTo_at h.2.2 i h1
    · obtain rfl : i = k := by omega
      exact ⟨Nat.eq_of_beq_eq_true h.2.1, h.1⟩
theorem nodupB_inj : ∀ {ρ : List Nat}, nodupB ρ = true → ∀ i j, i < ρ.length → j < ρ.length → ρ.getD i 0 = ρ.getD j 0 → i = j
  | [], _, i, _, hi, _, _ => absurd hi (Nat.not_lt_zero _)
  | x :: l, h, i, j, hi, hj, he => by
    unfold nodupB at h
    simp only [Bool.and_eq_true, List.all_eq_true] at h
    have hx : ∀ k, k < l.length → x ≠ l.getD k 0 := fun k hk e => by
      have := h.1 (l.getD k 0) (by rw [List.getD_eq_getElem?_getD, List.getElem?_eq_getElem hk]; exact List.getElem_mem _)
      rw [← e] at this; simp at this
    cases i with
    | zero =>
      cases j with
      | zero => rfl
      | succ j => exact absurd (by simpa using he) (hx j (by simpa using hj))
    | succ i =>
      cases j with
      | zero => exact absurd (by simpa using he.symm) (hx i (by simpa using hi))
      | succ j =>
        have := nodupB_inj h.2 i j (by simpa using hi) (by simpa using hj) (by simpa using he)
        omega
theorem Rel.pick {J : Inv} {k0 : Lens} {E : Env J k0} {n : Nat} {t : Nat → V} {g : Gh} {a : Act} {w : World} {B b : List (List C)} {R r : List (Option RowO)} {M m : List (List (DV × DV))} {l : List (Nat × V)} (ρb ρr ρm : List Nat)
    (hb : pickAt ρb B = some (renB (pickR ρb ρr ρm) b)) (hr : pickAt ρr R = some r) (hm : pickAt ρm M = some m) (hl : holdsL t (renL (pickR ρb ρr ρm) l))
    (hlow : ((loL b.length r.length m.length l && loB b.length r.length m.length b) && ((upTo k0.L ρb && (upTo k0.R ρr && upTo k0.M ρm)) && (nodupB ρb && (nodupB ρr && nodupB ρm)))) = true) (rel : Rel E n g ⟨t, B, R, M⟩ a w) :
    Rel E n { im := g.im, at_ := fun x => g.at_ ((pickR ρb ρr ρm).loc x), off := fun i => g.off (ρr.getD i 0), cap := fun i => g.cap (ρr.getD i 0) } ⟨ofL l, b, r, m⟩ a w := by
  simp only [Bool.and_eq_true] at hlow
  obtain ⟨⟨hlo1, hlo2⟩, ⟨hu1, hu2, hu3⟩, hn1, hn2, hn3⟩ := hlow
  obtain ⟨hb1, hb2⟩ := pickAt_get hb
  obtain ⟨hr1, hr2⟩ := pickAt_get hr
  obtain ⟨hm1, hm2⟩ := pickAt_get hm
  have hb1 : b.length = ρb.length := by rw [← hb1, renB_map]; simp
  have hbat : ∀ q cs, b[q]? = some cs → B[ρb.getD q 0]? = some (renCs (pickR ρb ρr ρm) cs) := fun q cs hq => by
    have hlt := (List.getElem?_eq_some_iff.1 hq).1
    rw [(hb2 q (by omega)).1, renB_map]; simp [hq]
  have hrat : ∀ q, q < r.length → R[ρr.getD q 0]? = r[q]? := fun q hq => (hr2 q (by omega)).1
  have hmat : ∀ q, q < m.length → M[ρm.getD q 0]? = m[q]? := fun q hq => (hm2 q (by omega)).1
  have hlive : ∀ x, (⟨ofL l, b, r, m⟩ : St).live x → (⟨t, B, R, M⟩ : St).live ((pickR ρb ρr ρm).loc x) := fun x hx => by
    cases x with
    | b q => exact (hb2 q (by have : q < b.length := hx; omega)).2
    | r q =>
      obtain ⟨o, ho, hal⟩ := hx
      have ho : r[q]? = some (some o) := ho
      exact ⟨o, (hrat q (List.getElem?_eq_some_iff.1 ho).1).trans ho, hal⟩
    | m q => exact (hm2 q (by have : q < m.length := hx; omega)).2
  have hinj : ∀ x y, (⟨ofL l, b, r, m⟩ : St).live x → (⟨ofL l, b, r, m⟩ : St).live y → (pickR ρb ρr ρm).loc x = (pickR ρb ρr ρm).loc y → x = y := fun x y hx hy he => by
    cases x with
    | b q => cases y with
      | b q' => rw [nodupB_inj hn1 q q' (by have : q < b.length := hx; omega) (by have : q' < b.length := hy; omega) (Loc.b.inj he)]
      | r q' => cases he
      | m q' => cases he
    | r q => cases y with
      | b q' => cases he
      | r q' =>
        obtain ⟨o, ho, _⟩ := hx
        obtain ⟨o', ho', _⟩ := hy
        have h1 : q < r.length := (List.getElem?_eq_some_iff.1 (show r[q]? = some (some o) from ho)).1
        have h2 : q' < r.length := (List.getElem?_eq_some_iff.1 (show r[q']? = some (some o') from ho')).1
        rw [nodupB_inj hn2 q q' (by omega) (by omega) (Loc.r.inj he)]
      | m q' => cases he
    | m q => cases y with
      | b q' => cases he
      | r q' => cases he
      | m q' => rw [nodupB_inj hn3 q q' (by have : q < m.length := hx; omega) (by have : q' < m.length := hy; omega) (Loc.m.inj he)]
  have hrsh : ∀ q, q < r.length → (⟨t, B, R, M⟩ : St).sh.rows[ρr.getD q 0]? = (⟨ofL l, b, r, m⟩ : St).sh.rows[q]? := fun q hq => by
    show (R.map (·.map RowO.form))[ρr.getD q 0]? = (r.map (·.map RowO.form))[q]?
    rw [List.getElem?_map, List.getElem?_map, hrat q hq]
  have e : Emb (pickR ρb ρr ρm) (⟨ofL l, b, r, m⟩ : St).sh (⟨t, B, R, M⟩ : St).sh { im := g.im, at_ := fun x => g.at_ ((pickR ρb ρr ρm).loc x), off := fun i => g.off (ρr.getD i 0), cap := fun i => g.cap (ρr.getD i 0) } g :=
    ⟨fun q hq => ⟨(hb2 q (by have : q < b.length := hq; omega)).2, rfl⟩, fun q hq => by
      have hq : q < r.length := by simpa [St.sh] using hq
      exact ⟨by show ρr.getD q 0 < (R.map _).length; rw [List.length_map]; exact (hr2 q (by omega)).2, hrsh q hq, rfl, rfl, rfl⟩, fun q hq => ⟨(hm2 q (by have : q < m.length := hq; omega)).2, rfl⟩⟩
  have hRl : (⟨ofL l, b, r, m⟩ : St).sh.rows.length = r.length := by simp [St.sh]
  refine ⟨rel.below, ?_, rel.imlt, rel.imold, fun x hx => rel.own _ (hlive x hx), ⟨fun x hx => rel.heap.lt _ (hlive x hx), fun x hx => rel.heap.new _ (hlive x hx), fun x y hx hy he => hinj x y hx hy (rel.heap.inj _ _ (hlive x hx) (hlive y hy) he), fun q cs hq => ?_, fun q o hq => ?_, fun q es hq => ?_⟩, rel.size, rel.defers, fun i hi => ?_⟩
  · have x := rel.ext
    refine ⟨x.im, x.same, ?_, ?_, ?_, fun q hq => ?_, fun q hq => ?_, fun q al ver sz len hq hh => ?_⟩
    · rw [E.hL]
      show k0.L ≤ b.length
      cases hk : k0.L with
      | zero => exact Nat.zero_le _
      | succ k => have := (upTo_at hu1 k (by omega)).2; omega
    · rw [E.hM]
      show k0.M ≤ m.length
      cases hk : k0.M with
      | zero => exact Nat.zero_le _
      | succ k => have := (upTo_at hu3 k (by omega)).2; omega
    · rw [E.hR, hRl]
      cases hk : k0.R with
      | zero => exact Nat.zero_le _
      | succ k => have := (upTo_at hu2 k (by omega)).2; omega
    · rw [← x.atB q hq]
      show g.at_ (.b (ρb.getD q 0)) = _
      rw [(upTo_at hu1 q (by rw [← E.hL]; exact hq)).1]
    · rw [← x.atM q hq]
      show g.at_ (.m (ρm.getD q 0)) = _
      rw [(upTo_at hu3 q (by rw [← E.hM]; exact hq)).1]
    · obtain ⟨hi1, hi2⟩ := upTo_at hu2 q (by rw [← E.hR]; exact hq)
      have h1 := hrsh q (by omega)
      rw [hi1] at h1
      obtain ⟨al0, ver0, sz0, len0, h2, h3, h4⟩ := x.rows q al ver sz len hq (h1.trans hh)
      refine ⟨al0, ver0, sz0, len0, h2, h3, fun hv => ?_⟩
      obtain ⟨h5, h6, h7, h8, h9, h10⟩ := h4 hv
      refine ⟨h5, h6, h7, ?_, ?_, ?_⟩
      · show g.at_ (.r (ρr.getD q 0)) = _; rw [hi1]; exact h8
      · show g.off (ρr.getD q 0) = _; rw [hi1]; exact h9
      · show g.cap (ρr.getD q 0) = _; rw [hi1]; exact h10
  · obtain ⟨vs, ty, h1, h2, h3⟩ := rel.heap.box _ _ (hbat q cs hq)
    refine ⟨vs, ty, h1, by rw [h2, renCs_map]; simp, fun j c v hc hv => ?_⟩
    have hlc := loCs_at (loB_at hlo2 q cs hq) j c hc
    exact RC.down e rfl (by rw [hRl]; exact hlc) (h3 j _ v (by rw [renCs_map]; simp [hc]) hv)
  · have hq : r[q]? = some (some o) := hq
    exact rel.heap.row _ o ((hrat q (List.getElem?_eq_some_iff.1 hq).1).trans hq)
  · have hq : m[q]? = some es := hq
    obtain ⟨arr, clock, h1, h2, h3⟩ := rel.heap.map _ es ((hmat q (List.getElem?_eq_some_iff.1 hq).1).trans hq)
    have hdv : ∀ (x : DV) (v : Value), RV g (⟨t, B, R, M⟩ : St).sh w x.v v → RV { im := g.im, at_ := fun x => g.at_ ((pickR ρb ρr ρm).loc x), off := fun i => g.off (ρr.getD i 0), cap := fun i => g.cap (ρr.getD i 0) } (⟨ofL l, b, r, m⟩ : St).sh w x.v v := fun x v hx =>
      RV.down e rfl (loDV _ _ _ x) (by
        rw [DV_ren]; exact hx)
    exact ⟨arr, clock, h1, h2, fun i x y hx hy => ⟨hdv _ _ (h3 i x y hx hy).1, hdv _ _ (h3 i x y hx hy).2⟩⟩
  · show RV _ _ _ (ofL l i) _
    have h1 := rel.tmps i hi
    rcases ofL_or t (renL (pickR ρb ρr ρm) l) hl i with h | h
    · rw [ofL_ren] at h
      have : ofL l i = .junk := by
        cases hx : ofL l i <;> rw [hx] at h <;> first | rfl | (simp [renV] at h)
      rw [this]; exact .junk _
    · rw [ofL_ren] at h
      have h2 : RV g (⟨t, B, R, M⟩ : St).sh w (t i) (a.tmps.getD i undef) := h1
      rw [← h] at h2
      exact RV.down e rfl (by rw [hRl]; exact loL_of hlo1 i) h2
theorem W.pick {J : Inv} {k0 : Lens} {E : Env J k0} {P : Program} {n : Nat} {t : Nat → V} {c : Code} {K : Ex → St → Prop} {B b : List (List C)} {R r : List (Option RowO)} {M m : List (List (DV × DV))} {l : List (Nat × V)} (ρb ρr ρm : List Nat)
  (hb : pickAt ρb B = some (renB (pickR ρb ρr ρm) b)) (hr : pickAt ρr R = some r) (hm : pickAt ρm M = some m) (hl : holdsL t (renL (pickR ρb ρr ρm) l))
  (hlow : ((loL b.length r.length m.length l && loB b.length r.length m.length b) && ((upTo k0.L ρb && (upTo k0.R ρr && upTo k0.M ρm)) && (nodupB ρb && (nodupB ρr && nodupB ρm)))) = true) (h : W E P n c K ⟨ofL l, b, r, m⟩) : W E P n c K ⟨t, B, R, M⟩ :=
 h.weaken fun g a w rel => ⟨_, Rel.pick ρb ρr ρm hb hr hm hl hlow rel⟩
end
section
open Go Go.RowKit
open Go.ChangeMaps (setBlock)
def DV.stp (n c : Nat) : DV → DV
 | .one d => .st n c d
 | .agg ds => .sta n c ds
 | .st _ _ d => .st n c d
 | .sta _ _ ds => .sta n c ds
def DV.bare : DV → Bool
 | .one _ => true
 | .agg _ => true
 | _ => false
theorem DV.stp_v (n c : Nat) (k : DV) : (DV.stp n c k).v = k.v := by cases k <;> rfl
theorem DV.stp_at {n c b cl : Nat} {k : DV} (h : (DV.stp n c k).stamp b cl) : b = n ∧ cl = c := by cases k <;> exact h
theorem DV.stp_in (n c : Nat) (k : DV) : (DV.stp n c k).stamp n c := by cases k <;> exact ⟨rfl, rfl⟩
theorem DV.bare_at {k : DV} (h : k.bare = true) (b c : Nat) : k.stamp b c := by
 cases k with
 | one d => trivial
 | agg d => trivial
 | st _ _ _ => cases h
 | sta _ _ _ => cases h
section
variable {J : Inv} {k0 : Lens} {E : Env J k0} {P : Program} {T : TypeId → Option TI} {n : Nat} {t : Nat → V} {b : List (List C)} {r : List (Option RowO)} {m : List (List (DV × DV))} {ops : Array Oper} {l : List Oper}
  {K : St → Prop} {i : Nat} {ty : TypeId} {pos : String} {after : Array Edge}
variable {α β : Type}
def stMapK (c : Nat) (fK : α → DV) (fD : β → DV) (l : List (Nat × α × β)) : List (DV × DV) := l.map fun x => (DV.stp x.1 c (fK x.2.1), fD x.2.2)
theorem stMapK_get {c : Nat} {fK : α → DV} {fD : β → DV} {l : List (Nat × α × β)} {i : Nat} {x : DV × DV} (h : (stMapK c fK fD l)[i]? = some x) : ∃ y, l[i]? = some y ∧ (DV.stp y.1 c (fK y.2.1), fD y.2.2) = x := by
 unfold stMapK at h
 rw [List.getElem?_map] at h
 cases hy : l[i]? with
 | none => rw [hy] at h; cases h
 | some y => rw [hy] at h; exact ⟨y, rfl, by simpa using h⟩
theorem stMapK_at {c : Nat} {fK : α → DV} {fD : β → DV} {l : List (Nat × α × β)} {i : Nat} {y : Nat × α × β} (h : l[i]? = some y) : (stMapK c fK fD l)[i]? = some (DV.stp y.1 c (fK y.2.1), fD y.2.2) := by
 unfold stMapK; rw [List.getElem?_map, h]; rfl
theorem stMapK_map {fK : α → DV} {fD : β → DV} {l : List (Nat × α × β)} {i : Nat} {x : DV × DV} (h : (mapOfF fK fD (l.map (·.2)))[i]? = some x) : ∃ y, l[i]? = some y ∧ (fK y.2.1, fD y.2.2) = x := by
 unfold mapOfF at h
 rw [List.getElem?_map, List.getElem?_map] at h
 cases hy : l[i]? with
 | none => rw [hy] at h; cases h
 | some y => rw [hy] at h; exact ⟨y, rfl, by simpa using h⟩
theorem Rel.unStK {fK : α → DV} (hK : ∀ a, (fK a).bare = true) {s : St} {g : Gh} {a : Act} {w : World} (r : Rel E n g s a w) {mi c : Nat} {fD : β → DV} {T : List (Nat × α × β)} (hm : s.m[mi]? = some (stMapK c fK fD T)) :
  Rel E n g ⟨s.t, s.b, s.r, s.m.set mi (mapOfF fK fD (T.map (·.2)))⟩ a w := by
 refine r.retell hm fun arr clock h1 h2 _ => ⟨⟨?_, fun i x e hx he => ?_⟩, fun i x e hx he => ?_⟩
 ·skip
  have := h1.1; simpa [stMapK, mapOfF] using this
 ·skip
  obtain ⟨y, _, rfl⟩ := stMapK_map hx; exact DV.bare_at (hK _) _ _
 ·skip
  obtain ⟨y, hy, rfl⟩ := stMapK_map hx
  obtain ⟨c1, c2⟩ := h2 i _ e (stMapK_at hy) he
  have c1 : RV g s.sh w (DV.stp y.1 c (fK y.2.1)).v e.key := c1
  rw [DV.stp_v] at c1
  exact ⟨c1, c2⟩
theorem W.unStK {fK : α → DV} (hK : ∀ a, (fK a).bare = true) {c0 : Code} {KK : Ex → St → Prop} {mi c : Nat} {fD : β → DV} {T : List (Nat × α × β)} {l0 : List (α × β)} (hm : m[mi]? = some (stMapK c fK fD T)) (hl : T.map (·.2) = l0) {m' : List (List (DV × DV))} (hm' : m.set mi (mapOfF fK fD l0) = m')
  (h : W E P n c0 KK ⟨t, b, r, m'⟩) : W E P n c0 KK ⟨t, b, r, m⟩ := by
 subst hl; subst hm'
 exact h.weaken fun g a w rel => ⟨g, rel.unStK hK hm⟩
theorem S.entryK {x : Operand} {q : V} {mi born c j : Nat} {es : List (DV × DV)} {kd : DV} {vd : DV} (hE : EntAt E q mi born c) (hx : opd n ⟨t, b, r, m⟩ x = (true, q)) (hm : m[mi]? = some es) (hj : es[j]? = some (DV.stp born c kd, vd))
  (k : WL E P n ops l K ⟨upd t i (.tup [kd.v, vd.v]), b, r, m⟩) : WL E P n ops (⟨some i, .entry x, ty, pos, after, none⟩ :: l) K ⟨t, b, r, m⟩ := by
 intro g a w rel next Q hn
 have hw : Region.wanted (⟨some i, .entry x, ty, pos, after, none⟩ : Oper) (yielded ops a.tmps) = true := by simp [Region.wanted]
 rw [if_pos hw]
 obtain ⟨⟨r0, since, seen, rfl, h1, h2⟩, h3⟩ := hE
 have hv := raw_eq (opd_ok rel hx rfl)
 have hr0 : r0 < E.w0.heap.size := (Array.getElem?_eq_some_iff.1 h1).1
 have hr : w.heap[r0]? = some (.mapIter (some (g.at_ (.m mi))) since (seen.push born) c) := by
  rw [rel.below.block r0 hr0 h2, h1, rel.ext.atM mi h3]
 obtain ⟨arr, clock, p1, p2, p3⟩ := rel.heap.map mi es hm
 have hjl : j < arr.size := by rw [p2.1.len]; exact (List.getElem?_eq_some_iff.1 hj).1
 have he : arr[j]? = some arr[j] := Array.getElem?_eq_getElem hjl
 obtain ⟨hb, hc⟩ : arr[j].born = born ∧ clock = c := DV.stp_at (p2.2 j _ _ hj he)
 subst hc
 obtain ⟨q1, q2⟩ := p3 j _ _ hj he
 have q1 : RV g (⟨t, b, r, m⟩ : St).sh w (DV.stp born clock kd).v arr[j].key := q1
 rw [DV.stp_v] at q1
 have hnd : (arr.toList.map (·.born)).Nodup := by
  rw [List.nodup_iff_pairwise_ne]
  refine List.pairwise_map.2 (List.pairwise_iff_getElem.2 fun i' j' hi hj' hij he' => ?_)
  have := p2.1.dist i' j' _ _ (by rw [← Array.getElem?_toList, List.getElem?_eq_getElem hi]) (by rw [← Array.getElem?_toList, List.getElem?_eq_getElem hj']) he'
  omega
 have hrun := run_entry_at (P := P) w r0 (g.at_ (.m mi)) since seen arr clock arr[j] (by rw [hb]; exact hr) p1 (Array.getElem_mem_toList hjl) hnd
 have hex : (execOp a.eval (⟨some i, .entry x, ty, pos, after, none⟩ : Oper)).run P w = .ok (.value (.tuple #[arr[j].key, arr[j].val])) w := by
  simp only [execOp, hv, Sem.run_bind, hrun, Result.andThen_ok, Sem.run_pure]
 unfold Oper.wp
 rw [hex]
 refine hn _ g _ _ k (rel.put_same (some i) ?_)
 exact RV.tup2 (h := (⟨t, b, r, m⟩ : St).sh) q1 q2
end
section
variable {J : Inv} {k0 : Lens} {E : Env J k0} {P : Program} {T : TypeId → Option TI} {n : Nat}
variable {α β : Type}
structure GIK {J : Inv} {k0 : Lens} (E : Env J k0) (n : Nat) (fK : α → DV) (fD : β → DV) (l0 : List (α × β)) (mi : Nat) (I : Value → Nat → List (Nat × α × β) → List (α × β) → List (α × β) → St → Prop)
  (v : Value) (c : Nat) (T dn kp rem : List (Nat × α × β)) (r0 : Nat) (seen : Array Nat) (s : St) (g : Gh) (a : Act) (w : World) : Prop where
 inv : I v c T (dn.map (·.2)) (kp.map (·.2)) s
 rel : Rel E n g s a w
 v : v = .pointer (some ⟨r0, 0, none⟩)
 it : w.heap[r0]? = some (.mapIter (some (g.at_ (.m mi))) c seen c)
 ge : E.w0.heap.size ≤ r0
 im : ¬ g.im r0
 live : ∀ x, s.live x → g.at_ x ≠ r0
 seen : seen.toList = dn.map (·.1)
 perm : T.Perm (kp ++ rem)
 kept : ∀ z ∈ kp, z ∈ dn
 fresh : ∀ z ∈ rem, z.1 ∉ dn.map (·.1)
 all : l0.Perm ((dn ++ rem).map (·.2))
 sub : (T.map (·.2)).Sublist l0
set_option maxHeartbeats 1000000 in
theorem W.mapRoundK {fK : α → DV} (hK : ∀ a, (fK a).bare = true) {fD : β → DV} {l0 : List (α × β)} {mi : Nat} {I : Value → Nat → List (Nat × α × β) → List (α × β) → List (α × β) → St → Prop}
    (hI : ∀ q c T dn kp s, I q c T dn kp s → s.m[mi]? = some (stMapK c fK fD T))
    {i5 i6 i7 id1 b0 : Nat} (h5 : Nat.blt i5 n = true) (hq : ∀ v c T dn kp s, I v c T dn kp s → s.t i5 = .one (.d (.raw v))) (h7 : Nat.blt i6 n = true ∧ Nat.blt i7 n = true ∧ Nat.beq i6 i7 = false) {y1 y2 : TypeId} {p1 p2 : String} {e1 e2 : Array Edge} {body : Code} {K : Ex → St → Prop}
    (hround : ∀ (q : Value) (c : Nat) (T : List (Nat × α × β)) (dn kp : List (α × β)) (s : St) (j born : Nat) (y : α × β) (rest : List (α × β)) (E1 : Env J ⟨s.b.length, s.r.length, s.m.length⟩), I q c T dn kp s → T[j]? = some (born, y) → EntAt E1 (.one (.d (.raw q))) mi born c → l0.Perm (dn ++ y :: rest) → (T.map (·.2)).Sublist l0 →
      W E1 P n body (thenK (fun s' => ∃ s2, (I q c T (dn ++ [y]) (kp ++ [y]) s2 ∨ I q c (T.eraseIdx j) (dn ++ [y]) kp s2) ∧ Wk E1 n s' s2) K) ⟨upd (upd s.t i6 .junk) i7 .junk, s.b, s.r, s.m⟩)
    (hend : ∀ (q : Value) (c : Nat) (T : List (Nat × α × β)) (dn kp : List (α × β)) (s : St), I q c T dn kp s → l0.Perm dn → (T.map (·.2)).Perm kp → (T.map (·.2)).Sublist l0 → ∃ s2, Wk E n ⟨upd (upd s.t i6 .junk) i7 .junk, s.b, s.r, s.m.set mi (mapOfF fK fD (T.map (·.2)))⟩ s2 ∧ K (.exit b0) s2)
    {q : Value} {c : Nat} {T dn kp rem : List (Nat × α × β)} {r0 : Nat} {seen : Array Nat} {s : St} {g : Gh} {a : Act} {w : World} (G : GIK E n fK fD l0 mi I q c T dn kp rem r0 seen s g a w) :
    (Code.seq (.region id1 #[⟨some i6, .next (.tmp i5) false, y1, p1, e1, none⟩, ⟨some i7, .extract (.tmp i6) 0, y2, p2, e2, none⟩] false) (.seq (.cond (.tmp i7) .skip (.exit b0)) body)).wp P
      (Exit.then (fun a' w' => ∃ q c T dn kp rem' r0 seen s g, rem'.length < rem.length ∧ GIK E n fK fD l0 mi I q c T dn kp rem' r0 seen s g a' w') (fun e a' w' => ∃ x s' g', e = Ex.exit' x ∧ K x s' ∧ Rel E n g' s' a' w')) a w := by
  obtain ⟨hinv, rel, rfl, hit, hge, him, hlive, hseen, hperm, hkept, hfresh, hall, hsub⟩ := G
  have hm := hI _ _ _ _ _ _ hinv
  obtain ⟨arr, clock, a1, a2, a3⟩ := rel.heap.map mi _ hm
  have hlen : arr.size = T.length := by rw [a2.1.len]; simp [stMapK]
  have hst : ∀ (i : Nat) (z : Nat × α × β) (e : MapEntry), T[i]? = some z → arr[i]? = some e → e.born = z.1 ∧ clock = c := fun i z e hz he => DV.stp_at (a2.2 i _ e (stMapK_at hz) he)
  have hTnd : ∀ (i j : Nat) (y z : Nat × α × β), T[i]? = some y → T[j]? = some z → y.1 = z.1 → i = j := fun i j y z hy hz hb => by
    have hi : i < arr.size := by rw [hlen]; exact (List.getElem?_eq_some_iff.1 hy).1
    have hj : j < arr.size := by rw [hlen]; exact (List.getElem?_eq_some_iff.1 hz).1
    have b1 := hst i y _ hy (Array.getElem?_eq_getElem hi)
    have b2 := hst j z _ hz (Array.getElem?_eq_getElem hj)
    exact a2.1.dist i j _ _ (Array.getElem?_eq_getElem hi) (Array.getElem?_eq_getElem hj) (by rw [b1.1, b2.1, hb])
  have hidx : ∀ e ∈ arr.toList, ∃ (i : Nat) (z : Nat × α × β), arr[i]? = some e ∧ T[i]? = some z ∧ e.born = z.1 ∧ clock = c := fun e he => by
    obtain ⟨i, hi⟩ := mem_idx he
    rw [Array.getElem?_toList] at hi
    have hil : i < T.length := by rw [← hlen]; exact (Array.getElem?_eq_some_iff.1 hi).1
    exact ⟨i, _, hi, List.getElem?_eq_getElem hil, hst i _ e (List.getElem?_eq_getElem hil) hi⟩
  have hold : ∀ x ∈ arr.toList, x.born < c := fun x hx => by
    obtain ⟨i, z, h1, h2, h3, h4⟩ := hidx x hx
    have := a2.1.born i x h1
    omega
  have hcont : ∀ k, seen.contains k = true ↔ k ∈ dn.map (·.1) := fun k => by
    rw [Array.contains_iff_mem, ← hseen, Array.mem_toList_iff]
  have hn6 : i6 < n := by have := h7.1; simpa using this
  have hn7 : i7 < n := by have := h7.2.1; simpa using this
  have h67 : i6 ≠ i7 := by rintro rfl; have := h7.2.2; simp at this
  have hev : a.eval (.tmp i5) = .pointer (some ⟨r0, 0, none⟩) := raw_eq (opd_raw rel h5 (hq _ _ _ _ _ _ hinv))
  obtain ⟨QQ, hQQ⟩ : ∃ QQ : Exit → Act → World → Prop, QQ = Exit.then (fun a' w' => ∃ q c T dn kp rem' r0 seen s g, rem'.length < rem.length ∧ GIK E n fK fD l0 mi I q c T dn kp rem' r0 seen s g a' w') (fun e a' w' => ∃ x s' g', e = Ex.exit' x ∧ K x s' ∧ Rel E n g' s' a' w') := ⟨_, rfl⟩
  rw [← hQQ]
  -- behind 'next'
  have step : ∀ (w2 : World) (vt : Array Value) (bb : Bool), (Instr.next (.pointer (some ⟨r0, 0, none⟩)) false y1).run P w = .ok (.tuple vt) w2 → vt[0]? = some (.bool bb) → Rel E n g s a w2 →
      (∀ a2, Rel E n g ⟨upd (upd s.t i6 .junk) i7 .junk, s.b, s.r, s.m⟩ a2 w2 → if bb then body.wp P QQ a2 w2 else QQ (.exit b0) a2 w2) →
      (Code.seq (.region id1 #[⟨some i6, .next (.tmp i5) false, y1, p1, e1, none⟩, ⟨some i7, .extract (.tmp i6) 0, y2, p2, e2, none⟩] false) (.seq (.cond (.tmp i7) .skip (.exit b0)) body)).wp P QQ a w := by
    intro w2 vt bb hrun hv0 rel2 hk
    have r1 := rel2.put_same (some i6) (u := .junk) (v := .tuple vt) (.junk _)
    have r2 := r1.put_same (some i7) (u := .junk) (v := .bool bb) (.junk _)
    refine wp_seq (wp_region ?_)
    show wpOps P _ _ [0, 1] a w
    unfold wpOps
    simp only [List.getElem?_toArray, List.getElem?_cons_zero]
    rw [if_pos (by simp [Region.wanted])]
    refine .inl ?_
    unfold Oper.wp
    have hx1 : (execOp a.eval (⟨some i6, .next (.tmp i5) false, y1, p1, e1, none⟩ : Oper)).run P w = .ok (.value (.tuple vt)) w2 := by
      simp only [execOp, hev, Sem.run_bind, hrun, Result.andThen_ok, Sem.run_pure]
    rw [hx1, Oper.upon_value]
    unfold wpOps
    simp only [List.getElem?_toArray, List.getElem?_cons_zero, List.getElem?_cons_succ]
    rw [if_pos (by simp [Region.wanted])]
    refine .inl ?_
    unfold Oper.wp
    have he6 : (a.put (some i6) (.tuple vt)).eval (.tmp i6) = .tuple vt := by
      show (a.put (some i6) (.tuple vt)).tmps.getD i6 undef = _
      rw [tmps_put rel2.size (some i6) _ i6 hn6, if_pos rfl]
    have hx2 : (execOp (a.put (some i6) (.tuple vt)).eval (⟨some i7, .extract (.tmp i6) 0, y2, p2, e2, none⟩ : Oper)).run P w2 = .ok (.value (.bool bb)) w2 := by
      simp only [execOp, he6, Instr.extract, hv0, Sem.run_bind, Result.andThen_ok, Sem.run_pure]
    rw [hx2, Oper.upon_value]
    unfold wpOps
    have he7 : ((a.put (some i6) (.tuple vt)).put (some i7) (.bool bb)).eval (.tmp i7) = .bool bb := by
      show ((a.put (some i6) (.tuple vt)).put (some i7) (.bool bb)).tmps.getD i7 undef = _
      rw [tmps_put r1.size (some i7) _ i7 hn7, if_pos rfl]
    have hk2 := hk _ r2
    refine wp_seq (wp_cond he7 ?_)
    cases bb with
    | true => exact wp_skip hk2
    | false => exact wp_exit hk2
  rcases run_next_at (P := P) w y1 r0 (g.at_ (.m mi)) c c seen arr clock hit a1 hold (Nat.le_refl _) with ⟨hz, hrun⟩ | ⟨e, hel, w1, hw1, hrun⟩
  · -- nothing is left
    refine step w _ false hrun rfl rel (fun a2 rel2 => ?_)
    simp only [Bool.false_eq_true, if_false]
    have hrem : rem = [] := by
      cases hr : rem with
      | nil => rfl
      | cons z rem' =>
        exfalso
        have hzr : z ∈ rem := by rw [hr]; exact List.mem_cons_self
        have hzT : z ∈ T := hperm.mem_iff.2 (List.mem_append_right _ hzr)
        obtain ⟨i, hi⟩ := mem_idx hzT
        have hil : i < arr.size := by rw [hlen]; exact (List.getElem?_eq_some_iff.1 hi).1
        have hb := hst i z _ hi (Array.getElem?_eq_getElem hil)
        have hmem : arr[i] ∈ leftOf arr seen := by
          unfold leftOf
          rw [Array.mem_filter]
          refine ⟨Array.getElem_mem hil, ?_⟩
          have hne := hfresh z hzr
          cases hc : seen.contains arr[i].born with
          | false => rfl
          | true => rw [hb.1] at hc; exact absurd ((hcont _).1 hc) hne
        have := Array.size_pos_of_mem hmem
        omega
    subst hrem
    rw [List.append_nil] at hperm hall
    obtain ⟨s2, hw2, hKe⟩ := hend _ c T _ _ s hinv hall (hperm.map _) hsub
    have rel2 := hw2.rel _ _ _ (rel2.unStK hK hm)
    rw [hQQ]
    exact ⟨.exit b0, s2, g, rfl, hKe, rel2⟩
  · have he0 : e ∈ arr.toList ∧ seen.contains e.born = false := by
      unfold leftOf at hel
      rw [Array.mem_toList_iff, Array.mem_filter] at hel
      refine ⟨Array.mem_toList_iff.2 hel.1, ?_⟩
      have := hel.2
      simpa using this
    obtain ⟨j, z, hj1, hj2, hj3, hj4⟩ := hidx e he0.1
    have hzT : z ∈ T := List.mem_of_getElem? hj2
    have hzn : z.1 ∉ dn.map (·.1) := fun h => by
      have := (hcont z.1).2 h
      rw [hj3] at he0
      rw [he0.2] at this; cases this
    have hzr : z ∈ rem := by
      rcases List.mem_append.1 (hperm.mem_iff.1 hzT) with h | h
      · exact absurd (List.mem_map.2 ⟨z, hkept z h, rfl⟩) hzn
      · exact h
    obtain ⟨r1, r2, hr⟩ := List.append_of_mem hzr
    have hremp : rem.Perm (z :: (r1 ++ r2)) := by rw [hr]; exact List.perm_middle
    have rel1 : Rel E n g s a w1 := by rcases hw1 with rfl | rfl
                                       · exact rel
                                       · exact rel.drew _
    have hw1h : w1.heap = w.heap := by rcases hw1 with rfl | rfl <;> rfl
    have hr0l : r0 < w.heap.size := (Array.getElem?_eq_some_iff.1 hit).1
    have rel2 := rel1.aside (.mapIter (some (g.at_ (.m mi))) c (seen.push e.born) clock) hge him hlive
    obtain ⟨w2, hw2⟩ : ∃ w2, w2 = setBlock w1 r0 (.mapIter (some (g.at_ (.m mi))) c (seen.push e.born) clock) := ⟨_, rfl⟩
    rw [← hw2] at hrun rel2
    refine step w2 _ true hrun rfl rel2 (fun aa rel3 => ?_)
    simp only [if_true]
    have hit2 : w2.heap[r0]? = some (.mapIter (some (g.at_ (.m mi))) c (seen.push e.born) clock) := by
      rw [hw2]; simp only [setBlock]; rw [Array.getElem?_setIfInBounds, if_pos rfl, hw1h, if_pos hr0l]
    have hsz2 : w2.heap.size = w.heap.size := by rw [hw2]; simp [setBlock, hw1h]
    subst hj4
    -- the round's own Env
    obtain ⟨E1, hE1⟩ : ∃ E1 : Env J ⟨s.b.length, s.r.length, s.m.length⟩, E1 = ⟨w2, g, s.sh, fun k => ∃ x, s.live x ∧ g.at_ x = k, rfl, by simp [St.sh], rfl, rel2.inv, fun k ⟨x, hx, hk⟩ => by
      rw [← hk]
      rcases rel.own x hx with h | h
      · exact E.hN _ h
      · exact Nat.le_trans (J.lt _ E.hI) h⟩ := ⟨_, rfl⟩
    have hEw : E1.w0 = w2 := by rw [hE1]
    have hEg : E1.g0 = g := by rw [hE1]
    have hEs : E1.sh0 = s.sh := by rw [hE1]
    have hEl : ∀ k, E1.lent k ↔ ∃ x, s.live x ∧ g.at_ x = k := fun k => by rw [hE1]
    have hmi : mi < s.m.length := (List.getElem?_eq_some_iff.1 hm).1
    have hEnt : EntAt E1 (.one (.d (.raw (.pointer (some ⟨r0, 0, none⟩))))) mi z.1 clock := by
      refine ⟨⟨r0, clock, seen, rfl, by rw [hEw, hEg, ← hj3]; exact hit2, fun h => ?_⟩, by rw [hEs]; exact hmi⟩
      obtain ⟨x, hx, hk⟩ := (hEl r0).1 h
      exact hlive x hx hk
    obtain ⟨s3, hs3⟩ : ∃ s3 : St, s3 = ⟨upd (upd s.t i6 .junk) i7 .junk, s.b, s.r, s.m⟩ := ⟨_, rfl⟩
    have hsh3 : s3.sh = s.sh := by rw [hs3]; rfl
    have hlv3 : ∀ x, s3.live x ↔ s.live x := fun x => by rw [hs3]; cases x <;> exact Iff.rfl
    rw [← hs3] at rel3
    have rel4 : Rel E1 n g s3 aa w2 := by
      refine ⟨by rw [hEw]; exact BelowX.refl _ _, by rw [hEg, hEs, hEw, hsh3]; exact Ext.refl _ _ _, rel3.imlt, fun k hk => .inl (by rw [hEg]; exact hk), fun x hx => .inl ((hEl _).2 ⟨x, (hlv3 x).1 hx, rfl⟩), rel3.heap, rel3.size, rel3.defers, rel3.tmps⟩
    have hperm' : l0.Perm (dn.map (·.2) ++ z.2 :: (r1 ++ r2).map (·.2)) := by
      refine hall.trans ?_
      rw [List.map_append]
      refine List.Perm.append_left _ ?_
      have := hremp.map (fun x : Nat × α × β => x.2)
      simpa using this
    have hbody := hround _ clock T _ _ s j z.1 z.2 _ E1 hinv hj2 hEnt hperm' hsub
    rw [← hs3] at hbody
    -- back to the loop's Env
    have back : ∀ g' s' a' w', Rel E1 n g' s' a' w' → Rel E n g' s' a' w' := fun g' s' a' w' rel5 => by
      have hb := rel5.below; have hx := rel5.ext
      rw [hEw] at hb hx
      rw [hEg, hEs] at hx
      refine ⟨rel2.below.trans hb (fun k hk hlt => ?_), rel2.ext.trans hx, rel5.imlt, fun k hk => ?_, fun x hx => ?_, rel5.heap, rel5.size, rel5.defers, rel5.tmps⟩
      · obtain ⟨x, hx, hk⟩ := (hEl k).1 hk
        rcases rel2.own x hx with h | h
        · rw [← hk]; exact h
        · omega
      · rcases rel5.imold k hk with h | h | h
        · rw [hEg] at h; exact rel2.imold k h
        · obtain ⟨x, hx, hk⟩ := (hEl k).1 h
          rw [← hk]; exact .inr (rel2.own x hx)
        · rw [hEw] at h; exact .inr (.inr (Nat.le_trans rel2.below.size h))
      · rcases rel5.own x hx with h | h
        · obtain ⟨y, hy, hk⟩ := (hEl _).1 h
          rw [← hk]; exact rel2.own y hy
        · rw [hEw] at h; exact .inr (Nat.le_trans rel2.below.size h)
    refine wp_mono (hbody g aa w2 rel4) ?_
    rintro ex a' w' ⟨x, s', g', rfl, hk, rel5⟩
    have hnl : ¬ E1.lent r0 := fun h => by
      obtain ⟨x, hx, hk⟩ := (hEl r0).1 h
      exact hlive x hx hk
    have hr02 : r0 < w2.heap.size := by rw [hsz2]; exact hr0l
    rw [hQQ]
    cases x with
    | exit id => exact ⟨.exit id, s', g', rfl, hk, back _ _ _ _ rel5⟩
    | ret => exact ⟨.ret, s', g', rfl, hk, back _ _ _ _ rel5⟩
    | normal =>
      obtain ⟨s2, hk, hw⟩ := hk
      have rel5 := hw.rel _ _ _ rel5
      clear hw
      generalize s2 = s' at hk rel5
      have rel6 := back _ _ _ _ rel5
      have him' : ¬ g'.im r0 := fun h => by
        rcases rel5.imold r0 h with h | h | h
        · rw [hEg] at h; exact him h
        · exact hnl h
        · rw [hEw] at h; omega
      have hlive' : ∀ x, s'.live x → g'.at_ x ≠ r0 := fun x hx he => by
        rcases rel5.own x hx with h | h
        · rw [he] at h; exact hnl h
        · rw [he, hEw] at h; omega
      have hit' : w'.heap[r0]? = some (.mapIter (some (g'.at_ (.m mi))) clock (seen.push z.1) clock) := by
        have h1 := rel5.below.block r0 (by rw [hEw]; exact hr02) hnl
        have h2 := rel5.ext.atM mi (by rw [hEs]; exact hmi)
        rw [hEg] at h2
        rw [h1, hEw, hit2, h2, hj3]
      have hseen' : (seen.push z.1).toList = (dn ++ [z]).map (·.1) := by rw [Array.toList_push, hseen, List.map_append]; rfl
      have hTb : (T.map (·.1)).Nodup := by
        rw [List.nodup_iff_pairwise_ne]
        refine List.pairwise_map.2 (List.pairwise_iff_getElem.2 fun i' j' hi hj' hij he' => ?_)
        have := hTnd i' j' _ _ (List.getElem?_eq_getElem hi) (List.getElem?_eq_getElem hj') he'
        omega
      have hfresh' : ∀ y ∈ r1 ++ r2, y.1 ∉ (dn ++ [z]).map (·.1) := fun y hy h => by
        have hyr : y ∈ rem := by rw [hr]; simp only [List.mem_append, List.mem_cons] at hy ⊢; rcases hy with h | h <;> simp [h]
        rw [List.map_append, List.mem_append] at h
        rcases h with h | h
        · exact hfresh y hyr h
        · have hyz : y.1 = z.1 := by simpa using h
          have hp : (T.map (·.1)).Perm ((kp ++ (z :: (r1 ++ r2))).map (·.1)) := (hperm.trans (hremp.append_left kp)).map _
          have hnd := hp.nodup_iff.1 hTb
          rw [List.map_append, List.map_cons] at hnd
          have h3 := (List.nodup_append.1 hnd).2.1
          rw [List.nodup_cons] at h3
          exact h3.1 (List.mem_map.2 ⟨y, hy, hyz⟩)
      have hall' : l0.Perm ((dn ++ [z] ++ (r1 ++ r2)).map (·.2)) := by
        refine hperm'.trans (List.Perm.of_eq ?_)
        simp
      have hlt : (r1 ++ r2).length < rem.length := by rw [hr]; simp
      rcases hk with hk | hk
      · refine ⟨_, clock, T, dn ++ [z], kp ++ [z], r1 ++ r2, r0, seen.push z.1, s', g', hlt, ⟨by simpa using hk, rel6, rfl, hit', hge, him', hlive', hseen', ?_, fun y hy => ?_, hfresh', hall', hsub⟩⟩
        · rw [List.append_assoc]
          exact hperm.trans (hremp.append_left kp)
        · rcases List.mem_append.1 hy with h | h
          · exact List.mem_append_left _ (hkept y h)
          · exact List.mem_append_right _ h
      · refine ⟨_, clock, T.eraseIdx j, dn ++ [z], kp, r1 ++ r2, r0, seen.push z.1, s', g', hlt, ⟨by simpa using hk, rel6, rfl, hit', hge, him', hlive', hseen', ?_, fun y hy => List.mem_append_left _ (hkept y hy), hfresh', hall', ?_⟩⟩
        · have hjl : j < T.length := (List.getElem?_eq_some_iff.1 hj2).1
          have hz : T[j] = z := by have := hj2; rw [List.getElem?_eq_getElem hjl] at this; simpa using this
          have h1 : T.Perm (z :: T.eraseIdx j) := by
            have h3 : T = T.take j ++ z :: T.drop (j + 1) := by
              rw [← hz, List.getElem_cons_drop, List.take_append_drop]
            rw [List.eraseIdx_eq_take_drop_succ]
            exact (List.Perm.of_eq h3).trans List.perm_middle
          have h2 : T.Perm (z :: (kp ++ (r1 ++ r2))) := (hperm.trans (hremp.append_left kp)).trans List.perm_middle
          exact (h1.symm.trans h2).cons_inv
        · exact ((List.eraseIdx_sublist T j).map _).trans hsub
set_option maxHeartbeats 1000000 in
theorem W.forMapGK (hT : TabOk P T) {fK : α → DV} (hK : ∀ a, (fK a).bare = true) {fD : β → DV} {l0 : List (α × β)} {mi : Nat} (I : Value → Nat → List (Nat × α × β) → List (α × β) → List (α × β) → St → Prop)
  {ops : Array Oper} (pre : List Oper) {tm kt et : TypeId} {ti : TI} {x : Operand} {i5 i6 i7 id0 id1 b0 : Nat} {y0 y1 y2 : TypeId} {p0 p1 p2 : String} {e0 e1 e2 : Array Edge} {body : Code} {K : Ex → St → Prop} {s : St}
  (hops : ops = (pre ++ [(⟨some i5, .range tm x, y0, p0, e0, none⟩ : Oper)]).toArray) (hti : T tm = some ti) (hd : ti.desc = .map kt et)
  (hI : ∀ q c T dn kp s, I q c T dn kp s → s.m[mi]? = some (stMapK c fK fD T)) (h5 : Nat.blt i5 n = true) (hq : ∀ v c T dn kp s, I v c T dn kp s → s.t i5 = .one (.d (.raw v))) (h7 : Nat.blt i6 n = true ∧ Nat.blt i7 n = true ∧ Nat.beq i6 i7 = false)
  (h0 : WL E P n ops pre (fun s1 => opd n s1 x = (true, .one (.map mi)) ∧ s1.m[mi]? = some (mapOfF fK fD l0) ∧ ∀ q c T, T.map (·.2) = l0 → ∃ s2, I q c T [] [] s2 ∧ Wk E n ⟨upd s1.t i5 (.one (.d (.raw q))), s1.b, s1.r, s1.m.set mi (stMapK c fK fD T)⟩ s2) s)
  (hround : ∀ (q : Value) (c : Nat) (T : List (Nat × α × β)) (dn kp : List (α × β)) (s : St) (j born : Nat) (y : α × β) (rest : List (α × β)) (E1 : Env J ⟨s.b.length, s.r.length, s.m.length⟩), I q c T dn kp s → T[j]? = some (born, y) → EntAt E1 (.one (.d (.raw q))) mi born c → l0.Perm (dn ++ y :: rest) → (T.map (·.2)).Sublist l0 →
   W E1 P n body (thenK (fun s' => ∃ s2, (I q c T (dn ++ [y]) (kp ++ [y]) s2 ∨ I q c (T.eraseIdx j) (dn ++ [y]) kp s2) ∧ Wk E1 n s' s2) (blockK b0 K)) ⟨upd (upd s.t i6 .junk) i7 .junk, s.b, s.r, s.m⟩)
  (hend : ∀ (q : Value) (c : Nat) (T : List (Nat × α × β)) (dn kp : List (α × β)) (s : St), I q c T dn kp s → l0.Perm dn → (T.map (·.2)).Perm kp → (T.map (·.2)).Sublist l0 → ∃ s2, Wk E n ⟨upd (upd s.t i6 .junk) i7 .junk, s.b, s.r, s.m.set mi (mapOfF fK fD (T.map (·.2)))⟩ s2 ∧ K .normal s2) :
  W E P n (.seq (.region id0 ops false) (.block b0 (.loop (.seq (.region id1 #[⟨some i6, .next (.tmp i5) false, y1, p1, e1, none⟩, ⟨some i7, .extract (.tmp i6) 0, y2, p2, e2, none⟩] false) (.seq (.cond (.tmp i7) .skip (.exit b0)) body))))) K s := by
 intro g a w rel
 refine wp_seq (wp_region ?_)
 have hsz : ops.size = pre.length + [(⟨some i5, .range tm x, y0, p0, e0, none⟩ : Oper)].length := by rw [hops]; simp
 rw [hsz, List.range_eq_range']
 refine wpOps_pre pre _ 0 s (by rw [hops]; simp) h0 g a w rel (fun s1 g1 a1 w1 ⟨hx, hm, hi⟩ rel1 => ?_)
 have hop : ops[0 + pre.length]? = some ⟨some i5, .range tm x, y0, p0, e0, none⟩ := by rw [hops]; simp
 simp only [List.length_cons, List.length_nil, Nat.zero_add, List.range'_one]
 unfold wpOps
 rw [Nat.zero_add] at hop
 simp only [hop]
 rw [if_pos (by simp [Region.wanted])]
 refine .inl ?_
 have hp := opd_ok rel1 hx rfl
 generalize hxx : a1.eval x = xv at hp
 cases hp with | one _ _ hp => cases hp with | map _ hmi =>
 have ht := (hT tm ti hti).1
 rw [hd] at ht
 obtain ⟨arr, clock, q1, q2, q3⟩ := rel1.heap.map mi _ hm
 have hrun := run_range_map w1 tm kt et (g1.at_ (.m mi)) arr clock ht q1
 unfold Oper.wp
 have hex : (execOp a1.eval (⟨some i5, .range tm x, y0, p0, e0, none⟩ : Oper)).run P w1 = .ok (.value (.pointer (some ⟨w1.heap.size, 0, none⟩))) (w1.alloc (.mapIter (some (g1.at_ (.m mi))) clock #[] clock)) := by
  simp only [execOp, hxx, Sem.run_bind, hrun, Result.andThen_ok, Sem.run_pure]
 rw [hex, Oper.upon_value]
 unfold wpOps
 obtain ⟨w2, hw2⟩ : ∃ w2, w2 = w1.alloc (.mapIter (some (g1.at_ (.m mi))) clock #[] clock) := ⟨_, rfl⟩
 have hsz2 : w2.heap.size = w1.heap.size + 1 := by rw [hw2]; simp
 have hB : Below w1.heap.size w1 w2 := by rw [hw2]; exact (Below.refl _ _).alloc (Nat.le_refl _) _
 rw [← hw2]
 have rel2 := rel1.later g1.im hB (fun _ h => h) (fun b hb => by rw [hsz2]; have := rel1.imlt b hb; omega) (fun _ h => .inl h)
 have rel3 := rel2.put_same (some i5) (u := .one (.d (.raw (.pointer (some ⟨w1.heap.size, 0, none⟩))))) (v := .pointer (some ⟨w1.heap.size, 0, none⟩)) (.one _ _ (.d _ _ (.raw _ rfl)))
 obtain ⟨T0, hT0⟩ : ∃ T0 : List (Nat × α × β), T0 = (arr.toList.map (·.born)).zip l0 := ⟨_, rfl⟩
 have hl : arr.size = l0.length := by rw [q2.1.len]; simp [mapOfF]
 have hT2 : T0.map (·.2) = l0 := by
  rw [hT0]
  exact List.map_snd_zip (by simp [hl])
 have hTi : ∀ (i : Nat) (z : Nat × α × β), T0[i]? = some z → ∃ e, arr[i]? = some e ∧ e.born = z.1 ∧ l0[i]? = some z.2 := fun i z hz => by
  rw [hT0, List.getElem?_zip_eq_some] at hz
  obtain ⟨h1, h2⟩ := hz
  rw [List.getElem?_map, Array.getElem?_toList] at h1
  cases he : arr[i]? with
  | none => rw [he] at h1; cases h1
  | some e => rw [he] at h1; exact ⟨e, rfl, by simpa using h1, h2⟩
 have rel4 := rel3.retell (mi := mi) (es' := stMapK clock fK fD T0) hm (fun arr' clock' h1 h2 h3 => by
  have e1 : w2.heap[g1.at_ (.m mi)]? = some (.map arr' clock') := h3
  rw [hB.block _ (rel1.heap.lt (.m mi) (List.getElem?_eq_some_iff.1 hm).1), q1] at e1
  obtain ⟨rfl, rfl⟩ : arr = arr' ∧ clock = clock' := by simpa using e1
  refine ⟨⟨?_, fun i y e hy he => ?_⟩, fun i y e hy he => ?_⟩
  ·skip
   have h4 := h1.1
   rwa [show (stMapK clock fK fD T0).length = (mapOfF fK fD l0).length by simp [stMapK, mapOfF, ← hT2]]
  ·skip
   obtain ⟨z, hz, rfl⟩ := stMapK_get hy
   obtain ⟨e', he', hb, _⟩ := hTi i z hz
   rw [he] at he'
   obtain rfl : e = e' := by simpa using he'
   show (DV.stp z.1 clock (fK z.2.1)).stamp e.born clock
   rw [hb]; exact DV.stp_in _ _ _
  ·skip
   obtain ⟨z, hz, rfl⟩ := stMapK_get hy
   obtain ⟨_, _, _, hl0⟩ := hTi i z hz
   have h6 : (mapOfF fK fD l0)[i]? = some (fK z.2.1, fD z.2.2) := by unfold mapOfF; rw [List.getElem?_map, hl0]; rfl
   obtain ⟨c1, c2⟩ := h2 i _ e h6 he
   refine ⟨?_, c2⟩
   show RV _ _ _ (DV.stp z.1 clock (fK z.2.1)).v e.key
   rw [DV.stp_v]; exact c1)
 have hit : w2.heap[w1.heap.size]? = some (.mapIter (some (g1.at_ (.m mi))) clock #[] clock) := by
  rw [hw2]; show (w1.heap.push _)[w1.heap.size]? = _; simp
 obtain ⟨a2, ha2⟩ : ∃ a2, a2 = a1.put (some i5) (.pointer (some ⟨w1.heap.size, 0, none⟩)) := ⟨_, rfl⟩
 rw [← ha2] at rel4
 show (Code.block b0 _).wp P _ (a1.put (some i5) (.pointer (some ⟨w1.heap.size, 0, none⟩))) w2
 rw [← ha2]
 -- the loop
 obtain ⟨s2, hi2, hw2'⟩ := hi (.pointer (some ⟨w1.heap.size, 0, none⟩)) clock T0 hT2
 have rel5 := hw2'.rel _ _ _ rel4
 have hloop : (Code.loop (.seq (.region id1 #[⟨some i6, .next (.tmp i5) false, y1, p1, e1, none⟩, ⟨some i7, .extract (.tmp i6) 0, y2, p2, e2, none⟩] false) (.seq (.cond (.tmp i7) .skip (.exit b0)) body))).wp P
   (fun e a' w' => ∃ x s' g', e = Ex.exit' x ∧ blockK b0 K x s' ∧ Rel E n g' s' a' w') a2 w2 := by
  refine wp_loop_ghost (fun k a w => ∃ q c T dn kp rem r0 seen s g, rem.length = k ∧ GIK E n fK fD l0 mi I q c T dn kp rem r0 seen s g a w) T0.length ⟨_, clock, T0, [], [], T0, w1.heap.size, #[], s2, g1, rfl, ⟨hi2, rel5, rfl, hit, rel1.below.size, fun h => absurd (rel1.imlt _ h) (Nat.lt_irrefl _), fun x hx he => ?_, rfl, by simp, by simp, by simp, by simp [hT2], by rw [hT2]; exact List.Sublist.refl _⟩⟩ ?_
  ·skip
   have hx := hw2'.live x hx
   have : s1.live x := by
    cases x with
    | b l => exact hx
    | r l => exact hx
    | m l => have := show l < (s1.m.set mi _).length from hx; rw [List.length_set] at this; exact this
   have := rel1.heap.lt x this
   have he : g1.at_ x = w1.heap.size := he
   omega
  ·skip
   rintro k a w ⟨q, c, T, dn, kp, rem, r0, seen, s, g, rfl, G⟩
   have := W.mapRoundK hK (K := blockK b0 K) hI h5 hq h7 hround (fun q c T dn kp s h1 h2 h3 h4 => by
    obtain ⟨s2, h5, h6⟩ := hend q c T dn kp s h1 h2 h3 h4
    exact ⟨s2, h5, by simpa [blockK] using h6⟩) (b0 := b0) (id1 := id1) (y1 := y1) (y2 := y2) (p1 := p1) (p2 := p2) (e1 := e1) (e2 := e2) G
   refine wp_mono this ?_
   intro e a' w' h
   cases e with
   | normal => obtain ⟨q, c, T, dn, kp, rem', r0, seen, s, g, hlt, G⟩ := h; exact ⟨rem'.length, hlt, q, c, T, dn, kp, rem', r0, seen, s, g, rfl, G⟩
   | _ => exact h
 refine wp_block (wp_mono hloop ?_)
 rintro _ a' w' ⟨e, s', g', rfl, hk, r'⟩
 cases e with
 | normal => exact ⟨.normal, s', g', rfl, hk, r'⟩
 | exit j =>
  show if j = b0 then _ else _
  by_cases hj : j = b0
  ·skip
   rw [if_pos hj]
   subst hj
   have : K .normal s' := by simpa [blockK] using hk
   exact ⟨.normal, s', g', rfl, this, r'⟩
  ·skip
   rw [if_neg hj]
   have hb : Nat.beq j b0 = false := by simpa [← Bool.not_eq_true] using hj
   have : K (.exit j) s' := by simpa [blockK, hb] using hk
   exact ⟨.exit j, s', g', rfl, this, r'⟩
 | ret => exact ⟨.ret, s', g', rfl, hk, r'⟩
def StMK (fK : α → DV) (fD : β → DV) (l0 : List (α × β)) (M : List (DV × DV)) (j born c : Nat) (y : α × β) : Prop := ∃ T : List (Nat × α × β), M = stMapK c fK fD T ∧ T[j]? = some (born, y) ∧ (T.map (·.2)).Sublist l0
theorem StMK.at {fK : α → DV} {fD : β → DV} {l0 : List (α × β)} {M : List (DV × DV)} {j born c : Nat} {y : α × β} (h : StMK fK fD l0 M j born c y) : M[j]? = some (DV.stp born c (fK y.1), fD y.2) := by
 obtain ⟨T, rfl, h1, _⟩ := h
 exact stMapK_at h1
theorem W.forMapK (hT : TabOk P T) {fK : α → DV} (hK : ∀ a, (fK a).bare = true) {fD : β → DV} {l0 : List (α × β)} {mi : Nat} (I : Value → List (DV × DV) → List (α × β) → St → Prop)
  {ops pre : List Oper} (k : Nat) {tm kt et : TypeId} {ti : TI} {x : Operand} {i5 i6 i7 id0 id1 b0 : Nat} {y0 y1 y2 : TypeId} {p0 p1 p2 : String} {e0 e1 e2 : Array Edge} {body : Code} {K : Ex → St → Prop} {s : St}
  (hops : cutF k ops = some (pre, [(⟨some i5, .range tm x, y0, p0, e0, none⟩ : Oper)])) (hti : T tm = some ti) (hd : ti.desc = .map kt et)
  (hI : ∀ q M dn s, I q M dn s → s.m[mi]? = some M ∧ s.t i5 = .one (.d (.raw q))) (h7 : Nat.blt i5 n = true ∧ Nat.blt i6 n = true ∧ Nat.blt i7 n = true ∧ Nat.beq i6 i7 = false)
  (h0 : WL E P n ops.toArray pre (fun s1 => opd n s1 x = (true, .one (.map mi)) ∧ s1.m[mi]? = some (mapOfF fK fD l0) ∧ ∀ q M, ∃ s2, I q M [] s2 ∧ Wk E n ⟨upd s1.t i5 (.one (.d (.raw q))), s1.b, s1.r, s1.m.set mi M⟩ s2) s)
  (hround : ∀ (q : Value) (M : List (DV × DV)) (dn : List (α × β)) (s : St) (j c born : Nat) (y : α × β) (rest : List (α × β)) (E1 : Env J ⟨s.b.length, s.r.length, s.m.length⟩), I q M dn s → EntAt E1 (.one (.d (.raw q))) mi born c → StMK fK fD l0 M j born c y → l0.Perm (dn ++ y :: rest) →
   (∀ (b : List (List C)) (r : List (Option RowO)) (m m' : List (List (DV × DV))) (t : Nat → V) (c0 : Code) (KK : Ex → St → Prop), m[mi]? = some M → m.set mi (mapOfF fK fD l0) = m' → W E1 P n c0 KK ⟨t, b, r, m'⟩ → W E1 P n c0 KK ⟨t, b, r, m⟩) →
   W E1 P n body (thenK (fun s' => ∃ s2, I q M (dn ++ [y]) s2 ∧ Wk E1 n s' s2) (blockK b0 K)) ⟨upd (upd s.t i6 .junk) i7 .junk, s.b, s.r, s.m⟩)
  (hend : ∀ (q : Value) (M : List (DV × DV)) (dn : List (α × β)) (s : St), I q M dn s → l0.Perm dn → ∃ s2, Wk E n ⟨upd (upd s.t i6 .junk) i7 .junk, s.b, s.r, s.m.set mi (mapOfF fK fD l0)⟩ s2 ∧ K .normal s2) :
  W E P n (.seq (.region id0 ops.toArray false) (.block b0 (.loop (.seq (.region id1 #[⟨some i6, .next (.tmp i5) false, y1, p1, e1, none⟩, ⟨some i7, .extract (.tmp i6) 0, y2, p2, e2, none⟩] false) (.seq (.cond (.tmp i7) .skip (.exit b0)) body))))) K s := by
 refine W.forMapGK (l0 := l0) hT hK (fun q c T dn kp s => I q (stMapK c fK fD T) dn s ∧ T.map (·.2) = l0 ∧ kp = dn) pre (by rw [cutF_eq hops]) hti hd (fun q c T dn kp s h => (hI _ _ _ _ h.1).1) h7.1 (fun q c T dn kp s h => (hI _ _ _ _ h.1).2) h7.2 ?_ ?_ ?_
 ·skip
  exact WL.mono' h0 fun s1 ⟨h1, h2, h3⟩ => ⟨h1, h2, fun q c T hT => by
   obtain ⟨s2, h4, h5⟩ := h3 q (stMapK c fK fD T)
   exact ⟨s2, ⟨h4, hT, rfl⟩, h5⟩⟩
 ·skip
  intro q c T dn kp s j born y rest E1 ⟨h1, h2, h3⟩ hj hE hp hs
  subst h3
  refine W.mono (hround q _ kp s j c born y rest E1 h1 hE ⟨T, rfl, hj, hs⟩ hp (fun b r m m' t c0 KK hm hm' hW => W.unStK hK hm h2 hm' hW)) ?_
  rintro (_ | _ | _) s' hk
  ·skip
   obtain ⟨s2, h4, h5⟩ := hk
   exact ⟨s2, .inl ⟨h4, h2, rfl⟩, h5⟩
  ·skip
   exact hk
  ·skip
   exact hk
 ·skip
  intro q c T dn kp s ⟨h1, h2, h3⟩ hp _ _
  rw [h2]
  exact hend q _ dn s h1 hp
end
end
section
open Go Go.RowKit
theorem S.appendV {J : Inv} {k0 : Lens} {E : Env J k0} {P : Program} {T : TypeId → Option TI} {n : Nat} {t : Nat → V} {b : List (List C)} {r : List (Option RowO)} {m : List (List (DV × DV))} {ops : Array Oper} {l : List Oper} {K : St → Prop} {i : Nat} {ty : TypeId} {pos : String} {after : Array Edge}
    (hT : TabOk P T) {tt e : TypeId} {ti ei : TI} {x y : Operand} {ri ver sz ln : Nat} {al : Bool} {te : TypeId} {xs news ys : List (List D)} {r' : List (Option RowO)} (hti : T tt = some ti) (hd : ti.desc = .slice e) (hei : T e = some ei)
    (hz : ei.zero.cells.size = ei.size) (hpos : Nat.blt 0 ei.size = true) (hby : Nat.ble ei.bytes 4096 = true) (hx : opd n ⟨t, b, r, m⟩ x = (true, .one (.row ri ver 0 ln))) (hy : opd n ⟨t, b, r, m⟩ y = (true, .one (.d (.vec sz news))))
    (hq : r[ri]? = some (some ⟨al, ver, sz, te, xs⟩)) (hln : ln = xs.length) (hsz : sz = ei.size) (hty : te = e) (hlen : xs.length + news.length ≤ 34359738368)
    (hys : xs ++ news = ys) (hr : forceL (r.set ri none) = some r')
    (k : WL E P n ops l K ⟨upd t i (.one (.d (.vec sz ys))), b, r', m⟩) : WL E P n ops (⟨some i, .call ⟨.builtin .append, #[x, y], #[tt, tt]⟩, ty, pos, after, none⟩ :: l) K ⟨t, b, r, m⟩ := by
  obtain rfl := forceL_eq hr
  have hlt : ri < r.length := (List.getElem?_eq_some_iff.1 hq).1
  refine Step.weak (K := fun s1 => s1 = ⟨upd t i (.one (.row ri (ver + 1) 0 ys.length)), b, r.set ri (some ⟨al || !news.isEmpty, ver + 1, sz, te, ys⟩), m⟩)
    (S.append (l := []) (r' := r.set ri (some ⟨al || !news.isEmpty, ver + 1, sz, te, ys⟩)) hT hti hd hei hz hpos hby hx hy hq hln hsz hty hlen rfl hys (forceL_self _) rfl) (fun s g a w hs rel => ?_)
  subst hs
  obtain ⟨g', rel'⟩ := rel.freezeRow (ri := ri) (q := ⟨al || !news.isEmpty, ver + 1, sz, te, ys⟩) [i] (by simp [hlt]) (fun k hk => by
    simp at hk; subst hk; simp [upd])
  refine ⟨g', _, ?_, rel'⟩
  have e : updL (upd t i (.one (.row ri (ver + 1) 0 ys.length))) [i] (.one (.d (.vec sz ys))) = upd t i (.one (.d (.vec sz ys))) := by
    funext j
    simp only [updL, upd]
    cases i.beq j <;> rfl
  simp only [List.set_set]
  rw [e]
  exact k
end
section
open Go Go.RowKit
inductive LeVs : List V → List V → Prop where
 | nil : LeVs [] []
 | cons {a b : V} {xs ys : List V} : LeV a b → LeVs xs ys → LeVs (a :: xs) (b :: ys)
theorem LeVs.len {xs ys : List V} (h : LeVs xs ys) : xs.length = ys.length := by
 induction h with
 | nil => rfl
 | cons _ _ ih => simp [ih]
theorem LeVs.get {xs ys : List V} (h : LeVs xs ys) : ∀ {i : Nat} {u : V}, ys[i]? = some u → ∃ u', xs[i]? = some u' ∧ LeV u' u := by
 induction h with
 | nil => intro i u h; simp at h
 | cons h1 _ ih =>
  intro i u h
  cases i with
  | zero => simp at h; subst h; exact ⟨_, rfl, h1⟩
  | succ i => simp at h; simpa using ih h
theorem PureCall.le {P : Program} {J : Inv} {f : FuncId} {args args' : List V} {r : V} (pc : PureCall P J f args r) (h : LeVs args' args) : PureCall P J f args' r :=
 ⟨pc.enter, fun im w vs hJ hi hl hx => pc.calls im w vs hJ hi (hl.trans h.len) (fun i u v hu hv => by
  obtain ⟨u', h1, h2⟩ := h.get hu
  exact h2 im w v (hx i u' v h1 hv))⟩
end
section
open Go
open Go.RowKit
attribute [local irreducible] thenK blockK W
attribute [local irreducible] rangeB pathB nameB valueB firstNe parR rdR rangeE Ver.check hasB HasB hasM hasR readE moveE orderB compareR bfs wayP intsD encN encG cmpN mvI wEnd Wlk
theorem pc_MoveError (m : Mv) (hm : MvB m) :
  PureCall Tryz.prog J 28 [.agg [.d (.vec 10 (m.f.map spD)), .d (.int .i64 m.t.a), .d (.int .i64 m.t.b), .d (.int .i64 m.t.c), .d (.str m.t.e), .d (.vec 1 (m.rs.map fun s => [.str s]))]] (.one (.d (.int .i64 (moveE m)))) := by
 refine PureCall.of_body tOk (fn := Tryz.f28) Tryz.func28 (by kernel_rfl) rfl (Nat.le_of_ble_eq_true rfl) (fun E => ?_)
 apply Y1
 refine S.box rfl rfl rfl rfl ?_
 refine Yp rfl ?_
 apply Yn
 apply Ys
 refine W.regionD mixed (by kernel_rfl) ?_
 iterate 2 refine Ym rfl rfl ?_
 refine D.call rfl rfl rfl rfl rfl (pc_outref2_RangeError m.f hm.f hm.sp) ?_
 iterate 2 refine Ym rfl rfl ?_
 refine D.slice tOk rfl rfl ?_
 refine D.call rfl rfl rfl rfl rfl (pc_outref2_VersionError [m.t] (by simp) (fun v hv => by simp at hv; subst hv; exact hm.e)) ?_
 iterate 4 refine Ym rfl rfl ?_
 refine D.call rfl rfl rfl rfl rfl (pc_outref2_When (decide (((m.rs.map fun x => ([.str x] : List D)).length : Int) > 100)) 4) ?_
 refine D.slice tOk rfl rfl ?_
 refine D.call rfl rfl rfl rfl rfl (pc_outref2_First (mvL m) (by unfold mvL; simp)) ?_
 refine Ym rfl rfl ?_
 iterate 9 first|refine Yp rfl ?_|apply Yb|apply Y1|apply Yn|apply Ys
 refine W.loop (fun k st => ∃ i : Nat, i ≤ m.rs.length ∧ k = m.rs.length - i ∧ ∃ t b2 r2 m2, st = ⟨t, [] ++ b2, [] ++ r2, [] ++ m2⟩ ∧ holdsL t [(3, .one (.d (.int .i64 (mvI m i)))), (23, .one (.d (.vec 1 (m.rs.map fun x => [.str x])))), (24, .one (.d (.int .i64 ((m.rs.map fun x => ([.str x] : List D)).length : Int)))), (25, .one (.d (.int .i64 (i : Int))))]) (m.rs.length) ⟨0, Nat.zero_le _, rfl, _, _, _, _, rfl, congrArg (fun x => V.one (C.d (D.int .i64 x))) (mvI_0 m), rfl, rfl, rfl, trivial⟩ ?_
 rintro k0 _ ⟨i, f0_0, rfl, t0, bb0, rr0, mm0, rfl, hh0⟩
 refine W.keepR _ _ _ _ _ _ _ hh0 rfl ?_
 apply Y1
 refine Yp rfl ?_
 apply Yn
 apply Ys
 refine W.cond rfl (fun c1=>?_) fun c1=>?_
 ·skip
  have hi := row_lt c1
  have hri := hm.r _ (mem_getD (d := ([] : L8)) hi)
  have hmn := hm.n
  apply Yk
  apply Yn
  apply Ys
  apply Yb
  apply Y1
  refine YE rfl (row_ok hi) (row_at [] hi) rfl ?_
  iterate 4 first|refine Yp rfl ?_|apply Y3
  refine S.call rfl rfl rfl rfl rfl (pc_ReadRule (m.rs.getD i []) hri) ?_
  iterate 9 first|refine Yp rfl ?_|refine S.store tOk rfl rfl rfl rfl rfl rfl rfl rfl ?_|refine S.alloc tOk rfl rfl rfl rfl ?_|apply Y4
  refine S.slice tOk rfl rfl ?_
  refine S.call rfl rfl rfl rfl rfl (pc_outref2_First [mvI m i, (rdR (m.rs.getD i [])).2] (by simp)) ?_
  iterate 5 first|refine Yp rfl ?_|apply Yw|apply Y4
  refine loop_n (m.rs.length - (i + 1)) (by omega) ⟨i + 1, hi, rfl, _, _, _, _, rfl, congrArg (fun x => V.one (C.d (D.int .i64 x))) (mvI_s hi), rfl, rfl, inc_i64 (by omega), trivial⟩
 have hi := row_ge c1
 obtain rfl : i = m.rs.length := by omega
 iterate 9 first|refine Yp rfl ?_|apply Ye|apply Yt|apply Yx|apply Yq|apply Y3|apply Yn
 exact Yz rfl rfl rfl (by rw [mvI_end])
theorem nts_lt {l : List Nat} {i : Nat} (h : decide ((i : Int) < ((intsD l).length : Int)) = true) : i < l.length := by rw [ints_len] at h; simpa using h
theorem nts_ge {l : List Nat} {i : Nat} (h : decide ((i : Int) < ((intsD l).length : Int)) = false) : l.length ≤ i := by rw [ints_len] at h; simpa using h
theorem nts_ok {l : List Nat} {i : Nat} (h : i < l.length) : (decide (0 ≤ (i : Int)) && decide ((i : Int) < ((intsD l).length : Int))) = true := by rw [ints_len]; simpa using h
theorem nts_at {l : List Nat} {i : Nat} (h : i < l.length) : V.one (.eptr ((intsD l).getD ((i : Int)).toNat [])) = V.one (.eptr [.int .i64 ((l.getD i 0 : Nat) : Int)]) := by
 rw [Int.toNat_natCast]; simp [intsD, List.getD_eq_getElem?_getD, h]
theorem pc_CmpL (x y : List Nat) (hx : x.length ≤ 1000000000) (hy : y.length ≤ 1000000000) :
  PureCall Tryz.prog J 86 [.one (.d (.vec 1 (intsD x))), .one (.d (.vec 1 (intsD y)))] (.one (.d (.int .i64 (cmpN x y)))) := by
 refine PureCall.of_body tOk (fn := Tryz.f86) Tryz.func86 (by kernel_rfl) rfl (Nat.le_of_ble_eq_true rfl) (fun E => ?_)
 iterate 9 first|refine Yp rfl ?_|apply Y1|apply Yn|apply Ys
 apply Yb
 refine W.loop (fun k st => ∃ i : Nat, i ≤ x.length ∧ i ≤ y.length ∧ cmpN (x.drop i) (y.drop i) = cmpN x y ∧ k = x.length - i ∧ ∃ t b2 r2 m2, st = ⟨t, [] ++ b2, [] ++ r2, [] ++ m2⟩ ∧ holdsL t [(0, .one (.d (.vec 1 (intsD x)))), (1, .one (.d (.vec 1 (intsD y)))), (9, .one (.d (.vec 1 (intsD x)))), (10, .one (.d (.int .i64 ((intsD x).length : Int)))), (11, .one (.d (.int .i64 (i : Int))))]) (x.length) ⟨0, Nat.zero_le _, Nat.zero_le _, rfl, rfl, _, _, _, _, rfl, rfl, rfl, rfl, rfl, rfl, trivial⟩ ?_
 rintro k0 _ ⟨i, f0_0, f0_1, f0_2, rfl, t0, bb0, rr0, mm0, rfl, hh0⟩
 refine W.keepR _ _ _ _ _ _ _ hh0 rfl ?_
 apply Y1
 refine Yp rfl ?_
 apply Yn
 apply Ys
 refine W.cond rfl (fun c1=>?_) fun c1=>?_
 ·skip
  have hi := nts_lt (by assumption : decide ((i : Int) < ((intsD x).length : Int)) = true)
  apply Yk
  apply Yn
  apply Ys
  apply Yb
  apply Y1
  refine Yp rfl ?_
  refine YE rfl (nts_ok hi) (nts_at hi) rfl ?_
  iterate 11 first|refine Yp rfl ?_|apply Y1|apply Yn|apply Ys
  refine W.cond rfl (fun c2=>?_) fun c2=>?_
  ·skip
   have hj : y.length ≤ i := by have h1 : decide ((i : Int) ≥ ((intsD y).length : Int)) = true := (by assumption); rw [ints_len] at h1; simpa using h1
   iterate 10 first|apply Yu|apply Yv|apply Yt|refine Yp rfl ?_|apply Y1|apply Yn
   exact ⟨_, rfl, rfl, LeV.of_eq (congrArg (fun x => V.one (C.d (D.int .i64 x))) (cmpN_more hi hj f0_2))⟩
  have hj : i < y.length := by have h1 : decide ((i : Int) ≥ ((intsD y).length : Int)) = false := (by assumption); rw [ints_len] at h1; simpa using h1
  apply Yk
  apply Y3
  iterate 2 refine Yp rfl ?_
  refine YE rfl (nts_ok hj) (nts_at hj) rfl ?_
  iterate 5 first|refine Yp rfl ?_|apply Y3
  refine S.call rfl rfl rfl rfl rfl (pc_cmpInt _ _) ?_
  iterate 5 first|refine Yp rfl ?_|apply Y3|apply Yn
  refine W.cond rfl (fun c3=>?_) fun c3=>?_
  ·skip
   iterate 10 first|apply Yu|apply Yv|refine Yp rfl ?_|apply Yt|apply Y1|apply Yn
   exact ⟨_, rfl, rfl, LeV.of_eq (congrArg (fun x => V.one (C.d (D.int .i64 x))) (cmpN_hit hi hj f0_2 (by assumption)))⟩
  apply Yk
  apply Yw
  apply Y4
  iterate 2 refine Yp rfl ?_
  refine loop_n (x.length - (i + 1)) (by omega) ⟨i + 1, hi, hj, cmpN_go hi hj f0_2 (by assumption), rfl, _, _, _, _, rfl, rfl, rfl, rfl, rfl, inc_i64 (by omega), trivial⟩
 have hi := nts_ge (by assumption : decide ((i : Int) < ((intsD x).length : Int)) = false)
 iterate 13 first|refine Yp rfl ?_|apply Ye|apply Yx|apply Yq|apply Y1|apply Yn|apply Ys
 refine W.cond rfl (fun c4=>?_) fun c4=>?_
 ·skip
  have hj : i < y.length := by have h1 : decide (((intsD x).length : Int) < ((intsD y).length : Int)) = true := (by assumption); rw [ints_len, ints_len] at h1; have h2 : x.length < y.length := (by simpa using h1); omega
  apply Y1
  refine Yp rfl ?_
  apply Yn
  apply Yt
  apply Yu
  exact ⟨_, rfl, rfl, LeV.of_eq (congrArg (fun x => V.one (C.d (D.int .i64 x))) (cmpN_less hi hj f0_2))⟩
 have hj : y.length ≤ i := by have h1 : decide (((intsD x).length : Int) < ((intsD y).length : Int)) = false := (by assumption); rw [ints_len, ints_len] at h1; have h2 : y.length ≤ x.length := (by simpa using h1); omega
 apply Yk
 apply Y3
 refine Yp rfl ?_
 apply Yn
 apply Yt
 exact ⟨_, rfl, rfl, LeV.of_eq (congrArg (fun x => V.one (C.d (D.int .i64 x))) (cmpN_same hi hj f0_2))⟩
theorem pc_CmpM (x y : List Nat) (hx : x.length ≤ 1000000000) (hy : y.length ≤ 1000000000) : PureCall Tryz.prog J 86 [.one (.d (.vec 1 (intsD x))), .one (.d (listD y))] (.one (.d (.int .i64 (cmpN x y)))) := (pc_CmpL x y hx hy).le (.cons (LeV.refl _) (.cons (le_list y) .nil))
def layD (T : LayT) : List (DV × DV) := mapOfF (fun a : Ver => DV.agg (verD a)) (fun p : List Nat => DV.one (listD p)) T
theorem lay_set {x : D} {l : List Nat} {k : Nat} (h : x = .vec 1 (intsD (l ++ [k]))) : (true, V.one (C.d x)) = (true, (DV.one (listD (l ++ [k]))).v) := by rw [h, ← list_snoc]; rfl
theorem pc_WayOf (l : List Mv) (v w : Ver) (hb : ∀ m ∈ l, MvB m) (hv : v.e.length < 4294967281) (hw : w.e.length < 4294967281) :
  PureCall Tryz.prog J 30 [.one (.d (.vec 6 (l.map mvD))), verV v, verV w] (.tup [.one (.d (.vec 1 (intsD (wayP l v w).1))), .one (.d (.int .i64 (wayP l v w).2))]) := by
 refine PureCall.of_body tOk (fn := Tryz.f30) Tryz.func30 (by kernel_rfl) rfl (Nat.le_of_ble_eq_true rfl) (fun E => ?_)
 iterate 12 first|refine Yp rfl ?_|refine S.box rfl rfl rfl rfl ?_|apply Y1|apply Yn|apply Ys
 refine W.cond rfl (fun c1=>?_) fun c1=>?_
 ·skip
  have c1 : decide ((l.length : Int) > 200) = true := by simpa using c1
  iterate 6 first|refine Yp rfl ?_|apply Yu|apply Yt|apply Y1|apply Yn
  exact ⟨_, rfl, rfl, le_way (ys := []) (wyP_1 c1) le_nilI⟩
 have c1 : decide ((l.length : Int) > 200) = false := by simpa using c1
 have hl2 : l.length ≤ 200 := by simp at c1; omega
 have hl9 : l.length ≤ 900 := by omega
 iterate 9 first|refine Yp rfl ?_|apply Yb|apply Yk|apply Y1|apply Yn|apply Ys
 refine W.loop (fun k st => ∃ i : Nat, i ≤ l.length ∧ ((l.map moveE).take i).all (· == 0) = true ∧ k = l.length - i ∧ ∃ t b2 r2 m2, st = ⟨t, [[.d (.int .i64 v.a), .d (.int .i64 v.b), .d (.int .i64 v.c), .d (.str v.e)], [.d (.int .i64 w.a), .d (.int .i64 w.b), .d (.int .i64 w.c), .d (.str w.e)]] ++ b2, [] ++ r2, [] ++ m2⟩ ∧ holdsL t [(0, .one (.d (.vec 6 (l.map mvD)))), (4, .one (.ptr 0 0)), (5, .one (.ptr 1 0)), (26, .one (.d (.vec 6 (l.map mvD)))), (27, .one (.d (.int .i64 ((l.map mvD).length : Int)))), (28, .one (.d (.int .i64 (i : Int))))]) (l.length) ⟨0, Nat.zero_le _, by simp, rfl, _, _, _, _, rfl, rfl, rfl, rfl, rfl, rfl, rfl, trivial⟩ ?_
 rintro k0 _ ⟨i, f0_0, f0_1, rfl, t0, bb0, rr0, mm0, rfl, hh0⟩
 refine W.keepR _ _ _ _ _ _ _ hh0 rfl ?_
 apply Y1
 refine Yp rfl ?_
 apply Yn
 apply Ys
 refine W.cond rfl (fun c2=>?_) fun c2=>?_
 ·skip
  have hi := row_lt (by assumption)
  have hmb := hb _ (mem_getD (d := Mv.z) hi)
  apply Yk
  apply Yn
  apply Ys
  apply Yb
  apply Y1
  refine YE rfl (row_ok hi) (row_at Mv.z hi) rfl ?_
  iterate 5 first|refine Yp rfl ?_|refine S.store tOk rfl rfl rfl rfl rfl rfl rfl rfl ?_|refine S.alloc tOk rfl rfl rfl rfl ?_|apply Y3
  refine S.call rfl rfl rfl rfl rfl (pc_MoveError (l.getD i Mv.z) hmb) ?_
  iterate 5 first|refine Yp rfl ?_|apply Y3|apply Yn
  refine W.cond rfl (fun c3=>?_) fun c3=>?_
  ·skip
   iterate 11 first|apply Yu|refine Yp rfl ?_|apply Yv|apply Yt|apply Y1|apply Yn
   exact ⟨_, rfl, rfl, le_way (ys := []) (wyP_2 c1 hi f0_1 (by assumption)) le_nilI⟩
  apply Yk
  apply Yw
  apply Y4
  iterate 2 refine Yp rfl ?_
  refine loop_n (l.length - (i + 1)) (by omega) ⟨i + 1, hi, fe_next (d := Mv.z) hi f0_1 (by assumption), rfl, _, _, _, _, rfl, rfl, rfl, rfl, rfl, rfl, inc_i64 (by omega), trivial⟩
 have hi := row_ge (by assumption)
 obtain rfl : i = l.length := by omega
 have h00 := wyP_0 (v := v) (w := w) c1 f0_1
 have hmz := mv_all f0_1
 iterate 9 first|refine Yp rfl ?_|apply Ye|apply Yx|apply Yq|apply Y1|apply Ys|apply Yn
 refine S.slice tOk rfl rfl ?_
 refine S.call rfl rfl rfl rfl rfl (pc_outref2_VersionError [v, w] (by simp) (fun x hx => by simp at hx; rcases hx with rfl | rfl <;> assumption)) ?_
 iterate 5 first|refine Yp rfl ?_|apply Y3|apply Yn
 refine W.cond rfl (fun c4=>?_) fun c4=>?_
 ·skip
  have hres := wr_e h00 (by assumption)
  iterate 7 first|refine Yp rfl ?_|apply Yu|apply Yt|apply Y1|apply Yn
  exact ⟨_, rfl, rfl, le_way (ys := []) hres le_nilI⟩
 obtain ⟨hvw, hbf⟩ := wr_0 h00 (by assumption)
 apply Yk
 apply Yn
 apply Ys
 apply Y1
 iterate 2 refine Yp rfl ?_
 refine S.call rfl rfl rfl rfl rfl (pc_outref2_CompareOf v w hv hw) ?_
 refine Yp rfl ?_
 apply Yn
 refine W.cond rfl (fun c5=>?_) fun c5=>?_
 ·skip
  have ho : (orderB v w == 0) = true := by rw [← compare_eq hvw.1 hvw.2]; assumption
  have hres := hbf.trans (bfs_hit ho)
  iterate 6 first|refine Yp rfl ?_|apply Yu|apply Yt|apply Y1|apply Yn
  exact ⟨_, rfl, rfl, le_way (ys := []) hres le_nilI⟩
 have hne : (orderB v w == 0) = false := by rw [← compare_eq hvw.1 hvw.2]; assumption
 apply Yk
 apply Y3
 refine S.makeMap rfl ?_
 refine Yp rfl ?_
 refine S.insertF tOk (a0 := v) (fD := fun p : List Nat => DV.one (listD p)) [] ([] : LayT) rfl rfl keyV rfl rfl rfl rfl (show _ = [layD [(v, [])]] from rfl) ?_
 iterate 9 first|refine Yp rfl ?_|apply Y1|apply Yn|apply Ys
 apply Yb
 refine W.loop (fun k st => ∃ n : Nat, ∃ T : LayT, n ≤ l.length ∧ TB l v n T ∧ Far l v w n ∧ k = l.length - n ∧ ∃ t b2 r2 m2, st = ⟨t, [[.d (.int .i64 v.a), .d (.int .i64 v.b), .d (.int .i64 v.c), .d (.str v.e)], [.d (.int .i64 w.a), .d (.int .i64 w.b), .d (.int .i64 w.c), .d (.str w.e)]] ++ b2, [] ++ r2, [layD T] ++ m2⟩ ∧ holdsL t [(0, .one (.d (.vec 6 (l.map mvD)))), (4, .one (.ptr 0 0)), (5, .one (.ptr 1 0)), (12, .one (.map 0)), (53, .one (.d (.int .i64 ((l.map mvD).length : Int)))), (54, .one (.d (.int .i64 (n : Int))))]) (l.length) ⟨0, [(v, [])], Nat.zero_le _, tb_0 l v, far_0 hne, rfl, _, _, _, _, rfl, rfl, rfl, rfl, rfl, rfl, rfl, trivial⟩ ?_
 rintro k2 _ ⟨n, T, f2_0, f2_1, f2_2, rfl, t2, bb2, rr2, mm2, rfl, hh2⟩
 refine W.keepR _ _ _ _ _ _ _ hh2 rfl ?_
 apply Y1
 refine Yp rfl ?_
 apply Yn
 apply Ys
 refine W.cond rfl (fun c6=>?_) fun c6=>?_
 ·skip
  have hn : n < l.length := row_lt (by assumption)
  apply Yk
  apply Yn
  apply Ys
  apply Yb
  apply Y1
  refine S.makeMap rfl ?_
  refine Yp rfl ?_
  apply Yn
  apply Ys
  refine W.forMapK (fK := fun a : Ver => DV.agg (verD a)) (fD := fun p : List Nat => DV.one (listD p)) (l0 := T) (mi := 0) tOk (fun _ => rfl) (fun q M dn st => ∃ N : LayT, NB l v n (fun d _ => d ∈ dn) N ∧ st = ⟨ofL [(58, .one (.d (.raw q))), (0, .one (.d (.vec 6 (l.map mvD)))), (4, .one (.ptr 0 0)), (5, .one (.ptr 1 0)), (12, .one (.map 0)), (13, .one (.map 1)), (53, .one (.d (.int .i64 ((l.map mvD).length : Int)))), (54, .one (.d (.int .i64 (n : Int))))], [[.d (.int .i64 v.a), .d (.int .i64 v.b), .d (.int .i64 v.c), .d (.str v.e)], [.d (.int .i64 w.a), .d (.int .i64 w.b), .d (.int .i64 w.c), .d (.str w.e)]], [], [M, layD N]⟩) 1 rfl rfl rfl (by rintro q M dn _ ⟨N, f4_0, rfl⟩; exact ⟨rfl, rfl⟩) ⟨rfl, rfl, rfl, rfl⟩ ?_ ?_ ?_
  ·skip
   refine Yp rfl ?_
   refine WL.nil ?_
   exact ⟨rfl, rfl, fun q M => ⟨_, ⟨[], nb_dn0 l v n, rfl⟩, Wk.keep rfl ⟨rfl, rfl, rfl, rfl, rfl, rfl, rfl, rfl, trivial⟩ rfl⟩⟩
  ·skip
   rintro q M dn _ j4 c1004 born4 y rest E1 ⟨N, f4_0, rfl⟩ hE4 hst4 hp un4
   refine W.keep [(58, .one (.d (.raw q))), (0, .one (.d (.vec 6 (l.map mvD)))), (4, .one (.ptr 0 0)), (5, .one (.ptr 1 0)), (12, .one (.map 0)), (13, .one (.map 1)), (53, .one (.d (.int .i64 ((l.map mvD).length : Int)))), (54, .one (.d (.int .i64 (n : Int))))] ⟨rfl, rfl, rfl, rfl, rfl, rfl, rfl, rfl, trivial⟩ ?_
   have hyT : y ∈ T := hp.mem_iff.2 (by simp)
   obtain ⟨hy1, hy2, hy3, _⟩ := f2_1.hit y hyT
   have hye : y.1.e.length < 4294967281 := by rw [← hy2]; exact end_len (fun m hm => (hb m hm).e) hv hy1
   have hyc : y.1.check = 0 := by rw [← hy2]; exact end_ok hmz hvw.1 hy1
   apply Yb
   apply Y1
   refine S.entryK hE4 rfl rfl hst4.at ?_
   iterate 11 first|refine Yp rfl ?_|apply Yb|refine S.store tOk rfl rfl rfl rfl rfl rfl rfl rfl ?_|refine S.alloc tOk rfl rfl rfl rfl ?_|apply Y3|apply Yn
   refine W.loop (fun k st => ∃ i : Nat, ∃ N1 : LayT, i ≤ l.length ∧ NB l v n (fun d j => d ∈ dn ∨ (d = y ∧ j < i)) N1 ∧ k = l.length - i ∧ ∃ t b2 r2 m2, st = ⟨t, [[.d (.int .i64 v.a), .d (.int .i64 v.b), .d (.int .i64 v.c), .d (.str v.e)], [.d (.int .i64 w.a), .d (.int .i64 w.b), .d (.int .i64 w.c), .d (.str w.e)], [.d (.int .i64 y.1.a), .d (.int .i64 y.1.b), .d (.int .i64 y.1.c), .d (.str y.1.e)]] ++ b2, [] ++ r2, [M, layD N1] ++ m2⟩ ∧ holdsL t [(58, .one (.d (.raw q))), (0, .one (.d (.vec 6 (l.map mvD)))), (4, .one (.ptr 0 0)), (5, .one (.ptr 1 0)), (12, .one (.map 0)), (13, .one (.map 1)), (53, .one (.d (.int .i64 ((l.map mvD).length : Int)))), (54, .one (.d (.int .i64 (n : Int)))), (14, .one (.ptr 2 0)), (15, .one (.d (listD y.2))), (64, .one (.d (.vec 6 (l.map mvD)))), (65, .one (.d (.int .i64 ((l.map mvD).length : Int)))), (66, .one (.d (.int .i64 (i : Int))))]) (l.length) ⟨0, N, Nat.zero_le _, nb_in f4_0, rfl, _, _, _, _, rfl, rfl, rfl, rfl, rfl, rfl, rfl, rfl, rfl, rfl, rfl, rfl, rfl, rfl, trivial⟩ ?_
   rintro k6 _ ⟨i, N1, f6_0, f6_1, rfl, t6, bb6, rr6, mm6, rfl, hh6⟩
   refine W.keepR _ _ _ _ _ _ _ hh6 rfl ?_
   apply Y1
   refine Yp rfl ?_
   apply Yn
   apply Ys
   refine W.cond rfl (fun c7=>?_) fun c7=>?_
   ·skip
    have hi := row_lt (by assumption)
    have hmb := hb _ (mem_getD (d := Mv.z) hi)
    have hmi0 := hmz _ (mem_getD (d := Mv.z) hi)
    iterate 6 first|refine Yp rfl ?_|apply Yb|apply Yk|apply Y1|apply Ys|apply Yn
    refine YE rfl (row_ok hi) (row_at Mv.z hi) rfl ?_
    iterate 10 first|refine Yp rfl ?_|refine S.store tOk rfl rfl rfl rfl rfl rfl rfl rfl ?_|refine S.alloc tOk rfl rfl rfl rfl ?_|apply Y1|apply Ys|apply Yn
    refine S.call rfl rfl rfl rfl rfl (pc_outref2_HasOf (l.getD i Mv.z).f hmb.f hmb.sp y.1 hye) ?_
    refine Yp rfl ?_
    apply Yn
    refine W.cond rfl (fun c8=>?_) fun c8=>?_
    ·skip
     have hhf : hasR (l.getD i Mv.z).f y.1 = false := by have h1 : (!hasR (l.getD i Mv.z).f y.1) = true := (by assumption); simpa using h1
     iterate 6 first|refine Yp rfl ?_|apply Yx|apply Ye|apply Yq|apply Y4
     refine loop_n (l.length - (i + 1)) (by omega) ⟨i + 1, N1, hi, nb_next (f6_1.miss (by rw [has_mv hmi0 hyc]; exact hhf)), rfl, _, _, _, _, rfl, rfl, rfl, rfl, rfl, rfl, rfl, rfl, rfl, rfl, rfl, rfl, rfl, inc_i64 (by omega), trivial⟩
    have hmt : hasM (l.getD i Mv.z) y.1 = true := by rw [has_mv hmi0 hyc]; have h1 : (!hasR (l.getD i Mv.z).f y.1) = false := (by assumption); simpa using h1
    apply Yk
    apply Y3
    refine Yp rfl ?_
    refine S.hcallD rfl rfl rfl rfl ((pc_Clone y.2 (by omega)).fd [] [] [] rfl) ?_
    refine Yp rfl ?_
    refine S.slice tOk rfl rfl ?_
    refine S.appendV tOk rfl rfl rfl rfl rfl rfl rfl rfl rfl rfl rfl rfl (by show (intsD y.2).length + 1 ≤ _; rw [ints_len]; omega) (ints_snoc y.2 i) rfl ?_
    iterate 5 first|refine Yp rfl ?_|apply Y3
    refine S.lookupF tOk (a0 := (l.getD i Mv.z).t) (fD := fun p : List Nat => DV.one (listD p)) [] N1 rfl rfl keyV rfl rfl rfl rfl rfl rfl (show mapV true _ _ = _ from rfl) ?_
    iterate 11 first|refine Yp rfl ?_|refine Yg rfl rfl tg ?_|apply Y3
    refine S.callG rfl rfl rfl rfl tg rfl rfl (fun h => pc_CmpM (y.2 ++ [i]) (getL beqV [] N1 (l.getD i Mv.z).t) (by simp; omega) (by have := nb_len f6_1 (l.getD i Mv.z).t; omega)) ?_
    refine Yg rfl rfl tg ?_
    refine S.pickOr tOk zOk rfl rfl tg ?_
    apply Yn
    refine W.cond rfl (fun c9=>?_) fun c9=>?_
    ·skip
     have hcc : (!hasL beqV N1 (l.getD i Mv.z).t || decide (cmpN (y.2 ++ [i]) (getL beqV [] N1 (l.getD i Mv.z).t) < 0)) = true := by assumption
     apply Yr
     iterate 4 refine Yp rfl ?_
     refine S.mapUpdateF tOk (a0 := (l.getD i Mv.z).t) (fD := fun p : List Nat => DV.one (listD p)) (y.2 ++ [i]) N1 rfl rfl keyV rfl rfl (lay_set rfl) rfl (show _ = [M, layD (setL beqV N1 (l.getD i Mv.z).t (y.2 ++ [i]))] from rfl) ?_
     iterate 4 first|refine Yp rfl ?_|apply Yw|apply Y4
     refine loop_n (l.length - (i + 1)) (by omega) ⟨i + 1, setL beqV N1 (l.getD i Mv.z).t (y.2 ++ [i]), hi, nb_next (f6_1.put hl9 hi hmt ⟨hy1, hy2, hy3⟩ hcc), rfl, _, _, _, _, rfl, rfl, rfl, rfl, rfl, rfl, rfl, rfl, rfl, rfl, rfl, rfl, rfl, inc_i64 (by omega), trivial⟩
    have hcc : (!hasL beqV N1 (l.getD i Mv.z).t || decide (cmpN (y.2 ++ [i]) (getL beqV [] N1 (l.getD i Mv.z).t) < 0)) = false := by assumption
    iterate 5 first|refine Yp rfl ?_|apply Yw|apply Yk|apply Y4
    refine loop_n (l.length - (i + 1)) (by omega) ⟨i + 1, N1, hi, nb_next (f6_1.stay hl9 hi hmt ⟨hy1, hy2, hy3⟩ hcc), rfl, _, _, _, _, rfl, rfl, rfl, rfl, rfl, rfl, rfl, rfl, rfl, rfl, rfl, rfl, rfl, inc_i64 (by omega), trivial⟩
   have hi := row_ge (by assumption)
   iterate 5 first|apply Ye|apply Yw|apply Yx|apply Yq
   exact thenK_n ⟨_, ⟨N1, nb_out f6_1 hi, rfl⟩, Wk.keep rfl ⟨rfl, rfl, rfl, rfl, rfl, rfl, rfl, rfl, trivial⟩ rfl⟩
  rintro q M dn _ ⟨N, f4_0, rfl⟩ hp
  have hTB := nb_tb f2_1 hp f4_0
  refine ⟨_, Wk.keep (l := [(58, .one (.d (.raw q))), (0, .one (.d (.vec 6 (l.map mvD)))), (4, .one (.ptr 0 0)), (5, .one (.ptr 1 0)), (12, .one (.map 0)), (13, .one (.map 1)), (53, .one (.d (.int .i64 ((l.map mvD).length : Int)))), (54, .one (.d (.int .i64 (n : Int))))]) (b1 := [[.d (.int .i64 v.a), .d (.int .i64 v.b), .d (.int .i64 v.c), .d (.str v.e)], [.d (.int .i64 w.a), .d (.int .i64 w.b), .d (.int .i64 w.c), .d (.str w.e)]]) (b2 := []) (r1 := []) (r2 := []) (m1 := [mapOfF (fun a : Ver => DV.agg (verD a)) (fun p : List Nat => DV.one (listD p)) (T), layD N]) (m2 := []) rfl ⟨rfl, rfl, rfl, rfl, rfl, rfl, rfl, rfl, trivial⟩ rfl, ?_⟩
  apply Yn
  apply Ys
  apply Y1
  iterate 2 refine Yp rfl ?_
  refine S.lookupF tOk (a0 := w) (fD := fun p : List Nat => DV.one (listD p)) [] N rfl rfl keyV rfl rfl rfl rfl rfl rfl (show mapV true _ _ = _ from rfl) ?_
  iterate 8 first|refine Yp rfl ?_|apply Y3|apply Yn
  refine W.cond rfl (fun c10=>?_) fun c10=>?_
  ·skip
   have hres := hbf.trans (bfs_is hl9 (f2_2.hit hl9 hTB (by assumption)))
   iterate 12 first|apply Yu|refine Yp rfl ?_|apply Yv|apply Yt|apply Y1|apply Yn
   exact ⟨_, rfl, rfl, le_way (ys := getL beqV [] N w) hres (le_list _)⟩
  iterate 5 first|refine Yp rfl ?_|apply Yw|apply Yk|apply Y4|apply Yn
  apply Yn
  refine W.pick (l := [(0, .one (.d (.vec 6 (l.map mvD)))), (4, .one (.ptr 0 0)), (5, .one (.ptr 1 0)), (12, .one (.map 0)), (53, .one (.d (.int .i64 ((l.map mvD).length : Int)))), (54, .one (.d (.int .i64 (n : Int))))]) (b := [[.d (.int .i64 v.a), .d (.int .i64 v.b), .d (.int .i64 v.c), .d (.str v.e)], [.d (.int .i64 w.a), .d (.int .i64 w.b), .d (.int .i64 w.c), .d (.str w.e)]]) (r := []) (m := [layD N]) [0, 1] [] [1] rfl rfl rfl ⟨rfl, rfl, rfl, rfl, rfl, rfl, trivial⟩ rfl ?_
  apply Yr
  iterate 2 refine Yp rfl ?_
  refine loop_n (l.length - (n + 1)) (by omega) ⟨n + 1, N, hn, hTB, f2_2.next hTB (by assumption), rfl, _, _, _, _, rfl, rfl, rfl, rfl, rfl, rfl, inc_i64 (by omega), trivial⟩
 have hn : l.length ≤ n := row_ge (by assumption)
 obtain rfl : n = l.length := by omega
 have hres := hbf.trans (bfs_far hl9 f2_2)
 iterate 9 first|refine Yp rfl ?_|apply Ye|apply Yt|apply Yx|apply Yq|apply Y3|apply Yn
 exact ⟨_, rfl, rfl, le_way (ys := []) hres le_nilI⟩
end
end Go.Proofs.YtpelfildfidnbaaGreatDoor
/-
  DERIVED: THE SHELF's CONTRACTS AT THIS DUMP, IN PLAIN WORDS (tools/lay-plain.mjs out of 'TryzShelfK.lean', which tools/lay-shelf.mjs wrote): THE SAME DECLARATIONS UNDER THE SAME NAMES: 'import', 'namespace', 'open', 'def', 'theorem' AND NOTHING ELSE: no command of the shelf's: FOR A HAND-IN. Each laying: the table of numbers ('.._ren') and one theorem, a field a fact of the dump's own or the kernel's comparison; each contract: ONE APPLICATION.
-/
namespace Go.Proofs
open Go.Shelf
def Tryz.sort206_ren : Go.Shelf.Ren := ⟨fun | 6 => 206 | 8 => 248 | 9 => 247 | 19 => 287 | 20 => 288 | 21 => 278 | 22 => 279 | 23 => 280 | 24 => 281 | 25 => 282 | 26 => 283 | 27 => 284 | 28 => 285 | 29 => 286 | 36 => 306 | 31 => 307 | 32 => 308 | 37 => 309 | 38 => 310 | 39 => 311 | 41 => 322 | n => n, fun | 27 => 82 | 29 => 9 | 3 => 3 | 32 => 122 | 26 => 82 | 0 => 0 | 44 => 294 | 46 => 280 | 4 => 4 | 36 => 321 | 35 => 320 | 41 => 73 | 5 => 5 | 9 => 9 | 53 => 350 | 57 => 354 | 63 => 363 | 64 => 364 | n => n, fun | n => n⟩
theorem Tryz.sort206 : Go.Proofs.SlLaysM.n6 Tryz.prog Tryz.sort206_ren := {
 mixed := by kernel_rfl
 f6 := ⟨Tryz.f206.name, by decide, Tryz.func206.trans (congrArg some (by kernel_rfl))⟩
 f8 := Tryz.func248.trans (congrArg some (by kernel_rfl))
 f9 := ⟨Tryz.f247.name, by decide, Tryz.func247.trans (congrArg some (by kernel_rfl))⟩
 f19 := Tryz.func287.trans (congrArg some (by kernel_rfl))
 f20 := Tryz.func288.trans (congrArg some (by kernel_rfl))
 f21 := ⟨Tryz.f278.name, by decide, Tryz.func278.trans (congrArg some (by kernel_rfl))⟩
 f22 := ⟨Tryz.f279.name, by decide, Tryz.func279.trans (congrArg some (by kernel_rfl))⟩
 f23 := ⟨Tryz.f280.name, by decide, Tryz.func280.trans (congrArg some (by kernel_rfl))⟩
 f24 := ⟨Tryz.f281.name, by decide, Tryz.func281.trans (congrArg some (by kernel_rfl))⟩
 f25 := ⟨Tryz.f282.name, by decide, Tryz.func282.trans (congrArg some (by kernel_rfl))⟩
 f26 := ⟨Tryz.f283.name, by decide, Tryz.func283.trans (congrArg some (by kernel_rfl))⟩
 f27 := ⟨Tryz.f284.name, by decide, Tryz.func284.trans (congrArg some (by kernel_rfl))⟩
 f28 := ⟨Tryz.f285.name, by decide, Tryz.func285.trans (congrArg some (by kernel_rfl))⟩
 f29 := ⟨Tryz.f286.name, by decide, Tryz.func286.trans (congrArg some (by kernel_rfl))⟩
 f31 := Tryz.func307.trans (congrArg some (by kernel_rfl))
 f32 := Tryz.func308.trans (congrArg some (by kernel_rfl))
 f36 := ⟨Tryz.f306.name, by decide, Tryz.func306.trans (congrArg some (by kernel_rfl))⟩
 f37 := ⟨Tryz.f309.name, by decide, Tryz.func309.trans (congrArg some (by kernel_rfl))⟩
 f38 := ⟨Tryz.f310.name, by decide, Tryz.func310.trans (congrArg some (by kernel_rfl))⟩
 f39 := ⟨Tryz.f311.name, by decide, Tryz.func311.trans (congrArg some (by kernel_rfl))⟩
 f41 := ⟨Tryz.f322.name, by decide, Tryz.func322.trans (congrArg some (by kernel_rfl))⟩
 t0 := Tryz.underlying0
 a0 := Tryz.isAgg0
 z0 := Tryz.sizeOf0
 v0 := Tryz.zeroValue0
 t3 := Tryz.underlying3
 a3 := Tryz.isAgg3
 z3 := Tryz.sizeOf3
 v3 := Tryz.zeroValue3
 t4 := Tryz.underlying4
 a4 := Tryz.isAgg4
 z4 := Tryz.sizeOf4
 v4 := Tryz.zeroValue4
 t5 := Tryz.underlying5
 a5 := Tryz.isAgg5
 z5 := Tryz.sizeOf5
 v5 := Tryz.zeroValue5
 t9 := Tryz.underlying9
 a9 := Tryz.isAgg9
 z9 := Tryz.sizeOf9
 v9 := Tryz.zeroValue9
 t26 := Tryz.underlying82
 a26 := Tryz.isAgg82
 z26 := Tryz.sizeOf82
 v26 := Tryz.zeroValue82
 t27 := Tryz.underlying82
 a27 := Tryz.isAgg82
 z27 := Tryz.sizeOf82
 v27 := Tryz.zeroValue82
 t29 := Tryz.underlying9
 a29 := Tryz.isAgg9
 z29 := Tryz.sizeOf9
 v29 := Tryz.zeroValue9
 t32 := Tryz.underlying122
 a32 := Tryz.isAgg122
 z32 := Tryz.sizeOf122
 v32 := Tryz.zeroValue122
 t35 := Tryz.underlying320
 a35 := Tryz.isAgg320
 z35 := Tryz.sizeOf320
 v35 := Tryz.zeroValue320
 t36 := Tryz.underlying321
 a36 := Tryz.isAgg321
 z36 := Tryz.sizeOf321
 v36 := Tryz.zeroValue321
 t41 := Tryz.underlying73
 a41 := Tryz.isAgg73
 z41 := Tryz.sizeOf73
 v41 := Tryz.zeroValue73
 t44 := Tryz.underlying294
 a44 := Tryz.isAgg294
 z44 := Tryz.sizeOf294
 v44 := Tryz.zeroValue294
 t46 := Tryz.underlying280
 a46 := Tryz.isAgg280
 z46 := Tryz.sizeOf280
 v46 := Tryz.zeroValue280
 t53 := Tryz.underlying350
 a53 := Tryz.isAgg350
 z53 := Tryz.sizeOf350
 v53 := Tryz.zeroValue350
 t57 := Tryz.underlying354
 a57 := Tryz.isAgg354
 z57 := Tryz.sizeOf354
 v57 := Tryz.zeroValue354
 t63 := Tryz.underlying363
 a63 := Tryz.isAgg363
 z63 := Tryz.sizeOf363
 v63 := Tryz.zeroValue363
 t64 := Tryz.underlying364
 a64 := Tryz.isAgg364
 z64 := Tryz.sizeOf364
 v64 := Tryz.zeroValue364 }
def Tryz.sorted147_ren : Go.Shelf.Ren := ⟨fun | 6 => 147 | 8 => 205 | 9 => 206 | 11 => 246 | 13 => 248 | 12 => 247 | 23 => 287 | 24 => 288 | 14 => 278 | 15 => 279 | 16 => 280 | 17 => 281 | 18 => 282 | 19 => 283 | 20 => 284 | 21 => 285 | 22 => 286 | 25 => 306 | 26 => 307 | 27 => 308 | 28 => 309 | 29 => 310 | 30 => 311 | 31 => 322 | n => n, fun | 26 => 9 | 28 => 207 | 24 => 82 | 0 => 0 | 3 => 3 | 37 => 122 | 48 => 294 | 50 => 280 | 4 => 4 | 40 => 321 | 39 => 320 | 45 => 73 | 5 => 5 | 9 => 9 | 51 => 350 | 55 => 354 | 57 => 363 | 58 => 364 | 33 => 96 | n => n, fun | n => n⟩
theorem Tryz.sorted147 : Go.Proofs.SlLaysZ.n6 Tryz.prog Tryz.sorted147_ren := {
 mixed := by kernel_rfl
 f6 := ⟨Tryz.f147.name, by decide, Tryz.func147.trans (congrArg some (by kernel_rfl))⟩
 f8 := ⟨Tryz.f205.name, by decide, Tryz.func205.trans (congrArg some (by kernel_rfl))⟩
 f11 := ⟨Tryz.f246.name, by decide, Tryz.func246.trans (congrArg some (by kernel_rfl))⟩
 t0 := Tryz.underlying0
 a0 := Tryz.isAgg0
 z0 := Tryz.sizeOf0
 v0 := Tryz.zeroValue0
 t24 := Tryz.underlying82
 a24 := Tryz.isAgg82
 z24 := Tryz.sizeOf82
 v24 := Tryz.zeroValue82
 t26 := Tryz.underlying9
 a26 := Tryz.isAgg9
 z26 := Tryz.sizeOf9
 v26 := Tryz.zeroValue9
 t28 := Tryz.underlying207
 a28 := Tryz.isAgg207
 z28 := Tryz.sizeOf207
 v28 := Tryz.zeroValue207
 i26 := by kernel_rfl }
def Tryz.keys148_ren : Go.Shelf.Ren := ⟨fun | 7 => 148 | 10 => 207 | n => n, fun | 23 => 112 | 26 => 9 | 3 => 9 | 28 => 207 | 0 => 0 | 27 => 206 | 33 => 96 | 4 => 4 | n => n, fun | n => n⟩
theorem Tryz.keys148 : Go.Proofs.SlLaysZ.n7 Tryz.prog Tryz.keys148_ren := {
 mixed := by kernel_rfl
 f7 := ⟨Tryz.f148.name, by decide, Tryz.func148.trans (congrArg some (by kernel_rfl))⟩
 f10 := ⟨Tryz.f207.name, by decide, Tryz.func207.trans (congrArg some (by kernel_rfl))⟩
 t0 := Tryz.underlying0
 a0 := Tryz.isAgg0
 z0 := Tryz.sizeOf0
 v0 := Tryz.zeroValue0
 t4 := Tryz.underlying4
 a4 := Tryz.isAgg4
 z4 := Tryz.sizeOf4
 v4 := Tryz.zeroValue4
 t23 := Tryz.underlying112
 a23 := Tryz.isAgg112
 z23 := Tryz.sizeOf112
 v23 := Tryz.zeroValue112
 t26 := Tryz.underlying9
 a26 := Tryz.isAgg9
 z26 := Tryz.sizeOf9
 v26 := Tryz.zeroValue9
 t27 := Tryz.underlying206
 a27 := Tryz.isAgg206
 z27 := Tryz.sizeOf206
 v27 := Tryz.zeroValue206
 t28 := Tryz.underlying207
 a28 := Tryz.isAgg207
 z28 := Tryz.sizeOf207
 v28 := Tryz.zeroValue207
 t33 := Tryz.underlying96
 a33 := Tryz.isAgg96
 z33 := Tryz.sizeOf96
 v33 := Tryz.zeroValue96 }
def Tryz.keys204_ren : Go.Shelf.Ren := ⟨fun | 7 => 204 | 10 => 245 | n => n, fun | 23 => 202 | 26 => 9 | 3 => 9 | 28 => 207 | 0 => 0 | 27 => 206 | 33 => 96 | 4 => 4 | n => n, fun | n => n⟩
theorem Tryz.keys204 : Go.Proofs.SlLaysZ.n7 Tryz.prog Tryz.keys204_ren := {
 mixed := by kernel_rfl
 f7 := ⟨Tryz.f204.name, by decide, Tryz.func204.trans (congrArg some (by kernel_rfl))⟩
 f10 := ⟨Tryz.f245.name, by decide, Tryz.func245.trans (congrArg some (by kernel_rfl))⟩
 t0 := Tryz.underlying0
 a0 := Tryz.isAgg0
 z0 := Tryz.sizeOf0
 v0 := Tryz.zeroValue0
 t4 := Tryz.underlying4
 a4 := Tryz.isAgg4
 z4 := Tryz.sizeOf4
 v4 := Tryz.zeroValue4
 t23 := Tryz.underlying202
 a23 := Tryz.isAgg202
 z23 := Tryz.sizeOf202
 v23 := Tryz.zeroValue202
 t26 := Tryz.underlying9
 a26 := Tryz.isAgg9
 z26 := Tryz.sizeOf9
 v26 := Tryz.zeroValue9
 t27 := Tryz.underlying206
 a27 := Tryz.isAgg206
 z27 := Tryz.sizeOf206
 v27 := Tryz.zeroValue206
 t28 := Tryz.underlying207
 a28 := Tryz.isAgg207
 z28 := Tryz.sizeOf207
 v28 := Tryz.zeroValue207
 t33 := Tryz.underlying96
 a33 := Tryz.isAgg96
 z33 := Tryz.sizeOf96
 v33 := Tryz.zeroValue96 }
end Go.Proofs
namespace Go.Proofs.YtpelfildfidnbaaGreatDoor
section
open Go Go.RowKit Go.Maps Go.Sort Go.Shelf
theorem sorts_in (m : Nat) : AnyZ.SortsIn Tryz.prog Tryz.sorted147_ren Fence.wide m :=
 ⟨fun blk off cap ss W hH hblk hsz => callsIn_wide.2 (AnyM.slices_Sort_string Tryz.sort206 blk off cap ss W hH hblk hsz), fun p cap W => callsIn_wide.2 (AnyM.slices_Sort_string_none Tryz.sort206 p cap W)⟩
set_option maxHeartbeats 1000000 in
theorem so_148 : SortedOk Tryz.prog 147 207 9 := fun b nn Bm D0 R w hB hc hown hmax hbytes => by
 have hseq : SeqGives Fence.wide 2 Tryz.prog 207 #[.pointer (some ⟨Bm, 0, none⟩)] encStr (fun ss => ss.Perm (strKeys D0)) (Maps.size D0) w :=
  AnyZ.keys_gives (ρ := Tryz.keys148_ren) { Tryz.keys148 with } Fence.wide _ trivial rfl (by omega) Bm b nn D0 _ hB hc hown
 refine (callsIn_wide.1 (AnyZ.sorted_in Tryz.sorted147 Fence.wide 5 trivial trivial trivial trivial rfl (by omega) (sorts_in _) (enters_of Tryz.func206 (by kernel_rfl) rfl) 207 #[.pointer (some ⟨Bm, 0, none⟩)] trivial (enters_of Tryz.func207 (by kernel_rfl) rfl) _ _ hmax hbytes _ hseq)).mono ?_
 rintro e w' ⟨v, ss, he, hp, hrow, _, hb⟩
 exact ⟨v, ss, he, hp, hrow, hb⟩
theorem pc_Sorted_148 {β : Type} {fD : β → DV} (tab : List (List UInt8 × β)) (hn : tab.length * 16 ≤ 140737488355328) (hl : ∀ x ∈ tab, x.1.length ≤ maxLen) (hd : (tab.map (·.1)).Nodup) :
  HCall Tryz.prog J 147 [.one (.clo 207 [.ptr 0 0])] [[.map 0]] [] [mapOf D.str fD tab] (isH (.one (.d (strsD (sortS (tab.map (·.1)))))) [[.map 0]] [] [mapOf D.str fD tab]) :=
 HCall.sorted so_148 (by kernel_rfl) Tryz.func147 (by kernel_rfl) (by kernel_rfl) tab hn hl hd
set_option maxHeartbeats 1000000 in
theorem so_204 : SortedOk Tryz.prog 147 245 9 := fun b nn Bm D0 R w hB hc hown hmax hbytes => by
 have hseq : SeqGives Fence.wide 2 Tryz.prog 245 #[.pointer (some ⟨Bm, 0, none⟩)] encStr (fun ss => ss.Perm (strKeys D0)) (Maps.size D0) w :=
  AnyZ.keys_gives (ρ := Tryz.keys204_ren) { Tryz.keys204 with } Fence.wide _ trivial rfl (by omega) Bm b nn D0 _ hB hc hown
 refine (callsIn_wide.1 (AnyZ.sorted_in Tryz.sorted147 Fence.wide 5 trivial trivial trivial trivial rfl (by omega) (sorts_in _) (enters_of Tryz.func206 (by kernel_rfl) rfl) 245 #[.pointer (some ⟨Bm, 0, none⟩)] trivial (enters_of Tryz.func245 (by kernel_rfl) rfl) _ _ hmax hbytes _ hseq)).mono ?_
 rintro e w' ⟨v, ss, he, hp, hrow, _, hb⟩
 exact ⟨v, ss, he, hp, hrow, hb⟩
theorem pc_Sorted_204 {β : Type} {fD : β → DV} (tab : List (List UInt8 × β)) (hn : tab.length * 16 ≤ 140737488355328) (hl : ∀ x ∈ tab, x.1.length ≤ maxLen) (hd : (tab.map (·.1)).Nodup) :
  HCall Tryz.prog J 147 [.one (.clo 245 [.ptr 0 0])] [[.map 0]] [] [mapOf D.str fD tab] (isH (.one (.d (strsD (sortS (tab.map (·.1)))))) [[.map 0]] [] [mapOf D.str fD tab]) :=
 HCall.sorted so_204 (by kernel_rfl) Tryz.func147 (by kernel_rfl) (by kernel_rfl) tab hn hl hd
end
section
open Go
open Go.RowKit
attribute [local irreducible] thenK blockK W
attribute [local irreducible] rangeB pathB nameB valueB firstNe tailOf listT ndT lk badP keysT belowR
theorem pc_CopyT (dst src : Tab) (hd : ndT dst) (hs : ndT src) :
  HCall Tryz.prog J 244 ([.one (.map 0), .one (.map 1)]) ([]) ([]) ([tabD dst, tabD src]) (isX (X := Tab) (fun tab => EqT tab (copyT src dst)) (fun tab => .tup []) (fun tab => []) (fun tab => []) (fun tab => [tabD tab, tabD src])) := by
 refine HCall.ofX tOk (fun _ => ⟨0, 0, 2⟩) (fn := Tryz.f244) Tryz.func244 (by kernel_rfl) rfl (Nat.le_of_ble_eq_true rfl) (fun E => ?_)
 refine W.forMap (enc := D.str) (fD := fun v : List UInt8 => DV.one (.str v)) (l0 := src) (mi := 1) tOk (fun q M dn st => ∃ tab : Tab, ndT tab ∧ lk tab = orF (lk dn) (lk dst) ∧ st = ⟨ofL [(7, .one (.d (.raw q))), (0, .one (.map 0)), (1, .one (.map 1))], [], [], [tabD tab, M]⟩) 1 rfl rfl rfl (by rintro q M dn _ ⟨tab, f0_0, f0_1, rfl⟩; exact ⟨rfl, rfl⟩) ⟨rfl, rfl, rfl, rfl⟩ ?_ ?_ ?_
 ·skip
  refine Yp rfl ?_
  refine WL.nil ?_
  exact ⟨rfl, rfl, fun q M => ⟨_, ⟨dst, hd, orF_nil _, rfl⟩, Wk.keep rfl ⟨rfl, rfl, rfl, trivial⟩ rfl⟩⟩
 ·skip
  rintro q M dn _ j0 c1000 born0 y rest E1 ⟨tab, f0_0, f0_1, rfl⟩ hE0 hst0 hp un0
  refine W.keep [(7, .one (.d (.raw q))), (0, .one (.map 0)), (1, .one (.map 1))] ⟨rfl, rfl, rfl, trivial⟩ ?_
  apply Yb
  apply Y1
  refine S.entry hE0 rfl rfl hst0.at ?_
  iterate 8 first|refine Yp rfl ?_|apply Y4
  refine S.mapUpdate tOk keyS (fD := fun v : List UInt8 => DV.one (.str v)) (y.2) (tab) rfl rfl rfl rfl rfl rfl rfl rfl (show _ = [tabD (setL beqS tab y.1 y.2), M] from rfl) ?_
  apply Yw
  exact thenK_n ⟨_, ⟨setL beqS tab y.1 y.2, nd_set f0_0 _ _, copy_t (nd_part hs hp) f0_1, rfl⟩, Wk.keep rfl ⟨rfl, rfl, rfl, trivial⟩ rfl⟩
 rintro q M dn _ ⟨tab, f0_0, f0_1, rfl⟩ hp
 refine ⟨_, Wk.keep (l := [(7, .one (.d (.raw q))), (0, .one (.map 0)), (1, .one (.map 1))]) (b1 := []) (b2 := []) (r1 := []) (r2 := []) (m1 := [tabD tab, mapOf D.str (fun v : List UInt8 => DV.one (.str v)) (src)]) (m2 := []) rfl ⟨rfl, rfl, rfl, trivial⟩ rfl, ?_⟩
 exact ⟨tab, ⟨f0_0, nd_copy _ hd, by rw [f0_1, lk_copy _ hs, lk_perm hs (nd_perm hs hp) hp]⟩, _, rfl, rfl, LeG.refl _, rfl, rfl, rfl⟩
theorem pc_CopyM (dst src : Tab) (hd : ndT dst) (hs : ndT src) :
  HCall Tryz.prog J 209 ([.one (.map 0), .one (.map 1)]) ([]) ([]) ([tabD dst, tabD src]) (isX (X := Tab) (fun tab => EqT tab (copyT src dst)) (fun tab => .tup []) (fun tab => []) (fun tab => []) (fun tab => [tabD tab, tabD src])) := by
 refine HCall.ofX tOk (fun _ => ⟨0, 0, 2⟩) (fn := Tryz.f209) Tryz.func209 (by kernel_rfl) rfl (Nat.le_of_ble_eq_true rfl) (fun E => ?_)
 refine W.forMap (enc := D.str) (fD := fun v : List UInt8 => DV.one (.str v)) (l0 := src) (mi := 1) tOk (fun q M dn st => ∃ tab : Tab, ndT tab ∧ lk tab = orF (lk dn) (lk dst) ∧ st = ⟨ofL [(7, .one (.d (.raw q))), (0, .one (.map 0)), (1, .one (.map 1))], [], [], [tabD tab, M]⟩) 1 rfl rfl rfl (by rintro q M dn _ ⟨tab, f0_0, f0_1, rfl⟩; exact ⟨rfl, rfl⟩) ⟨rfl, rfl, rfl, rfl⟩ ?_ ?_ ?_
 ·skip
  refine Yp rfl ?_
  refine WL.nil ?_
  exact ⟨rfl, rfl, fun q M => ⟨_, ⟨dst, hd, orF_nil _, rfl⟩, Wk.keep rfl ⟨rfl, rfl, rfl, trivial⟩ rfl⟩⟩
 ·skip
  rintro q M dn _ j0 c1000 born0 y rest E1 ⟨tab, f0_0, f0_1, rfl⟩ hE0 hst0 hp un0
  refine W.keep [(7, .one (.d (.raw q))), (0, .one (.map 0)), (1, .one (.map 1))] ⟨rfl, rfl, rfl, trivial⟩ ?_
  apply Yb
  apply Y1
  refine S.entry hE0 rfl rfl hst0.at ?_
  iterate 8 first|refine Yp rfl ?_|apply Y4
  refine S.mapUpdate tOk keyS (fD := fun v : List UInt8 => DV.one (.str v)) (y.2) (tab) rfl rfl rfl rfl rfl rfl rfl rfl (show _ = [tabD (setL beqS tab y.1 y.2), M] from rfl) ?_
  apply Yw
  exact thenK_n ⟨_, ⟨setL beqS tab y.1 y.2, nd_set f0_0 _ _, copy_t (nd_part hs hp) f0_1, rfl⟩, Wk.keep rfl ⟨rfl, rfl, rfl, trivial⟩ rfl⟩
 rintro q M dn _ ⟨tab, f0_0, f0_1, rfl⟩ hp
 refine ⟨_, Wk.keep (l := [(7, .one (.d (.raw q))), (0, .one (.map 0)), (1, .one (.map 1))]) (b1 := []) (b2 := []) (r1 := []) (r2 := []) (m1 := [tabD tab, mapOf D.str (fun v : List UInt8 => DV.one (.str v)) (src)]) (m2 := []) rfl ⟨rfl, rfl, rfl, trivial⟩ rfl, ?_⟩
 exact ⟨tab, ⟨f0_0, nd_copy _ hd, by rw [f0_1, lk_copy _ hs, lk_perm hs (nd_perm hs hp) hp]⟩, _, rfl, rfl, LeG.refl _, rfl, rfl, rfl⟩
theorem pc_pre1 (x v key : List UInt8) (hk : key.length ≤ 1000000000) :
  HCall Tryz.prog J 243 ([.one (.d (.str x)), .one (.d (.str v)), .one (.ptr 0 0)]) ([[.d (.str key)]]) ([]) ([]) (isH (.one (.d (.bool (x == key || belowB x key)))) ([[.d (.str key)]]) ([]) ([])) := by
 refine HCall.ofD tOk ⟨1, 0, 0⟩ (fn := Tryz.f243) Tryz.func243 (by kernel_rfl) rfl (Nat.le_of_ble_eq_true rfl) (fun E => ?_)
 iterate 9 first|refine Yp rfl ?_|refine Yg rfl rfl tg ?_|apply Y3|apply Y1
 refine S.callG rfl rfl rfl rfl tg rfl rfl (fun _ => pc_mbelow x key hk) ?_
 refine S.pickOr tOk zOk rfl rfl tg ?_
 refine Yp rfl ?_
 apply Yn
 apply Yt
 exact ⟨_, rfl, rfl, LeG.refl _, rfl, rfl, rfl⟩
theorem pc_DelFunc (t : Tab) (key : List UInt8) (hd : ndT t) (hk : key.length ≤ 1000000000) :
  HCall Tryz.prog J 242 ([.one (.map 0), .one (.clo 243 [.ptr 0 0])]) ([[.d (.str key)]]) ([]) ([tabD t]) (isX (X := Tab) (fun tab => EqT tab (t.filter fun x => (tailOf x.1 key).isNone)) (fun tab => .tup []) (fun tab => [[.d (.str key)]]) (fun tab => []) (fun tab => [tabD tab])) := by
 refine HCall.ofX tOk (fun _ => ⟨1, 0, 1⟩) (fn := Tryz.f242) Tryz.func242 (by kernel_rfl) rfl (Nat.le_of_ble_eq_true rfl) (fun E => ?_)
 refine W.forMapDel (enc := D.str) (fD := fun v : List UInt8 => DV.one (.str v)) (l0 := t) (mi := 0) tOk (fun q M dn kp st => kp = dn.filter (fun x => (tailOf x.1 key).isNone) ∧ st = ⟨ofL [(7, .one (.d (.raw q))), (0, .one (.map 0)), (1, .one (.clo 243 [.ptr 0 0]))], [[.d (.str key)]], [], [M]⟩) 1 rfl rfl rfl (by rintro q M dn kp _ ⟨f0_0, rfl⟩; exact ⟨rfl, rfl⟩) ⟨rfl, rfl, rfl, rfl⟩ ?_ ?_ ?_
 ·skip
  refine Yp rfl ?_
  refine WL.nil ?_
  exact ⟨rfl, rfl, fun q M => ⟨_, ⟨rfl, rfl⟩, Wk.keep rfl ⟨rfl, rfl, rfl, trivial⟩ rfl⟩⟩
 ·skip
  rintro q M dn kp _ j0 c1000 born0 y rest E1 ⟨f0_0, rfl⟩ hE0 hst0 hp
  refine W.keep [(7, .one (.d (.raw q))), (0, .one (.map 0)), (1, .one (.clo 243 [.ptr 0 0]))] ⟨rfl, rfl, rfl, trivial⟩ ?_
  apply Yb
  apply Y1
  refine S.entry hE0 rfl rfl hst0.at ?_
  iterate 8 first|refine Yp rfl ?_|apply Y3
  refine S.hcallD rfl rfl rfl rfl ((pc_pre1 y.1 y.2 key hk).fd [0] [] [] rfl) ?_
  apply Yn
  refine W.cond rfl (fun c1=>?_) fun c1=>?_
  ·skip
   obtain ⟨sf, hs⟩ := tail_t c1
   apply Yr
   iterate 2 refine Yp rfl ?_
   refine S.mapDeleteSt tOk keyS beqS_iff hst0 (nd_keys hd) rfl rfl rfl rfl rfl rfl rfl (show _ = [M.eraseIdx j0] from rfl) ?_
   apply Yw
   exact thenK_n ⟨_, .inr ⟨f0_0.trans (kept_t hs).symm, rfl⟩, Wk.keep rfl ⟨rfl, rfl, rfl, trivial⟩ rfl⟩
  have hs := tail_f c1
  apply Yk
  apply Yw
  exact thenK_n ⟨_, .inl ⟨by rw [f0_0, kept_f hs], rfl⟩, Wk.keep rfl ⟨rfl, rfl, rfl, trivial⟩ rfl⟩
 rintro q M dn kp tab _ ⟨f0_0, rfl⟩ hp hkp hsub
 have ho := off_end (tab := tab) (key := key) hd hp (by rw [← f0_0]; exact hkp)
 refine ⟨_, Wk.keep (l := [(7, .one (.d (.raw q))), (0, .one (.map 0)), (1, .one (.clo 243 [.ptr 0 0]))]) (b1 := [[.d (.str key)]]) (b2 := []) (r1 := []) (r2 := []) (m1 := [mapOf D.str (fun v : List UInt8 => DV.one (.str v)) tab]) (m2 := []) rfl ⟨rfl, rfl, rfl, trivial⟩ rfl, ?_⟩
 exact ⟨tab, ⟨ho.1, nd_filter hd _, by rw [ho.2, off_filter hd]⟩, _, rfl, rfl, LeG.refl _, rfl, rfl, rfl⟩
theorem pc_prefix (t : Tab) (key tu : List UInt8) (hd : ndT t) (hl : ∀ x ∈ t, x.1.length ≤ 2000000) (hk : key.length ≤ 2000000) (ht : tu.length ≤ 2000000) :
  HCall Tryz.prog J 203 ([.one (.map 0), .one (.d (.str key)), .one (.d (.str tu))]) ([]) ([]) ([tabD t]) (isX (X := Tab) (fun tab => EqT tab (if badP t key tu then t else prefT t key tu)) (fun tab => .one (.d (.bool (!badP t key tu)))) (fun tab => []) (fun tab => []) (fun tab => [tabD tab])) := by
 refine HCall.ofX tOk (fun _ => ⟨0, 0, 1⟩) (fn := Tryz.f203) Tryz.func203 (by kernel_rfl) rfl (Nat.le_of_ble_eq_true rfl) (fun E => ?_)
 apply Y1
 refine S.box rfl rfl rfl rfl ?_
 refine Yp rfl ?_
 apply Y3
 refine S.makeMap rfl ?_
 refine Yp rfl ?_
 apply Yn
 apply Ys
 refine W.forMap (enc := D.str) (fD := fun v : List UInt8 => DV.one (.str v)) (l0 := t) (mi := 0) tOk (fun q M dn st => ∃ mv : Tab, ndT mv ∧ lk mv = movF (lk dn) key tu ∧ dn.all (okM key tu) = true ∧ st = ⟨ofL [(13, .one (.d (.raw q))), (0, .one (.map 0)), (2, .one (.d (.str tu))), (4, .one (.ptr 0 0)), (7, .one (.map 1))], [[.d (.str key)]], [], [M, tabD mv]⟩) 1 rfl rfl rfl (by rintro q M dn _ ⟨mv, f0_0, f0_1, f0_2, rfl⟩; exact ⟨rfl, rfl⟩) ⟨rfl, rfl, rfl, rfl⟩ ?_ ?_ ?_
 ·skip
  refine Yp rfl ?_
  refine WL.nil ?_
  exact ⟨rfl, rfl, fun q M => ⟨_, ⟨[], nd_nil, mov_nil _ _, rfl, rfl⟩, Wk.keep rfl ⟨rfl, rfl, rfl, rfl, rfl, trivial⟩ rfl⟩⟩
 ·skip
  rintro q M dn _ j0 c1000 born0 y rest E1 ⟨mv, f0_0, f0_1, f0_2, rfl⟩ hE0 hst0 hp un0
  refine W.keep [(13, .one (.d (.raw q))), (0, .one (.map 0)), (2, .one (.d (.str tu))), (4, .one (.ptr 0 0)), (7, .one (.map 1))] ⟨rfl, rfl, rfl, rfl, rfl, trivial⟩ ?_
  have hy := mem_len hl hp
  apply Yb
  apply Y1
  refine S.entry hE0 rfl rfl hst0.at ?_
  iterate 13 first|refine Yp rfl ?_|refine Yg rfl rfl tg ?_|apply Y1|apply Ys|apply Yn
  refine S.callG rfl rfl rfl rfl tg rfl rfl (fun _ => pc_mbelow y.1 key (by omega)) ?_
  refine Yg rfl rfl tg ?_
  refine S.pickAnd tOk zOk rfl rfl tg ?_
  apply Yn
  refine W.cond rfl (fun c1=>?_) fun c1=>?_
  ·skip
   have hs := tail_nt c1
   apply Yq
   apply Ye
   apply Yx
   exact thenK_n ⟨_, ⟨mv, f0_0, mov_f (nd_part hd hp) f0_1 hs, all_snoc f0_2 (okM_f hs), rfl⟩, Wk.keep rfl ⟨rfl, rfl, rfl, rfl, rfl, trivial⟩ rfl⟩
  obtain ⟨sf, hs⟩ := tail_nf c1
  obtain ⟨hs1, hs2, hs3⟩ := tail_len hs
  apply Yk
  apply Y3
  iterate 4 refine Yp rfl ?_
  refine YE rfl (sl_ok (by omega) (by omega) (by omega)) (show _ = V.one (.d (.str sf)) by rw [← hs2]; simp) rfl ?_
  refine YP rfl (cat_ok (by omega)) rfl ?_
  iterate 5 first|refine Yp rfl ?_|apply Y1|apply Ys|apply Yn
  refine S.call rfl rfl rfl rfl rfl (pc_ver_IsPath (tu ++ sf) (by simp; omega)) ?_
  refine Yp rfl ?_
  apply Yn
  refine W.cond rfl (fun c2=>?_) fun c2=>?_
  ·skip
   have hb := bad_hit hp hs c2
   rw [hb]
   apply Y1
   refine Yp rfl ?_
   apply Yn
   refine un0 _ _ _ _ _ _ _ rfl rfl ?_
   iterate 6 first|apply Yu|apply Yv|apply Yt
   exact ⟨t, by rw [if_pos rfl]; exact EqT.refl hd, _, rfl, rfl, LeG.refl _, rfl, rfl, rfl⟩
  apply Yk
  apply Y4
  iterate 3 refine Yp rfl ?_
  refine S.mapUpdate tOk keyS (fD := fun v : List UInt8 => DV.one (.str v)) (y.2) (mv) rfl rfl rfl rfl rfl rfl rfl rfl (show _ = [M, tabD (setL beqS mv (tu ++ sf) y.2)] from rfl) ?_
  apply Yw
  exact thenK_n ⟨_, ⟨setL beqS mv (tu ++ sf) y.2, nd_set f0_0 _ _, mov_t (nd_part hd hp) f0_1 hs, all_snoc f0_2 ((okM_t hs).trans (by simpa using c2)), rfl⟩, Wk.keep rfl ⟨rfl, rfl, rfl, rfl, rfl, trivial⟩ rfl⟩
 rintro q M dn _ ⟨mv, f0_0, f0_1, f0_2, rfl⟩ hp
 have hb := bad_none hp f0_2
 have hm : lk mv = movF (lk t) key tu := by rw [f0_1, lk_perm hd (nd_perm hd hp) hp]
 rw [hb]
 refine ⟨_, Wk.keep (l := [(13, .one (.d (.raw q))), (0, .one (.map 0)), (2, .one (.d (.str tu))), (4, .one (.ptr 0 0)), (7, .one (.map 1))]) (b1 := [[.d (.str key)]]) (b2 := []) (r1 := []) (r2 := []) (m1 := [mapOf D.str (fun v : List UInt8 => DV.one (.str v)) (t), tabD mv]) (m2 := []) rfl ⟨rfl, rfl, rfl, rfl, rfl, trivial⟩ rfl, ?_⟩
 apply Y3
 refine Yp rfl ?_
 refine S.makeFunc rfl rfl rfl ?_
 refine S.hcallX rfl rfl rfl rfl ((pc_DelFunc t key hd (by omega)).frameX [0] [] [0] rfl rfl rfl rfl rfl (fun _ => rfl) (fun _ => rfl) (fun _ => rfl) (fun _ => rfl)) ?_
 rintro tab1 h1
 apply Y3
 iterate 2 refine Yp rfl ?_
 refine S.hcallX rfl rfl rfl rfl ((pc_CopyT tab1 mv h1.l f0_0).frameX [] [] [0, 1] rfl rfl rfl rfl rfl (fun _ => rfl) (fun _ => rfl) (fun _ => rfl) (fun _ => rfl)) ?_
 rintro tab2 h2
 apply Y3
 refine Yp rfl ?_
 apply Yn
 apply Yt
 exact ⟨tab2, by rw [if_neg (by simp)]; exact sum_pref hd f0_0 hm h1 h2, _, rfl, rfl, LeG.refl _, rfl, rfl, rfl⟩
end
end Go.Proofs.YtpelfildfidnbaaGreatDoor
