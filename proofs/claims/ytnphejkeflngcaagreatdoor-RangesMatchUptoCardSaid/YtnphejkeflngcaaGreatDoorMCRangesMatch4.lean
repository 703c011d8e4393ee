/- RangesMatch: where what it reads is of bulk at most 1048576, it returns true, and what it was given reads as it did. -/
import Derived.Test.YtnphejkeflngcaaGreatDoorRows
import Derived.Lib.LaidTab
import Derived.Carry
import Derived.ChangeSame
import Derived.OpenVars
import Derived.OpenShut
import Derived.WalkKit
import Derived.ProofKit
import Derived.Deep.DeepHandedRow
import Derived.Test.YtnphejkeflngcaaGreatDoorCards
import Derived.Test.YtnphejkeflngcaaGreatDoorTie
import Derived.Lib.LaidU8
import Derived.Shelf.Vars
import Derived.Deep.DeepLaidRun
import Derived.Test.YtnphejkeflngcaaGreatDoorMCRangesMatch3
set_option linter.unusedVariables false
set_option linter.unusedSimpArgs false
set_option maxRecDepth 100000
set_option maxHeartbeats 4000000
namespace Go.Proofs.YtnphejkeflngcaaGreatDoor
open Go
open Go.RowKit Go.Sort
attribute [local irreducible] rangeE orderB compareR Lib.split
def pieceF (E : List Ver) (k : Nat) (s : Sp) : Bool := if ((k : Int) == 0) then !s.hf else insideR s (E.getD (k - 1) Ver.z)
theorem pieceF_any {E : List Ver} {l : List Sp} {k : Nat} : l.any (pieceF E k) = pieceR E l k := by
  unfold pieceR
  by_cases h : k = 0
  · rw [if_pos h]; refine any_congr' fun s _ => ?_
    unfold pieceF; rw [if_pos (by simp [h])]
  · rw [if_neg h]; refine any_congr' fun s _ => ?_
    unfold pieceF; rw [if_neg (by simp; omega)]
def toR (l : List Ver) : List RVer := l.filterMap fun v => if h : v.check = 0 then some ⟨v, h⟩ else none
theorem toR_map : ∀ {l : List Ver}, (∀ v ∈ l, v.check = 0) → (toR l).map (·.1) = l
  | [], _ => rfl
  | v :: l, h => by
    have h0 := h v List.mem_cons_self
    have ih := toR_map (l := l) (fun w hw => h w (List.mem_cons_of_mem _ hw))
    unfold toR at ih ⊢
    rw [List.filterMap_cons, dif_pos h0]
    simp only [List.map_cons, ih]
def srtV (l : List RVer) : List RVer := l.mergeSort fun x y => !(ltOf cfV) y x
def segE1 (ys zs : List Sp) : List Ver := (srtV (toR (endsOf [ys, zs].flatten))).map (·.1)
def segE (ys zs : List Sp) : List Ver := compactF eqR (segE1 ys zs)
theorem compactG_congr {α : Type} {eq eq' : α → α → Bool} {Q : α → Prop} (h : ∀ x y, Q x → Q y → eq x y = eq' x y) : ∀ {l : List α} {p : α}, Q p → (∀ x ∈ l, Q x) → compactG eq p l = compactG eq' p l
  | [], _, _, _ => rfl
  | y :: l, p, hp, hl => by
    have hy := hl y List.mem_cons_self
    have ih := compactG_congr h (l := l) (p := y) hy (fun x hx => hl x (List.mem_cons_of_mem _ hx))
    unfold compactG
    rw [h y p hy hp, ih]
theorem compactF_congr {α : Type} {eq eq' : α → α → Bool} {Q : α → Prop} (h : ∀ x y, Q x → Q y → eq x y = eq' x y) {l : List α} (hl : ∀ x ∈ l, Q x) : compactF eq l = compactF eq' l := by
  cases l with
  | nil => rfl
  | cons x l => exact congrArg (x :: ·) (compactG_congr h (hl x List.mem_cons_self) (fun y hy => hl y (List.mem_cons_of_mem _ hy)))
theorem endsOf_len : ∀ (l : List Sp), (endsOf l).length ≤ 2 * l.length
  | [] => Nat.le_refl _
  | s :: l => by
    have ih := endsOf_len l
    unfold endsOf at ih ⊢
    have e : (endsS s).length ≤ 2 := by unfold endsS; cases s.hf <;> cases s.ht <;> simp
    simp only [List.map_cons, List.flatten_cons, List.length_append, List.length_cons]
    omega
theorem endsOf_s {ss : List Sp} {i : Nat} (hi : i < ss.length) : endsOf (ss.take (i + 1)) = endsOf (ss.take i) ++ endsS (ss.getD i Sp.z) := by
  rw [take_getD (d := Sp.z) hi]; unfold endsOf; simp
theorem snoc_map {l : List Ver} {x : Ver} : l.map verD ++ [verD x] = (l ++ [x]).map verD := by simp
theorem ends_tt {ss : List Sp} {i : Nat} (hi : i < ss.length) (h1 : (ss.getD i Sp.z).hf = true) (h2 : (ss.getD i Sp.z).ht = true) : (endsOf (ss.take i) ++ [(ss.getD i Sp.z).f]).map verD ++ [verD (ss.getD i Sp.z).t] = (endsOf (ss.take (i + 1))).map verD := by
  rw [endsOf_s hi]; unfold endsS; rw [h1, h2]; simp
theorem ends_ft {ss : List Sp} {i : Nat} (hi : i < ss.length) (h1 : (ss.getD i Sp.z).hf = false) (h2 : (ss.getD i Sp.z).ht = true) : (endsOf (ss.take i)).map verD ++ [verD (ss.getD i Sp.z).t] = (endsOf (ss.take (i + 1))).map verD := by
  rw [endsOf_s hi]; unfold endsS; rw [h1, h2]; simp
theorem ends_tf {ss : List Sp} {i : Nat} (hi : i < ss.length) (h1 : (ss.getD i Sp.z).hf = true) (h2 : (ss.getD i Sp.z).ht = false) : endsOf (ss.take i) ++ [(ss.getD i Sp.z).f] = endsOf (ss.take (i + 1)) := by
  rw [endsOf_s hi]; unfold endsS; rw [h1, h2]; simp
theorem ends_ff {ss : List Sp} {i : Nat} (hi : i < ss.length) (h1 : (ss.getD i Sp.z).hf = false) (h2 : (ss.getD i Sp.z).ht = false) : endsOf (ss.take i) = endsOf (ss.take (i + 1)) := by
  rw [endsOf_s hi]; unfold endsS; rw [h1, h2]; simp
theorem range_len {ss : List Sp} (h : rangeE ss = 0) : ∀ s ∈ ss, SpLen s := fun s hs => by
  have z := spanE_0 (span_in h hs)
  exact ⟨early_len z.2.2.1, early_len z.2.2.2.1⟩
theorem flat2 (ys zs : List Sp) : [ys, zs].flatten = ys ++ zs := by simp
section
variable {ys zs : List Sp} (ha : rangeE ys = 0) (hb : rangeE zs = 0)
include ha hb
theorem flat_check : ∀ v ∈ endsOf [ys, zs].flatten, v.check = 0 := by rw [flat2]; exact ends_check ha hb
theorem segE1_perm : (segE1 ys zs).Perm (endsOf (ys ++ zs)) := by
  have h : ((srtV (toR (endsOf [ys, zs].flatten))).map (·.1)).Perm ((toR (endsOf [ys, zs].flatten)).map (·.1)) := (List.mergeSort_perm _ _).map _
  rw [toR_map (flat_check ha hb), flat2] at h
  unfold segE1; rw [flat2]; exact h
theorem segE1_check : ∀ v ∈ segE1 ys zs, v.check = 0 := fun v hv => ends_check ha hb v ((segE1_perm ha hb).mem_iff.1 hv)
theorem segE1_len : (segE1 ys zs).length ≤ 100 := by
  have h := (segE1_perm ha hb).length_eq
  have h2 := endsOf_len (ys ++ zs)
  have h3 := range_10 ha
  have h4 := range_10 hb
  simp at h2
  omega
theorem flat_ends_len : (endsOf [ys, zs].flatten).length ≤ 100 := by
  have h2 := endsOf_len (ys ++ zs)
  have h3 := range_10 ha
  have h4 := range_10 hb
  rw [flat2]
  simp at h2
  omega
theorem segE_same : segE ys zs = compactF sameV (segE1 ys zs) := compactF_congr (Q := fun v : Ver => v.check = 0) (fun x y hx hy => by unfold eqR sameV; rw [compare_eq hx hy]) (segE1_check ha hb)
theorem segE_len : (segE ys zs).length ≤ 100 := Nat.le_trans (compactF_len (eq := eqR)) (segE1_len ha hb)
theorem segE_ok : SegOk ys zs (segE ys zs) := by
  rw [segE_same ha hb]
  refine seg_of (segE1_perm ha hb) ?_
  have h := List.pairwise_mergeSort (le := fun x y : RVer => !(ltOf cfV) y x) (fun x y z h1 h2 => by
    have := swoV.ntrans z y x
    simp only [Bool.not_eq_true'] at *
    exact this h2 h1) (fun x y => by
    unfold ltOf cfV
    have n := pre_order.neg x.1 y.1
    simp only [Bool.or_eq_true, Bool.not_eq_true', decide_eq_false_iff_not]
    omega) (toR (endsOf [ys, zs].flatten))
  unfold segE1 srtV
  rw [List.pairwise_map]
  refine h.imp fun {x y} hxy => ?_
  unfold ltOf cfV at hxy
  simpa using hxy
theorem segE_early : ∀ v ∈ segE ys zs, v.e.length < 4294967281 := fun v hv => by
  have hm := ((segE_ok ha hb).mem v).1 hv
  exact early_len (ends_check ha hb v hm)
omit ha hb in
theorem toR_len : ((toR (endsOf [ys, zs].flatten)).map fun x => verD x.1).length = (segE1 ys zs).length := by
  unfold segE1 srtV; simp
theorem toR_rows : (endsOf [ys, zs].flatten).map verD = (toR (endsOf [ys, zs].flatten)).map fun x => verD x.1 := by
  have h := congrArg (List.map verD) (toR_map (flat_check ha hb))
  rw [List.map_map] at h
  exact h.symm
end
theorem srt_rows {ys zs : List Sp} : (srtV (toR (endsOf [ys, zs].flatten))).map (fun x => verD x.1) = (segE1 ys zs).map verD := by unfold segE1; rw [List.map_map]; rfl
theorem pad_take {l : List Ver} : ((padC l).map verD).take (compactF eqR l).length = (compactF eqR l).map verD := by
  unfold padC; rw [List.map_append, List.take_left' (by simp)]
theorem pad_seg {ys zs : List Sp} : ((padC (segE1 ys zs)).map verD).take (compactF eqR (segE1 ys zs)).length = (segE ys zs).map verD := pad_take
theorem add_1m {E : List Ver} (h : E.length ≤ 1000000) : V.one (.d (.int .i64 (IntKind.i64.wrap (((E.map verD).length : Int) + 1)))) = V.one (.d (.int .i64 ((E.length + 1 : Nat) : Int))) := by
  rw [List.length_map]; exact add_1 h
/-- What is in which of two ranges, piece by piece. -/
def inQ (ys zs : List Sp) (E : List Ver) (k : Nat) : List (Bool × Bool) := (List.range k).map fun j => (ys.any (pieceF E j), zs.any (pieceF E j))
def bbD (p : Bool × Bool) : List D := [.bool p.1, .bool p.2]
theorem inQ_s {ys zs : List Sp} {E : List Ver} {k : Nat} : (inQ ys zs E k).map bbD ++ [[D.bool (ys.any (pieceF E k)), D.bool (zs.any (pieceF E k))]] = (inQ ys zs E (k + 1)).map bbD := by
  unfold inQ; rw [List.range_succ]; simp [bbD]
theorem inQ_len (ys zs : List Sp) (E : List Ver) (k : Nat) : (inQ ys zs E k).length = k := by simp [inQ]
theorem inQ_at {ys zs : List Sp} {E : List Ver} {k n : Nat} (h : k < n) : (inQ ys zs E n).getD k (false, false) = (ys.any (pieceF E k), zs.any (pieceF E k)) := by
  unfold inQ; rw [List.getD_eq_getElem?_getD, List.getElem?_map, List.getElem?_range h]; rfl
theorem pc_pieceAt (X : List Ver) (k : Nat) (hX : X.length ≤ 1000000) (hv : ∀ v ∈ X, v.e.length < 4294967281) (hk : k ≤ X.length) (s : Sp) (h1 : s.f.e.length < 4294967281) (h2 : s.t.e.length < 4294967281) :
  HCall Tryz.prog J 154 ([spV s, .one (.ptr 1 0), .one (.ptr 0 0)]) ([[.d (.vec 4 (X.map verD))], [.d (.int .i64 (k : Int))]]) ([]) ([]) (isH (.one (.d (.bool (pieceF X k s)))) ([[.d (.vec 4 (X.map verD))], [.d (.int .i64 (k : Int))]]) ([]) ([])) := by
 refine HCall.ofD tOk ⟨2, 0, 0⟩ (fn := Tryz.f154) Tryz.func154 (by kernel_rfl) rfl (Nat.le_of_ble_eq_true rfl) (fun E => ?_)
 refine W.seq ?_
 refine W.region ?_
 refine S.box rfl rfl rfl rfl ?_
 refine S.pure tOk zOk rfl rfl rfl ?_
 refine thenK_n ?_
 refine W.seq ?_
 refine W.seq ?_
 refine W.region ?_
 refine S.pure tOk zOk rfl rfl rfl ?_
 refine S.pure tOk zOk rfl rfl rfl ?_
 refine thenK_n ?_
 refine W.cond rfl (fun c1 => ?_) (fun c1 => ?_)
 ·skip
  refine W.seq ?_
  refine W.region ?_
  refine S.pure tOk zOk rfl rfl rfl ?_
  refine S.pure tOk zOk rfl rfl rfl ?_
  refine S.pure tOk zOk rfl rfl rfl ?_
  refine S.pure tOk zOk rfl rfl rfl ?_
  refine thenK_n ?_
  refine W.ret ?_
  refine thenK_r ?_
  exact ⟨_, rfl, rfl, LeG.of_eq (congrArg (fun x => V.one (C.d (D.bool x))) (if_pos c1).symm), rfl, rfl, rfl⟩
 ·skip
  have hi : k - 1 < X.length := by have h := c1; simp at h; omega
  refine W.skip ?_
  refine thenK_n ?_
  refine W.seq ?_
  refine W.regionD mixed (by kernel_rfl) ?_
  refine D.pure tOk zOk rfl rfl rfl rfl ?_
  refine D.pure tOk zOk rfl rfl rfl rfl ?_
  refine D.pure tOk zOk rfl rfl rfl rfl ?_
  refine D.pureE tOk zOk rfl rfl rfl (dec_i64 c1 (by omega)) rfl ?_
  refine D.pureE tOk zOk rfl rfl (row_ok hi) (row_at Ver.z hi) rfl ?_
  refine D.pure tOk zOk rfl rfl rfl rfl ?_
  refine D.call rfl rfl rfl rfl rfl (pc_outref2_Inside s (X.getD (k - 1) Ver.z) h1 h2 (hv _ (mem_at hi))) ?_
  refine D.pure tOk zOk rfl rfl rfl rfl ?_
  refine thenK_n ?_
  refine W.ret ?_
  exact ⟨_, rfl, rfl, LeG.of_eq (congrArg (fun x => V.one (C.d (D.bool x))) (if_neg (Bool.eq_false_iff.1 c1)).symm), rfl, rfl, rfl⟩
theorem pc_piece (X : List Ver) (k : Nat) (hX : X.length ≤ 1000000) (hv : ∀ v ∈ X, v.e.length < 4294967281) (hk : k ≤ X.length) (ss : List Sp) (hl : ss.length ≤ 1000000000) (hs : ∀ s ∈ ss, SpLen s) :
  HCall Tryz.prog J 153 ([rgV ss, .one (.d (.int .i64 (k : Int))), .one (.ptr 0 0)]) ([[.d (.vec 4 (X.map verD))]]) ([]) ([]) (isH (.one (.d (.bool (ss.any (pieceF X k))))) ([[.d (.vec 4 (X.map verD))]]) ([]) ([])) := by
 refine HCall.ofD tOk ⟨1, 0, 0⟩ (fn := Tryz.f153) Tryz.func153 (by kernel_rfl) rfl (Nat.le_of_ble_eq_true rfl) (fun E => ?_)
 refine W.seq ?_
 refine W.region ?_
 refine S.box rfl rfl rfl rfl ?_
 refine S.box rfl rfl rfl rfl ?_
 refine S.pure tOk zOk rfl rfl rfl ?_
 refine thenK_n ?_
 refine W.seq ?_
 refine W.region ?_
 refine S.pure tOk zOk rfl rfl rfl ?_
 refine S.pure tOk zOk rfl rfl rfl ?_
 refine S.makeFunc rfl rfl rfl ?_
 refine S.hcallD rfl rfl rfl rfl (pc_ContainsFunc_Span 154 [.ptr 2 0, .ptr 0 0] _ _ _ (pieceF X k) ss hl (fun s hs' => (pc_pieceAt X k hX hv hk s (hs s hs').1 (hs s hs').2).frameD [0, 2] [] [] rfl rfl rfl rfl rfl rfl rfl rfl rfl)) ?_
 refine S.pure tOk zOk rfl rfl rfl ?_
 refine thenK_n ?_
 refine W.ret ?_
 exact ⟨_, rfl, rfl, LeG.refl _, rfl, rfl, rfl⟩
theorem pc_outref2_segments (ys zs : List Sp) (ha : rangeE ys = 0) (hb : rangeE zs = 0) :
  PureCall Tryz.prog J 75 [rgV ys, rgV zs] (.tup [.one (.d (.vec 4 ((segE ys zs).map verD))), .one (.d (.vec 2 ((inQ ys zs (segE ys zs) ((segE ys zs).length + 1)).map bbD)))]) := by
 have la := range_10 ha
 have lb := range_10 hb
 have hsa := range_len ha
 have hsb := range_len hb
 have hE1 := segE1_len ha hb
 have hE := segE_len ha hb
 have hEv := segE_early ha hb
 have hfl : [ys, zs].flatten.length ≤ 20 := by rw [flat2]; simp; omega
 refine PureCall.of_body tOk (fn := Tryz.f75) Tryz.func75 (by kernel_rfl) rfl (Nat.le_of_ble_eq_true rfl) (fun E => ?_)
 refine W.seq ?_
 refine W.region ?_
 refine S.box rfl rfl rfl rfl ?_
 refine S.box rfl rfl rfl rfl ?_
 refine S.alloc tOk rfl rfl rfl rfl ?_
 refine S.pure tOk zOk rfl rfl rfl ?_
 refine thenK_n ?_
 refine W.seq ?_
 refine W.seq ?_
 refine W.region ?_
 refine S.pure tOk zOk rfl rfl rfl ?_
 refine S.pure tOk zOk rfl rfl rfl ?_
 refine S.pure tOk zOk rfl rfl rfl ?_
 refine S.pure tOk zOk rfl rfl rfl ?_
 refine S.slice tOk rfl rfl ?_
 refine S.call rfl rfl rfl rfl rfl (pc_Concat_Span [ys, zs] (by simp) (by simp [sumL]; omega)) ?_
 refine S.pure tOk zOk rfl rfl rfl ?_
 refine S.pure tOk zOk rfl rfl rfl ?_
 refine thenK_n ?_
 refine W.newRowB 2 0 4 43 rfl rfl rfl ?_
 refine W.block ?_
 refine W.loop (fun k st => ∃ i : Nat, ∃ v : Nat, ∃ al : Bool, i ≤ [ys, zs].flatten.length ∧ k = [ys, zs].flatten.length - i ∧ ∃ t b2 r2 m2, st = ⟨t, [[.d (.vec 10 (ys.map spD))], [.d (.vec 10 (zs.map spD))], [.row 0 v 0 ((endsOf ([ys, zs].flatten.take i)).map verD).length]] ++ b2, [some ⟨al, v, 4, 43, ((endsOf ([ys, zs].flatten.take i)).map verD)⟩] ++ r2, [] ++ m2⟩ ∧ holdsL t [(2, .one (.ptr 0 0)), (3, .one (.ptr 1 0)), (4, .one (.ptr 2 0)), (5, .one (.d .nilsl)), (15, .one (.d (.vec 10 ([ys, zs].flatten.map spD)))), (16, .one (.d (.int .i64 (([ys, zs].flatten.map spD).length : Int)))), (17, .one (.d (.int .i64 (i : Int))))]) ([ys, zs].flatten.length) ⟨0, 0, false, Nat.zero_le _, rfl, _, _, _, _, rfl, rfl, rfl, rfl, rfl, rfl, rfl, rfl, trivial⟩ ?_
 rintro k0 _ ⟨i, v, al, f0_0, rfl, t0, bb0, rr0, mm0, rfl, hh0⟩
 refine W.keepR _ _ _ _ _ _ _ hh0 rfl ?_
 refine W.reVer (l := [(2, .one (.ptr 0 0)), (3, .one (.ptr 1 0)), (4, .one (.ptr 2 0)), (5, .one (.d .nilsl)), (15, .one (.d (.vec 10 ([ys, zs].flatten.map spD)))), (16, .one (.d (.int .i64 (([ys, zs].flatten.map spD).length : Int)))), (17, .one (.d (.int .i64 (i : Int))))]) (b := [[.d (.vec 10 (ys.map spD))], [.d (.vec 10 (zs.map spD))], [.row 0 0 0 ((endsOf ([ys, zs].flatten.take i)).map verD).length]]) 0 rfl rfl rfl rfl rfl ?_
 refine W.seq ?_
 refine W.region ?_
 refine S.pure tOk zOk rfl rfl rfl ?_
 refine thenK_n ?_
 refine W.seq ?_
 refine W.cond rfl (fun c1 => ?_) (fun c1 => ?_)
 ·skip
  have hi := row_lt c1
  have hel := endsOf_len ([ys, zs].flatten.take i)
  have htl : ([ys, zs].flatten.take i).length ≤ 20 := by rw [List.length_take]; omega
  refine W.skip ?_
  refine thenK_n ?_
  refine W.seq ?_
  refine W.block ?_
  refine W.seq ?_
  refine W.region ?_
  refine S.pureE tOk zOk rfl (row_ok hi) (row_at Sp.z hi) rfl ?_
  refine S.pure tOk zOk rfl rfl rfl ?_
  refine S.alloc tOk rfl rfl rfl rfl ?_
  refine S.store tOk rfl rfl rfl rfl rfl rfl rfl rfl ?_
  refine thenK_n ?_
  refine W.seq ?_
  refine W.seq ?_
  refine W.region ?_
  refine S.pure tOk zOk rfl rfl rfl ?_
  refine S.pure tOk zOk rfl rfl rfl ?_
  refine thenK_n ?_
  refine W.cond rfl (fun c2 => ?_) (fun c2 => ?_)
  ·skip
   refine W.region ?_
   refine S.pure tOk zOk rfl rfl rfl ?_
   refine S.pure tOk zOk rfl rfl rfl ?_
   refine S.pure tOk zOk rfl rfl rfl ?_
   refine S.slice tOk rfl rfl ?_
   refine S.append tOk rfl rfl rfl rfl rfl rfl rfl rfl rfl rfl rfl rfl (by show _ + 1 ≤ _; simp only [List.length_map, List.length_append, List.length_cons, List.length_nil]; omega) rfl (snoc_map) rfl ?_
   refine S.store tOk rfl rfl rfl rfl rfl rfl rfl rfl ?_
   refine thenK_n ?_
   refine W.seq ?_
   refine W.region ?_
   refine S.pure tOk zOk rfl rfl rfl ?_
   refine S.pure tOk zOk rfl rfl rfl ?_
   refine thenK_n ?_
   refine W.cond rfl (fun c3 => ?_) (fun c3 => ?_)
   ·skip
    refine W.region ?_
    refine S.pure tOk zOk rfl rfl rfl ?_
    refine S.pure tOk zOk rfl rfl rfl ?_
    refine S.pure tOk zOk rfl rfl rfl ?_
    refine S.slice tOk rfl rfl ?_
    refine S.append tOk rfl rfl rfl rfl rfl rfl rfl rfl rfl rfl rfl rfl (by show _ + 1 ≤ _; simp only [List.length_map, List.length_append, List.length_cons, List.length_nil]; omega) rfl (ends_tt hi c2 c3) rfl ?_
    refine S.store tOk rfl rfl rfl rfl rfl rfl rfl rfl ?_
    refine blockK_n ?_
    refine thenK_n ?_
    refine W.region ?_
    refine S.pure tOk zOk rfl rfl rfl ?_
    refine S.pure tOk zOk rfl rfl rfl ?_
    refine loop_n ([ys, zs].flatten.length - (i + 1)) (by omega) ⟨i + 1, _, _, hi, rfl, _, _, _, _, rfl, rfl, rfl, rfl, rfl, rfl, rfl, inc_i64 (by omega), trivial⟩
   ·skip
    rw [ends_tf hi c2 c3]
    refine W.skip ?_
    refine blockK_n ?_
    refine thenK_n ?_
    refine W.region ?_
    refine S.pure tOk zOk rfl rfl rfl ?_
    refine S.pure tOk zOk rfl rfl rfl ?_
    refine loop_n ([ys, zs].flatten.length - (i + 1)) (by omega) ⟨i + 1, _, _, hi, rfl, _, _, _, _, rfl, rfl, rfl, rfl, rfl, rfl, rfl, inc_i64 (by omega), trivial⟩
  ·skip
   refine W.skip ?_
   refine thenK_n ?_
   refine W.seq ?_
   refine W.region ?_
   refine S.pure tOk zOk rfl rfl rfl ?_
   refine S.pure tOk zOk rfl rfl rfl ?_
   refine thenK_n ?_
   refine W.cond rfl (fun c4 => ?_) (fun c4 => ?_)
   ·skip
    refine W.region ?_
    refine S.pure tOk zOk rfl rfl rfl ?_
    refine S.pure tOk zOk rfl rfl rfl ?_
    refine S.pure tOk zOk rfl rfl rfl ?_
    refine S.slice tOk rfl rfl ?_
    refine S.append tOk rfl rfl rfl rfl rfl rfl rfl rfl rfl rfl rfl rfl (by show _ + 1 ≤ _; simp only [List.length_map, List.length_append, List.length_cons, List.length_nil]; omega) rfl (ends_ft hi c2 c4) rfl ?_
    refine S.store tOk rfl rfl rfl rfl rfl rfl rfl rfl ?_
    refine blockK_n ?_
    refine thenK_n ?_
    refine W.region ?_
    refine S.pure tOk zOk rfl rfl rfl ?_
    refine S.pure tOk zOk rfl rfl rfl ?_
    refine loop_n ([ys, zs].flatten.length - (i + 1)) (by omega) ⟨i + 1, _, _, hi, rfl, _, _, _, _, rfl, rfl, rfl, rfl, rfl, rfl, rfl, inc_i64 (by omega), trivial⟩
   ·skip
    rw [ends_ff hi c2 c4]
    refine W.skip ?_
    refine blockK_n ?_
    refine thenK_n ?_
    refine W.region ?_
    refine S.pure tOk zOk rfl rfl rfl ?_
    refine S.pure tOk zOk rfl rfl rfl ?_
    refine loop_n ([ys, zs].flatten.length - (i + 1)) (by omega) ⟨i + 1, _, _, hi, rfl, _, _, _, _, rfl, rfl, rfl, rfl, rfl, rfl, rfl, inc_i64 (by omega), trivial⟩
 ·skip
  have hi := row_ge c1
  rw [show [ys, zs].flatten.take i = [ys, zs].flatten from List.take_of_length_le hi]
  refine W.exit ?_
  refine thenK_e ?_
  refine thenK_e ?_
  refine blockK_x ?_
  refine thenK_n ?_
  refine W.seq ?_
  rw [toR_rows ha hb]
  refine W.region ?_
  refine S.pure tOk zOk rfl rfl rfl ?_
  refine S.sortRow (toR (endsOf [ys, zs].flatten)) rfl rfl rfl sortVer rfl (fun _ => rfl) (fun _ => rfl) (by have h := congrArg List.length (toR_map (flat_check ha hb)); have h2 := flat_ends_len ha hb; rw [List.length_map] at h; omega) (congrArg (fun x => [some (RowO.mk al 0 4 43 x)]) srt_rows) ?_
  refine thenK_n ?_
  refine W.seq ?_
  rw [toR_len]
  refine W.region ?_
  refine S.pure tOk zOk rfl rfl rfl ?_
  refine S.hcallD rfl rfl rfl rfl ((pc_Compact (segE1 ys zs) al (by omega) (fun v hv => early_len (segE1_check ha hb v hv))).frameD [] [0] [] rfl rfl rfl rfl rfl rfl rfl rfl rfl) ?_
  refine S.store tOk rfl rfl rfl rfl rfl rfl rfl rfl ?_
  refine thenK_n ?_
  refine W.seq ?_
  refine W.freezeP (ri := 0) (q := ⟨_, _, _, _, _⟩) 2 0 rfl rfl rfl pad_seg rfl ?_
  refine W.newRow 5 2 132 rfl ?_
  refine W.region ?_
  refine S.makeFunc rfl rfl rfl ?_
  refine S.pure tOk zOk rfl rfl rfl ?_
  refine thenK_n ?_
  refine W.seq ?_
  refine W.seq ?_
  refine W.region ?_
  refine S.pure tOk zOk rfl rfl rfl ?_
  refine S.pure tOk zOk rfl rfl rfl ?_
  refine S.pureE tOk zOk rfl rfl (add_1m (by omega)) rfl ?_
  refine S.pure tOk zOk rfl rfl rfl ?_
  refine thenK_n ?_
  refine W.block ?_
  refine W.loop (fun k st => ∃ k1 : Nat, ∃ v2 : Nat, ∃ al2 : Bool, k1 ≤ (segE ys zs).length + 1 ∧ k = (segE ys zs).length + 1 - k1 ∧ ∃ t b2 r2 m2, st = ⟨t, [[.d (.vec 10 (ys.map spD))], [.d (.vec 10 (zs.map spD))], [.d (.vec 4 ((segE ys zs).map verD))]] ++ b2, [none, some ⟨al2, v2, 2, 132, ((inQ ys zs (segE ys zs) k1).map bbD)⟩] ++ r2, [] ++ m2⟩ ∧ holdsL t [(2, .one (.ptr 0 0)), (3, .one (.ptr 1 0)), (4, .one (.ptr 2 0)), (5, .one (.row 1 v2 0 ((inQ ys zs (segE ys zs) k1).map bbD).length)), (8, .one (.clo 153 [.ptr 2 0])), (43, .one (.d (.int .i64 (((segE ys zs).length + 1 : Nat) : Int)))), (44, .one (.d (.int .i64 (k1 : Int))))]) ((segE ys zs).length + 1) ⟨0, 0, false, Nat.zero_le _, rfl, _, _, _, _, rfl, rfl, rfl, rfl, rfl, rfl, rfl, rfl, trivial⟩ ?_
  rintro k2 _ ⟨k1, v2, al2, f2_0, rfl, t2, bb2, rr2, mm2, rfl, hh2⟩
  refine W.keepR _ _ _ _ _ _ _ hh2 rfl ?_
  refine W.seq ?_
  refine W.region ?_
  refine S.pure tOk zOk rfl rfl rfl ?_
  refine thenK_n ?_
  refine W.seq ?_
  refine W.cond rfl (fun c5 => ?_) (fun c5 => ?_)
  ·skip
   have hk1 : k1 < (segE ys zs).length + 1 := by simp at c5; omega
   refine W.skip ?_
   refine thenK_n ?_
   refine W.seq ?_
   refine W.block ?_
   refine W.seq ?_
   refine W.region ?_
   refine S.pure tOk zOk rfl rfl rfl ?_
   refine S.pure tOk zOk rfl rfl rfl ?_
   refine thenK_n ?_
   refine W.regionC 11 mixed rfl (by kernel_rfl) ?_
   refine D.pure tOk zOk rfl rfl rfl rfl ?_
   refine D.pure tOk zOk rfl rfl rfl rfl ?_
   refine D.pure tOk zOk rfl rfl rfl rfl ?_
   refine D.pure tOk zOk rfl rfl rfl rfl ?_
   refine D.hcallD rfl rfl rfl rfl ((pc_piece (segE ys zs) k1 (by omega) hEv (by omega) ys (by omega) hsa).frameD [2] [] [] rfl rfl rfl rfl rfl rfl rfl rfl rfl) ?_
   refine D.pure tOk zOk rfl rfl rfl rfl ?_
   refine D.pure tOk zOk rfl rfl rfl rfl ?_
   refine D.pure tOk zOk rfl rfl rfl rfl ?_
   refine D.hcallD rfl rfl rfl rfl ((pc_piece (segE ys zs) k1 (by omega) hEv (by omega) zs (by omega) hsb).frameD [2] [] [] rfl rfl rfl rfl rfl rfl rfl rfl rfl) ?_
   refine D.pure tOk zOk rfl rfl rfl rfl ?_
   refine D.slice tOk rfl rfl ?_
   refine WD.nil ?_
   refine S.append tOk rfl rfl rfl rfl rfl rfl rfl rfl rfl rfl rfl rfl (by show _ + 1 ≤ _; rw [List.length_map, inQ_len]; omega) rfl (inQ_s) rfl ?_
   refine S.pure tOk zOk rfl rfl rfl ?_
   refine blockK_n ?_
   refine thenK_n ?_
   refine W.region ?_
   refine S.pure tOk zOk rfl rfl rfl ?_
   refine S.pure tOk zOk rfl rfl rfl ?_
   refine loop_n ((segE ys zs).length + 1 - (k1 + 1)) (by omega) ⟨k1 + 1, _, _, hk1, rfl, _, _, _, _, rfl, rfl, rfl, rfl, rfl, rfl, rfl, inc_i64 (by omega), trivial⟩
  ·skip
   obtain rfl : k1 = (segE ys zs).length + 1 := by simp at c5; omega
   refine W.exit ?_
   refine thenK_e ?_
   refine thenK_e ?_
   refine blockK_x ?_
   refine thenK_n ?_
   refine W.seq ?_
   refine W.freeze (ri := 1) (q := ⟨_, _, _, _, _⟩) [5] rfl (by intro k hk; simp at hk; subst hk; rfl) ?_
   refine W.region ?_
   refine S.pure tOk zOk rfl rfl rfl ?_
   refine S.pure tOk zOk rfl rfl rfl ?_
   refine S.store tOk rfl rfl rfl rfl rfl rfl rfl rfl ?_
   refine S.pure tOk zOk rfl rfl rfl ?_
   refine thenK_n ?_
   refine W.ret ?_
   exact ⟨_, rfl, rfl, LeV.refl _⟩
end Go.Proofs.YtnphejkeflngcaaGreatDoor

/- Two arrays of two bools compared. -/
set_option linter.unusedVariables false
set_option linter.unusedSimpArgs false
namespace Go.Proofs.YtnphejkeflngcaaGreatDoor
open Go Go.RowKit
section
variable {J : Inv} {k0 : Lens} {E : Env J k0} {P : Program} {T : TypeId → Option TI} {n : Nat} {t : Nat → V} {b : List (List C)} {r : List (Option RowO)} {m : List (List (DV × DV))} {ops : Array Oper} {l : List Oper}
  {K : St → Prop} {i : Nat} {ty : TypeId} {pos : String} {after : Array Edge}
theorem run_equalIn_bb {w : World} {d : Nat} {te e : TypeId} {ei : TI} (hT : TabOk P T) (ht : P.underlying te = some (.array 2 e)) (hei : T e = some ei) (hed : ei.desc = .bool) (hes : ei.size = 1) (a0 a1 b0 b1 : Bool) :
    (Op.equalIn (d + 2) te (.agg #[.bool a0, .bool a1]) (.agg #[.bool b0, .bool b1])).run P w = .ok (a0 == b0 && a1 == b1) w := by
  have he := (hT e ei hei).1
  rw [hed] at he
  have hs := run_sizeOf' (P := P) (w := w) hT hei
  rw [hes] at hs
  have hp : ∀ (xs : Array Value) (q : Nat) (v : Value), xs[q]? = some v → (part e xs q).run P w = .ok v w := fun xs q v h => by
    unfold part
    simp only [Sem.run_bind, run_isAgg' hT hei, Result.andThen_ok, hed, isAggD, Bool.false_eq_true, if_false, h, Sem.run_pure]
  have hb : ∀ (x y : Bool), (Op.equalIn (d + 1) e (.bool x) (.bool y)).run P w = .ok (x == y) w := fun x y => run_equalIn_bool w d e _ _ he
  rw [show d + 2 = (d + 1) + 1 from rfl]
  unfold Op.equalIn
  simp only [Sem.run_bind, run_underlying ht, Result.andThen_ok, hs]
  simp only [Std.Legacy.Range.forIn_eq_forIn_range', Std.Legacy.Range.size, Nat.sub_zero, Nat.add_sub_cancel, Nat.div_one, List.range', List.forIn_cons, List.forIn_nil, Sem.run_bind, Sem.run_pure, Nat.zero_mul, Nat.one_mul, Nat.zero_add, hp #[.bool a0, .bool a1] 0 (.bool a0) rfl, hp #[.bool a0, .bool a1] 1 (.bool a1) rfl,
    hp #[.bool b0, .bool b1] 0 (.bool b0) rfl, hp #[.bool b0, .bool b1] 1 (.bool b1) rfl, hb, Result.andThen_ok]
  cases hq0 : (a0 == b0) <;> cases hq1 : (a1 == b1) <;> simp [hp #[.bool a0, .bool a1] 1 (.bool a1) rfl, hp #[.bool b0, .bool b1] 1 (.bool b1) rfl, hb, hq0, hq1]
theorem pv_eqBB (hT : TabOk P T) {s : St} {o : Oper} {te t2 e : TypeId} {ti ei : TI} {x y : Operand} {a0 a1 b0 b1 : Bool} (hop : o.op = .binOp .eql te x y t2) (hti : T te = some ti) (hd : ti.desc = .array 2 e) (hpl : P.eqGuardType P.depth te = false) (hei : T e = some ei) (hed : ei.desc = .bool) (hes : ei.size = 1)
    (hx : opd n s x = (true, .agg [.d (.bool a0), .d (.bool a1)])) (hy : opd n s y = (true, .agg [.d (.bool b0), .d (.bool b1)])) : Pv E P n o (.one (.d (.bool (a0 == b0 && a1 == b1)))) s := by
  intro g a w rel
  have h1 := opd_ok rel hx rfl
  have h2 := opd_ok rel hy rfl
  have ht := (hT te ti hti).1
  rw [hd] at ht
  have two : ∀ (z : Value) (p q : Bool), RV g s.sh w (.agg [.d (.bool p), .d (.bool q)]) z → z = .agg #[.bool p, .bool q] := fun z p q hz => by
    cases hz with | agg _ vs hl hc =>
    match vs, hl with
    | [u, v], _ =>
      have e1 := hc 0 _ u rfl rfl
      have e2 := hc 1 _ v rfl rfl
      cases e1 with | d _ _ e1 => cases e1 with | bool =>
      cases e2 with | d _ _ e2 => cases e2 with | bool => rfl
  have e1 := two _ _ _ h1
  have e2 := two _ _ _ h2
  refine ⟨.bool (a0 == b0 && a1 == b1), ?_, .one _ _ (.d _ _ (.bool _))⟩
  simp only [execOp, hop, e1, e2, Sem.run_bind, run_eqGuard_agg (P := P) w _ te x y _ _ hpl, Result.andThen_ok, Go.binOp, show (Op.equal te (.agg #[.bool a0, .bool a1]) (.agg #[.bool b0, .bool b1])).run P w = .ok (a0 == b0 && a1 == b1) w from run_equalIn_bb (d := 9998) hT ht hei hed hes a0 a1 b0 b1, Sem.run_pure]
theorem D.eqBB (hT : TabOk P T) {te t2 e : TypeId} {ti ei : TI} {x y : Operand} {a0 a1 b0 b1 : Bool} (hti : T te = some ti) (hd : ti.desc = .array 2 e) (hpl : P.eqGuardType P.depth te = false) (hei : T e = some ei) (hed : ei.desc = .bool) (hes : ei.size = 1)
    (hx : opd n ⟨t, b, r, m⟩ x = (true, .agg [.d (.bool a0), .d (.bool a1)])) (hy : opd n ⟨t, b, r, m⟩ y = (true, .agg [.d (.bool b0), .d (.bool b1)]))
    (k : WD E P n ops l K ⟨upd t i (.one (.d (.bool (a0 == b0 && a1 == b1)))), b, r, m⟩) : WD E P n ops (⟨some i, .binOp .eql te x y t2, ty, pos, after, none⟩ :: l) K ⟨t, b, r, m⟩ := by
  obtain ⟨o, ho⟩ : ∃ o : Oper, o = ⟨some i, .binOp .eql te x y t2, ty, pos, after, none⟩ := ⟨_, rfl⟩
  rw [← ho]
  have hop : o.op = .binOp .eql te x y t2 := by rw [ho]
  have m1 : x ∈ o.op.operands.toList := by rw [hop]; simp [Op.operands]
  have m2 : y ∈ o.op.operands.toList := by rw [hop]; simp [Op.operands]
  refine ⟨_, b, .of (.inl (by rw [hop]; rfl)) (fun t' b1 ht hb => .of_run (by rw [ho]) (.of_pv (pv_eqBB hT hop hti hd hpl hei hed hes ?_ ?_))), by rw [ho]; exact k⟩
  · rw [looks_opd (b := b) m1 ht]; exact hx
  · rw [looks_opd (b := b) m2 ht]; exact hy
end
end Go.Proofs.YtnphejkeflngcaaGreatDoor

set_option linter.unusedVariables false
set_option linter.unusedSimpArgs false
set_option maxRecDepth 100000
set_option maxHeartbeats 4000000
namespace Go.Proofs.YtnphejkeflngcaaGreatDoor
open Go
open Go.RowKit
attribute [local irreducible] rangeE orderB compareR Lib.split segE
theorem bb_at {l : List (Bool × Bool)} {i : Nat} (h : i < l.length) : V.one (.eptr ((l.map bbD).getD ((i : Int)).toNat [])) = V.one (.eptr [.bool (l.getD i (false, false)).1, .bool (l.getD i (false, false)).2]) := row_at (f := bbD) (false, false) h
theorem pc_Index_bb (l : List (Bool × Bool)) (x y : Bool) (hl : l.length ≤ 1000000000) :
  PureCall Tryz.prog J 155 [.one (.d (.vec 2 (l.map bbD))), .agg [.d (.bool x), .d (.bool y)]] (.one (.d (.int .i64 (idxOf (fun p : Bool × Bool => x == p.1 && y == p.2) l)))) := by
 refine PureCall.of_body tOk (fn := Tryz.f155) Tryz.func155 (by kernel_rfl) rfl (Nat.le_of_ble_eq_true rfl) (fun E => ?_)
 refine W.seq ?_
 refine W.region ?_
 refine S.box rfl rfl rfl rfl ?_
 refine S.pure tOk zOk rfl rfl rfl ?_
 refine thenK_n ?_
 refine W.seq ?_
 refine W.seq ?_
 refine W.region ?_
 refine S.pure tOk zOk rfl rfl rfl ?_
 refine S.pure tOk zOk rfl rfl rfl ?_
 refine S.pure tOk zOk rfl rfl rfl ?_
 refine thenK_n ?_
 refine W.block ?_
 refine W.loop (fun k st => ∃ i : Nat, i ≤ l.length ∧ (l.take i).any (fun p : Bool × Bool => x == p.1 && y == p.2) = false ∧ k = l.length - i ∧ ∃ t b2 r2 m2, st = ⟨t, [[.d (.bool x), .d (.bool y)]] ++ b2, [] ++ r2, [] ++ m2⟩ ∧ holdsL t [(0, .one (.d (.vec 2 (l.map bbD)))), (3, .one (.ptr 0 0)), (7, .one (.d (.int .i64 ((l.map bbD).length : Int)))), (8, .one (.d (.int .i64 (i : Int))))]) (l.length) ⟨0, Nat.zero_le _, by simp, rfl, _, _, _, _, rfl, rfl, rfl, rfl, rfl, trivial⟩ ?_
 rintro k0 _ ⟨i, f0_0, f0_1, rfl, t0, bb0, rr0, mm0, rfl, hh0⟩
 refine W.keepR _ _ _ _ _ _ _ hh0 rfl ?_
 refine W.seq ?_
 refine W.region ?_
 refine S.pure tOk zOk rfl rfl rfl ?_
 refine thenK_n ?_
 refine W.seq ?_
 refine W.cond rfl (fun c1 => ?_) (fun c1 => ?_)
 ·skip
  have hi := row_lt c1
  refine W.skip ?_
  refine thenK_n ?_
  refine W.seq ?_
  refine W.block ?_
  refine W.seq ?_
  refine W.region ?_
  refine S.pure tOk zOk rfl rfl rfl ?_
  refine S.pure tOk zOk rfl rfl rfl ?_
  refine thenK_n ?_
  refine W.seq ?_
  refine W.regionD mixed (by kernel_rfl) ?_
  refine D.pure tOk zOk rfl rfl rfl rfl ?_
  refine D.pure tOk zOk rfl rfl rfl rfl ?_
  refine D.pure tOk zOk rfl rfl rfl rfl ?_
  refine D.pureE tOk zOk rfl rfl (row_ok hi) (bb_at hi) rfl ?_
  refine D.pure tOk zOk rfl rfl rfl rfl ?_
  refine D.eqBB tOk rfl rfl (by kernel_rfl) rfl rfl rfl rfl rfl ?_
  refine thenK_n ?_
  refine W.cond rfl (fun c2 => ?_) (fun c2 => ?_)
  ·skip
   refine W.seq ?_
   refine W.region ?_
   refine S.pure tOk zOk rfl rfl rfl ?_
   refine S.pure tOk zOk rfl rfl rfl ?_
   refine thenK_n ?_
   refine W.ret ?_
   refine blockK_r ?_
   refine thenK_r ?_
   refine thenK_r ?_
   refine blockK_r ?_
   refine thenK_r ?_
   exact ⟨_, rfl, rfl, LeV.of_eq (congrArg (fun x => V.one (C.d (D.int .i64 x))) (idxOf_at (d := (false, false)) hi f0_1 c2).symm)⟩
  ·skip
   refine W.skip ?_
   refine blockK_n ?_
   refine thenK_n ?_
   refine W.region ?_
   refine S.pure tOk zOk rfl rfl rfl ?_
   refine S.pure tOk zOk rfl rfl rfl ?_
   refine loop_n (l.length - (i + 1)) (by omega) ⟨i + 1, hi, any_take (d := (false, false)) hi f0_1 c2, rfl, _, _, _, _, rfl, rfl, rfl, rfl, inc_i64 (by omega), trivial⟩
 ·skip
  have hi := row_ge c1
  refine W.exit ?_
  refine thenK_e ?_
  refine thenK_e ?_
  refine blockK_x ?_
  refine thenK_n ?_
  refine W.seq ?_
  refine W.region ?_
  refine S.pure tOk zOk rfl rfl rfl ?_
  refine thenK_n ?_
  refine W.ret ?_
  exact ⟨_, rfl, rfl, LeV.of_eq (congrArg (fun x => V.one (C.d (D.int .i64 x))) (idxOf_none (any_end hi f0_1)).symm)⟩
theorem pc_Contains_bb (l : List (Bool × Bool)) (x y : Bool) (hl : l.length ≤ 1000000000) :
  PureCall Tryz.prog J 76 [.one (.d (.vec 2 (l.map bbD))), .agg [.d (.bool x), .d (.bool y)]] (.one (.d (.bool (l.any (fun p : Bool × Bool => x == p.1 && y == p.2))))) := by
 refine PureCall.of_body tOk (fn := Tryz.f76) Tryz.func76 (by kernel_rfl) rfl (Nat.le_of_ble_eq_true rfl) (fun E => ?_)
 refine W.seq ?_
 refine W.region ?_
 refine S.box rfl rfl rfl rfl ?_
 refine S.pure tOk zOk rfl rfl rfl ?_
 refine thenK_n ?_
 refine W.seq ?_
 refine W.region ?_
 refine S.pure tOk zOk rfl rfl rfl ?_
 refine S.pure tOk zOk rfl rfl rfl ?_
 refine S.call rfl rfl rfl rfl rfl (pc_Index_bb l x y hl) ?_
 refine S.pure tOk zOk rfl rfl rfl ?_
 refine S.pure tOk zOk rfl rfl rfl ?_
 refine thenK_n ?_
 refine W.ret ?_
 exact ⟨_, rfl, rfl, LeV.of_eq (congrArg (fun x => V.one (C.d (D.bool x))) idxOf_ge)⟩
theorem pc_outref2_WithinOf (ys zs : List Sp) (ha : rangeE ys = 0) (hb : rangeE zs = 0) :
  PureCall Tryz.prog J 26 [rgV ys, rgV zs] (.one (.d (.bool (!((inQ ys zs (segE ys zs) ((segE ys zs).length + 1)).any (fun p : Bool × Bool => true == p.1 && false == p.2)))))) := by
 have hE := segE_len ha hb
 refine PureCall.of_body tOk (fn := Tryz.f26) Tryz.func26 (by kernel_rfl) rfl (Nat.le_of_ble_eq_true rfl) (fun E => ?_)
 refine W.seq ?_
 refine W.region ?_
 refine S.box rfl rfl rfl rfl ?_
 refine S.box rfl rfl rfl rfl ?_
 refine S.pure tOk zOk rfl rfl rfl ?_
 refine thenK_n ?_
 refine W.seq ?_
 refine W.region ?_
 refine S.pure tOk zOk rfl rfl rfl ?_
 refine S.pure tOk zOk rfl rfl rfl ?_
 refine S.call rfl rfl rfl rfl rfl (pc_outref2_segments ys zs ha hb) ?_
 refine S.pure tOk zOk rfl rfl rfl ?_
 refine S.pure tOk zOk rfl rfl rfl ?_
 refine S.pure tOk zOk rfl rfl rfl ?_
 refine S.pure tOk zOk rfl rfl rfl ?_
 refine S.pure tOk zOk rfl rfl rfl ?_
 refine thenK_n ?_
 refine W.seq ?_
 refine W.region ?_
 refine S.pure tOk zOk rfl rfl rfl ?_
 refine S.pure tOk zOk rfl rfl rfl ?_
 refine S.call rfl rfl rfl rfl rfl (pc_Contains_bb (inQ ys zs (segE ys zs) ((segE ys zs).length + 1)) true false (by rw [inQ_len]; omega)) ?_
 refine S.pure tOk zOk rfl rfl rfl ?_
 refine S.pure tOk zOk rfl rfl rfl ?_
 refine thenK_n ?_
 refine W.ret ?_
 exact ⟨_, rfl, rfl, LeV.refl _⟩
def bothF (ys zs : List Sp) (E : List Ver) (k : Nat) : Bool := ys.any (pieceF E k) && zs.any (pieceF E k)
theorem bothF_eq {ys zs : List Sp} {E : List Ver} : bothF ys zs E = bothR ys zs E := by
  funext k; unfold bothF bothR; rw [pieceF_any, pieceF_any]
theorem com_len (E : List Ver) (F : Nat → Bool) : ∀ k, (comTo E F k).2.length ≤ k
  | 0 => Nat.le_refl _
  | k + 1 => by
    have ih := com_len E F k
    show (comStep E F (comTo E F k) k).2.length ≤ _
    unfold comStep
    simp only
    split
    · simp; omega
    · split
      · rw [closeL_len]; omega
      · omega
theorem com_some (E : List Ver) (F : Nat → Bool) : ∀ k, (comTo E F k).1 = true → ∃ r s, (comTo E F k).2 = r ++ [s] ∧ 1 ≤ k
  | 0, h => by cases h
  | k + 1, h => by
    have ih := com_some E F k
    have h : F k = true := h
    show ∃ r s, (comStep E F (comTo E F k) k).2 = r ++ [s] ∧ _
    unfold comStep
    simp only
    cases ho : (comTo E F k).1 with
    | false => rw [h]; exact ⟨_, _, rfl, by omega⟩
    | true =>
      obtain ⟨r, s, h1, _⟩ := ih ho
      rw [h]; exact ⟨r, s, by simpa using h1, by omega⟩
section
variable {E : List Ver} {F : Nat → Bool} {k : Nat}
theorem com_1 (c : (F k && !(comTo E F k).1) = true) : (comTo E F (k + 1)).2 = (comTo E F k).2 ++ [firstS E k] := by
  show (if F k && !(comTo E F k).1 then _ else _) = _
  rw [if_pos c]
theorem com_2 (c : (F k && !(comTo E F k).1) = false) (c2 : (!F k && (comTo E F k).1) = true) : (comTo E F (k + 1)).2 = closeL (E.getD (k - 1) Ver.z) (comTo E F k).2 := by
  show (if F k && !(comTo E F k).1 then _ else if !F k && (comTo E F k).1 then _ else _) = _
  rw [if_neg (by rw [c]; simp), if_pos c2]
theorem com_3 (c : (F k && !(comTo E F k).1) = false) (c2 : (!F k && (comTo E F k).1) = false) : (comTo E F k).2 = (comTo E F (k + 1)).2 := by
  show _ = (if F k && !(comTo E F k).1 then _ else if !F k && (comTo E F k).1 then _ else _)
  rw [if_neg (by rw [c]; simp), if_neg (by rw [c2]; simp)]
theorem com_no (c : (F k && !(comTo E F k).1) = true) : ¬ (!F k && (comTo E F k).1) = true := by
  intro h
  simp only [Bool.and_eq_true, Bool.not_eq_true'] at c h
  rw [c.1] at h
  exact absurd h.1 (by simp)
theorem com_a (c : (F k && !(comTo E F k).1) = true) (h : decide ((k : Int) > 0) = true) : (comTo E F k).2.map spD ++ [spD ⟨true, false, E.getD (k - 1) Ver.z, Ver.z⟩] = (comTo E F (k + 1)).2.map spD := by
  rw [com_1 c]
  unfold firstS
  rw [if_neg (by simp at h; omega)]; simp
theorem com_b (c : (F k && !(comTo E F k).1) = true) (h : decide ((k : Int) > 0) = false) : (comTo E F k).2.map spD ++ [spD Sp.z] = (comTo E F (k + 1)).2.map spD := by
  rw [com_1 c]
  unfold firstS
  rw [if_pos (by simp at h; omega)]; simp
theorem com_open (c2 : (!F k && (comTo E F k).1) = true) : ∃ r s, (comTo E F k).2 = r ++ [s] ∧ 1 ≤ k := com_some E F k (by simp at c2; exact c2.2)
end
theorem lastS_ok {l : List Sp} {x : Sp} : (decide (0 ≤ (((l ++ [x]).length - 1 : Nat) : Int)) && decide ((((l ++ [x]).length - 1 : Nat) : Int) < ((((l ++ [x]).map spD).length : Nat) : Int))) = true := by simp; omega
theorem dec_len {l : List Sp} (h : l.length ≤ 1000000) (h0 : l ≠ []) : V.one (.d (.int .i64 (IntKind.i64.wrap (((l.map spD).length : Int) - 1)))) = V.one (.d (.int .i64 ((l.length - 1 : Nat) : Int))) := by
  have : 1 ≤ l.length := by cases l with | nil => exact absurd rfl h0 | cons x l => simp
  rw [List.length_map, wrap_i64 (by omega) (by omega), show ((l.length : Int) - 1) = ((l.length - 1 : Nat) : Int) by omega]
theorem last_set1 {l : List Sp} {s : Sp} : ((l ++ [s]).map spD).set (0 + (((l ++ [s]).length - 1 : Nat) : Int).toNat) (putD (((l ++ [s]).map spD).getD (0 + (((l ++ [s]).length - 1 : Nat) : Int).toNat) []) (0 + 1) [.bool true]) = (l ++ [(⟨s.hf, true, s.f, s.t⟩ : Sp)]).map spD := by
  rw [Nat.zero_add, Int.toNat_natCast]
  have e : (l ++ [s]).length - 1 = (l.map spD).length := by simp
  rw [e, List.map_append, List.map_append]
  rw [List.set_append_right _ _ (Nat.le_refl _), Nat.sub_self, List.getD_eq_getElem?_getD, List.getElem?_append_right (Nat.le_refl _), Nat.sub_self]
  rfl
theorem last_set2 {l : List Sp} {s u : Sp} {v : Ver} : ((l ++ [s]).map spD).set (0 + (((l ++ [u]).length - 1 : Nat) : Int).toNat) (putD (((l ++ [s]).map spD).getD (0 + (((l ++ [u]).length - 1 : Nat) : Int).toNat) []) (0 + 6) (verD v)) = (l ++ [(⟨s.hf, s.ht, s.f, v⟩ : Sp)]).map spD := by
  rw [Nat.zero_add, Int.toNat_natCast]
  have e : (l ++ [u]).length - 1 = (l.map spD).length := by simp
  rw [e, List.map_append, List.map_append]
  rw [List.set_append_right _ _ (Nat.le_refl _), Nat.sub_self, List.getD_eq_getElem?_getD, List.getElem?_append_right (Nat.le_refl _), Nat.sub_self]
  rfl
theorem pc_outref2_CommonOf (ys zs : List Sp) (ha : rangeE ys = 0) (hb : rangeE zs = 0) :
  PureCall Tryz.prog J 25 [rgV ys, rgV zs] (.agg [.d (.vec 10 ((comTo (segE ys zs) (bothF ys zs (segE ys zs)) ((segE ys zs).length + 1)).2.map spD))]) := by
 have hE := segE_len ha hb
 have hcl := fun k => com_len (segE ys zs) (bothF ys zs (segE ys zs)) k
 refine PureCall.of_body tOk (fn := Tryz.f25) Tryz.func25 (by kernel_rfl) rfl (Nat.le_of_ble_eq_true rfl) (fun E => ?_)
 refine W.seq ?_
 refine W.region ?_
 refine S.box rfl rfl rfl rfl ?_
 refine S.box rfl rfl rfl rfl ?_
 refine S.alloc tOk rfl rfl rfl rfl ?_
 refine thenK_n ?_
 refine W.seq ?_
 refine W.region ?_
 refine S.pure tOk zOk rfl rfl rfl ?_
 refine S.pure tOk zOk rfl rfl rfl ?_
 refine S.call rfl rfl rfl rfl rfl (pc_outref2_segments ys zs ha hb) ?_
 refine S.pure tOk zOk rfl rfl rfl ?_
 refine S.pure tOk zOk rfl rfl rfl ?_
 refine S.pure tOk zOk rfl rfl rfl ?_
 refine S.pure tOk zOk rfl rfl rfl ?_
 refine S.pure tOk zOk rfl rfl rfl ?_
 refine thenK_n ?_
 refine W.seq ?_
 refine W.region ?_
 refine S.alloc tOk rfl rfl rfl rfl ?_
 refine thenK_n ?_
 refine W.seq ?_
 refine W.region ?_
 refine S.pure tOk zOk rfl rfl rfl ?_
 refine thenK_n ?_
 refine W.seq ?_
 refine W.seq ?_
 refine W.newRowB 3 0 10 81 rfl rfl rfl ?_
 refine W.region ?_
 refine S.pure tOk zOk rfl rfl rfl ?_
 refine S.pure tOk zOk rfl rfl rfl ?_
 refine S.pure tOk zOk rfl rfl rfl ?_
 refine thenK_n ?_
 refine W.block ?_
 refine W.loop (fun k st => ∃ k1 : Nat, ∃ v : Nat, ∃ al : Bool, k1 ≤ (segE ys zs).length + 1 ∧ k = (segE ys zs).length + 1 - k1 ∧ ∃ t b2 r2 m2, st = ⟨t, [[.d (.vec 10 (ys.map spD))], [.d (.vec 10 (zs.map spD))], [.d .nilsl], [.row 0 v 0 ((comTo (segE ys zs) (bothF ys zs (segE ys zs)) k1).2.map spD).length]] ++ b2, [some ⟨al, v, 10, 81, ((comTo (segE ys zs) (bothF ys zs (segE ys zs)) k1).2.map spD)⟩] ++ r2, [] ++ m2⟩ ∧ holdsL t [(2, .one (.ptr 0 0)), (3, .one (.ptr 1 0)), (4, .one (.ptr 2 0)), (5, .one (.d (.vec 4 ((segE ys zs).map verD)))), (7, .one (.ptr 3 0)), (8, .one (.d (.bool (comTo (segE ys zs) (bothF ys zs (segE ys zs)) k1).1))), (20, .one (.d (.vec 2 ((inQ ys zs (segE ys zs) ((segE ys zs).length + 1)).map bbD)))), (21, .one (.d (.int .i64 (((inQ ys zs (segE ys zs) ((segE ys zs).length + 1)).map bbD).length : Int)))), (22, .one (.d (.int .i64 (k1 : Int))))]) ((segE ys zs).length + 1) ⟨0, 0, false, Nat.zero_le _, rfl, _, _, _, _, rfl, rfl, rfl, rfl, rfl, rfl, rfl, rfl, rfl, rfl, trivial⟩ ?_
 rintro k0 _ ⟨k1, v, al, f0_0, rfl, t0, bb0, rr0, mm0, rfl, hh0⟩
 refine W.keepR _ _ _ _ _ _ _ hh0 rfl ?_
 refine W.reVer (l := [(2, .one (.ptr 0 0)), (3, .one (.ptr 1 0)), (4, .one (.ptr 2 0)), (5, .one (.d (.vec 4 ((segE ys zs).map verD)))), (7, .one (.ptr 3 0)), (8, .one (.d (.bool (comTo (segE ys zs) (bothF ys zs (segE ys zs)) k1).1))), (20, .one (.d (.vec 2 ((inQ ys zs (segE ys zs) ((segE ys zs).length + 1)).map bbD)))), (21, .one (.d (.int .i64 (((inQ ys zs (segE ys zs) ((segE ys zs).length + 1)).map bbD).length : Int)))), (22, .one (.d (.int .i64 (k1 : Int))))]) (b := [[.d (.vec 10 (ys.map spD))], [.d (.vec 10 (zs.map spD))], [.d .nilsl], [.row 0 0 0 ((comTo (segE ys zs) (bothF ys zs (segE ys zs)) k1).2.map spD).length]]) 0 rfl rfl rfl rfl rfl ?_
 refine W.seq ?_
 refine W.region ?_
 refine S.pure tOk zOk rfl rfl rfl ?_
 refine thenK_n ?_
 refine W.seq ?_
 refine W.cond rfl (fun c1 => ?_) (fun c1 => ?_)
 ·skip
  have hk : k1 < (segE ys zs).length + 1 := by have h := row_lt c1; rw [inQ_len] at h; exact h
  have hck := hcl k1
  refine W.skip ?_
  refine thenK_n ?_
  refine W.seq ?_
  refine W.block ?_
  refine W.seq ?_
  refine W.region ?_
  refine S.pure tOk zOk rfl rfl rfl ?_
  refine S.pureE tOk zOk rfl (row_ok (by rw [inQ_len]; exact hk)) ((bb_at (by rw [inQ_len]; exact hk)).trans (by rw [inQ_at hk])) rfl ?_
  refine S.pure tOk zOk rfl rfl rfl ?_
  refine S.alloc tOk rfl rfl rfl rfl ?_
  refine S.pure tOk zOk rfl rfl rfl ?_
  refine S.store tOk rfl rfl rfl rfl rfl rfl rfl rfl ?_
  refine thenK_n ?_
  refine W.seq ?_
  refine W.region ?_
  refine S.pure tOk zOk rfl (by first | rfl | exact idx_ok (by omega) (by omega)) rfl ?_
  refine S.pure tOk zOk rfl rfl rfl ?_
  refine S.pure tOk zOk rfl rfl rfl ?_
  refine S.pureG tOk zOk rfl rfl (by repeat first | exact allT_nil | refine allT_cons (fun h => h) ?_ | refine allT_cons (fun h => andl h) ?_ | refine allT_cons (fun h => andl (andl h)) ?_ | refine allT_cons (fun _ => rfl) ?_) (fun _ => by first | rfl | exact idx_ok (by omega) (by omega)) rfl ?_
  refine S.pureG tOk zOk rfl rfl (by repeat first | exact allT_nil | refine allT_cons (fun h => h) ?_ | refine allT_cons (fun h => andl h) ?_ | refine allT_cons (fun h => andl (andl h)) ?_ | refine allT_cons (fun _ => rfl) ?_) (fun _ => rfl) rfl ?_
  refine S.pickAnd tOk zOk rfl rfl (by repeat first | exact allT_nil | refine allT_cons (fun h => h) ?_ | refine allT_cons (fun h => andl h) ?_ | refine allT_cons (fun h => andl (andl h)) ?_ | refine allT_cons (fun _ => rfl) ?_) ?_
  refine S.pure tOk zOk rfl rfl rfl ?_
  refine thenK_n ?_
  refine W.seq ?_
  refine W.seq ?_
  refine W.region ?_
  refine S.pure tOk zOk rfl rfl rfl ?_
  refine S.pure tOk zOk rfl rfl rfl ?_
  refine S.pureG tOk zOk rfl rfl (by repeat first | exact allT_nil | refine allT_cons (fun h => h) ?_ | refine allT_cons (fun h => andl h) ?_ | refine allT_cons (fun h => andl (andl h)) ?_ | refine allT_cons (fun _ => rfl) ?_) (fun _ => rfl) rfl ?_
  refine S.pureG tOk zOk rfl rfl (by repeat first | exact allT_nil | refine allT_cons (fun h => h) ?_ | refine allT_cons (fun h => andl h) ?_ | refine allT_cons (fun h => andl (andl h)) ?_ | refine allT_cons (fun _ => rfl) ?_) (fun _ => rfl) rfl ?_
  refine S.pickAnd tOk zOk rfl rfl (by repeat first | exact allT_nil | refine allT_cons (fun h => h) ?_ | refine allT_cons (fun h => andl h) ?_ | refine allT_cons (fun h => andl (andl h)) ?_ | refine allT_cons (fun _ => rfl) ?_) ?_
  refine thenK_n ?_
  refine W.cond rfl (fun c2 => ?_) (fun c2 => ?_)
  ·skip
   have c2 : ((bothF ys zs (segE ys zs)) k1 && !(comTo (segE ys zs) (bothF ys zs (segE ys zs)) k1).1) = true := c2
   refine W.seq ?_
   refine W.region ?_
   refine S.pure tOk zOk rfl rfl rfl ?_
   refine S.alloc tOk rfl rfl rfl rfl ?_
   refine S.store tOk rfl rfl rfl rfl rfl rfl rfl rfl ?_
   refine thenK_n ?_
   refine W.seq ?_
   refine W.seq ?_
   refine W.region ?_
   refine S.pure tOk zOk rfl rfl rfl ?_
   refine S.pure tOk zOk rfl rfl rfl ?_
   refine thenK_n ?_
   refine W.cond rfl (fun c3 => ?_) (fun c3 => ?_)
   ·skip
    have hki : k1 - 1 < (segE ys zs).length := by have h := c3; simp at h; omega
    refine W.regionB (fun t b => b = [[.d (.vec 10 (ys.map spD))], [.d (.vec 10 (zs.map spD))], [.d .nilsl], [.row 0 0 0 ((comTo (segE ys zs) (bothF ys zs (segE ys zs)) k1).2.map spD).length], [.d (.bool (ys.any (pieceF (segE ys zs) k1))), .d (.bool (zs.any (pieceF (segE ys zs) k1)))], [.d (.bool true), .d (.bool false), .d (.int .i64 ((segE ys zs).getD (k1 - 1) Ver.z).a), .d (.int .i64 ((segE ys zs).getD (k1 - 1) Ver.z).b), .d (.int .i64 ((segE ys zs).getD (k1 - 1) Ver.z).c), .d (.str ((segE ys zs).getD (k1 - 1) Ver.z).e), .d (.int .i64 0), .d (.int .i64 0), .d (.int .i64 0), .d (.str [])]] ∧ holdsL t [(2, .one (.ptr 0 0)), (3, .one (.ptr 1 0)), (4, .one (.ptr 2 0)), (5, .one (.d (.vec 4 ((segE ys zs).map verD)))), (7, .one (.ptr 3 0)), (8, .one (.d (.bool (comTo (segE ys zs) (bothF ys zs (segE ys zs)) k1).1))), (20, .one (.d (.vec 2 ((inQ ys zs (segE ys zs) ((segE ys zs).length + 1)).map bbD)))), (21, .one (.d (.int .i64 (((inQ ys zs (segE ys zs) ((segE ys zs).length + 1)).map bbD).length : Int)))), (22, .one (.d (.int .i64 (k1 : Int)))), (9, .one (.d (.int .i64 (k1 : Int)))), (11, .one (.d (.bool ((ys.any (pieceF (segE ys zs) k1)) && (zs.any (pieceF (segE ys zs) k1)))))), (12, .one (.ptr 5 0))]) mixed ?_ ?_
    ·skip
     refine AnyD.three 0 1 5 (by kernel_rfl) rfl rfl rfl ?_ ?_ ?_
     ·skip
      refine D.pure tOk zOk rfl rfl rfl rfl ?_
      refine WD.nil ?_
      refine AnyD.two 1 5 (by kernel_rfl) rfl rfl ?_ ?_
      ·skip
       refine D.pure tOk zOk rfl rfl rfl rfl ?_
       refine WD.nil ?_
       refine AnyD.two 2 5 (by kernel_rfl) rfl rfl ?_ ?_
       ·skip
        refine D.pureE tOk zOk rfl rfl rfl (dec_i64 (by have h := c3; simp at h ⊢; omega) (by omega)) rfl ?_
        refine WD.nil ?_
        refine AnyD.two 3 5 (by kernel_rfl) rfl rfl ?_ ?_
        ·skip
         refine D.pureE tOk zOk rfl rfl (row_ok hki) (row_at Ver.z hki) rfl ?_
         refine WD.nil ?_
         refine AnyD.two 4 5 (by kernel_rfl) rfl rfl ?_ ?_
         ·skip
          refine D.pure tOk zOk rfl rfl rfl rfl ?_
          refine WD.nil ?_
          refine AnyD.one 5 (by kernel_rfl) rfl ?_
          refine D.pure tOk zOk rfl rfl rfl rfl ?_
          refine WD.nil ?_
          refine AnyD.one 6 (by kernel_rfl) rfl ?_
          refine D.store tOk rfl rfl rfl rfl rfl rfl rfl rfl ?_
          refine WD.nil ?_
          refine AnyD.one 7 (by kernel_rfl) rfl ?_
          refine D.pure tOk zOk rfl rfl rfl rfl ?_
          refine WD.nil ?_
          refine AnyD.one 8 (by kernel_rfl) rfl ?_
          refine D.store tOk rfl rfl rfl rfl rfl rfl rfl rfl ?_
          refine WD.nil ?_
          exact AnyD.nil (by kernel_rfl) ⟨rfl, rfl, rfl, rfl, rfl, rfl, rfl, rfl, rfl, rfl, rfl, rfl, rfl, trivial⟩
         ·skip
          refine D.pure tOk zOk rfl rfl rfl rfl ?_
          refine WD.nil ?_
          refine AnyD.two 4 6 (by kernel_rfl) rfl rfl ?_ ?_
          ·skip
           refine D.pure tOk zOk rfl rfl rfl rfl ?_
           refine WD.nil ?_
           refine AnyD.one 6 (by kernel_rfl) rfl ?_
           refine D.store tOk rfl rfl rfl rfl rfl rfl rfl rfl ?_
           refine WD.nil ?_
           refine AnyD.one 7 (by kernel_rfl) rfl ?_
           refine D.pure tOk zOk rfl rfl rfl rfl ?_
           refine WD.nil ?_
           refine AnyD.one 8 (by kernel_rfl) rfl ?_
           refine D.store tOk rfl rfl rfl rfl rfl rfl rfl rfl ?_
           refine WD.nil ?_
           exact AnyD.nil (by kernel_rfl) ⟨rfl, rfl, rfl, rfl, rfl, rfl, rfl, rfl, rfl, rfl, rfl, rfl, rfl, trivial⟩
          ·skip
           refine D.store tOk rfl rfl rfl rfl rfl rfl rfl rfl ?_
           refine WD.nil ?_
           refine AnyD.one 4 (by kernel_rfl) rfl ?_
           refine D.pure tOk zOk rfl rfl rfl rfl ?_
           refine WD.nil ?_
           refine AnyD.one 7 (by kernel_rfl) rfl ?_
           refine D.pure tOk zOk rfl rfl rfl rfl ?_
           refine WD.nil ?_
           refine AnyD.one 8 (by kernel_rfl) rfl ?_
           refine D.store tOk rfl rfl rfl rfl rfl rfl rfl rfl ?_
           refine WD.nil ?_
           exact AnyD.nil (by kernel_rfl) ⟨rfl, rfl, rfl, rfl, rfl, rfl, rfl, rfl, rfl, rfl, rfl, rfl, rfl, trivial⟩
        ·skip
         refine D.pure tOk zOk rfl rfl rfl rfl ?_
         refine WD.nil ?_
         refine AnyD.two 3 6 (by kernel_rfl) rfl rfl ?_ ?_
         ·skip
          refine D.pureE tOk zOk rfl rfl (row_ok hki) (row_at Ver.z hki) rfl ?_
          refine WD.nil ?_
          refine AnyD.two 4 6 (by kernel_rfl) rfl rfl ?_ ?_
          ·skip
           refine D.pure tOk zOk rfl rfl rfl rfl ?_
           refine WD.nil ?_
           refine AnyD.one 6 (by kernel_rfl) rfl ?_
           refine D.store tOk rfl rfl rfl rfl rfl rfl rfl rfl ?_
           refine WD.nil ?_
           refine AnyD.one 7 (by kernel_rfl) rfl ?_
           refine D.pure tOk zOk rfl rfl rfl rfl ?_
           refine WD.nil ?_
           refine AnyD.one 8 (by kernel_rfl) rfl ?_
           refine D.store tOk rfl rfl rfl rfl rfl rfl rfl rfl ?_
           refine WD.nil ?_
           exact AnyD.nil (by kernel_rfl) ⟨rfl, rfl, rfl, rfl, rfl, rfl, rfl, rfl, rfl, rfl, rfl, rfl, rfl, trivial⟩
          ·skip
           refine D.store tOk rfl rfl rfl rfl rfl rfl rfl rfl ?_
           refine WD.nil ?_
           refine AnyD.one 4 (by kernel_rfl) rfl ?_
           refine D.pure tOk zOk rfl rfl rfl rfl ?_
           refine WD.nil ?_
           refine AnyD.one 7 (by kernel_rfl) rfl ?_
           refine D.pure tOk zOk rfl rfl rfl rfl ?_
           refine WD.nil ?_
           refine AnyD.one 8 (by kernel_rfl) rfl ?_
           refine D.store tOk rfl rfl rfl rfl rfl rfl rfl rfl ?_
           refine WD.nil ?_
           exact AnyD.nil (by kernel_rfl) ⟨rfl, rfl, rfl, rfl, rfl, rfl, rfl, rfl, rfl, rfl, rfl, rfl, rfl, trivial⟩
         ·skip
          refine D.store tOk rfl rfl rfl rfl rfl rfl rfl rfl ?_
          refine WD.nil ?_
          refine AnyD.one 3 (by kernel_rfl) rfl ?_
          refine D.pureE tOk zOk rfl rfl (row_ok hki) (row_at Ver.z hki) rfl ?_
          refine WD.nil ?_
          refine AnyD.one 4 (by kernel_rfl) rfl ?_
          refine D.pure tOk zOk rfl rfl rfl rfl ?_
          refine WD.nil ?_
          refine AnyD.one 7 (by kernel_rfl) rfl ?_
          refine D.pure tOk zOk rfl rfl rfl rfl ?_
          refine WD.nil ?_
          refine AnyD.one 8 (by kernel_rfl) rfl ?_
          refine D.store tOk rfl rfl rfl rfl rfl rfl rfl rfl ?_
          refine WD.nil ?_
          exact AnyD.nil (by kernel_rfl) ⟨rfl, rfl, rfl, rfl, rfl, rfl, rfl, rfl, rfl, rfl, rfl, rfl, rfl, trivial⟩
       ·skip
        refine D.pure tOk zOk rfl rfl rfl rfl ?_
        refine WD.nil ?_
        refine AnyD.two 2 6 (by kernel_rfl) rfl rfl ?_ ?_
        ·skip
         refine D.pureE tOk zOk rfl rfl rfl (dec_i64 (by have h := c3; simp at h ⊢; omega) (by omega)) rfl ?_
         refine WD.nil ?_
         refine AnyD.two 3 6 (by kernel_rfl) rfl rfl ?_ ?_
         ·skip
          refine D.pureE tOk zOk rfl rfl (row_ok hki) (row_at Ver.z hki) rfl ?_
          refine WD.nil ?_
          refine AnyD.two 4 6 (by kernel_rfl) rfl rfl ?_ ?_
          ·skip
           refine D.pure tOk zOk rfl rfl rfl rfl ?_
           refine WD.nil ?_
           refine AnyD.one 6 (by kernel_rfl) rfl ?_
           refine D.store tOk rfl rfl rfl rfl rfl rfl rfl rfl ?_
           refine WD.nil ?_
           refine AnyD.one 7 (by kernel_rfl) rfl ?_
           refine D.pure tOk zOk rfl rfl rfl rfl ?_
           refine WD.nil ?_
           refine AnyD.one 8 (by kernel_rfl) rfl ?_
           refine D.store tOk rfl rfl rfl rfl rfl rfl rfl rfl ?_
           refine WD.nil ?_
           exact AnyD.nil (by kernel_rfl) ⟨rfl, rfl, rfl, rfl, rfl, rfl, rfl, rfl, rfl, rfl, rfl, rfl, rfl, trivial⟩
          ·skip
           refine D.store tOk rfl rfl rfl rfl rfl rfl rfl rfl ?_
           refine WD.nil ?_
           refine AnyD.one 4 (by kernel_rfl) rfl ?_
           refine D.pure tOk zOk rfl rfl rfl rfl ?_
           refine WD.nil ?_
           refine AnyD.one 7 (by kernel_rfl) rfl ?_
           refine D.pure tOk zOk rfl rfl rfl rfl ?_
           refine WD.nil ?_
           refine AnyD.one 8 (by kernel_rfl) rfl ?_
           refine D.store tOk rfl rfl rfl rfl rfl rfl rfl rfl ?_
           refine WD.nil ?_
           exact AnyD.nil (by kernel_rfl) ⟨rfl, rfl, rfl, rfl, rfl, rfl, rfl, rfl, rfl, rfl, rfl, rfl, rfl, trivial⟩
         ·skip
          refine D.store tOk rfl rfl rfl rfl rfl rfl rfl rfl ?_
          refine WD.nil ?_
          refine AnyD.one 3 (by kernel_rfl) rfl ?_
          refine D.pureE tOk zOk rfl rfl (row_ok hki) (row_at Ver.z hki) rfl ?_
          refine WD.nil ?_
          refine AnyD.one 4 (by kernel_rfl) rfl ?_
          refine D.pure tOk zOk rfl rfl rfl rfl ?_
          refine WD.nil ?_
          refine AnyD.one 7 (by kernel_rfl) rfl ?_
          refine D.pure tOk zOk rfl rfl rfl rfl ?_
          refine WD.nil ?_
          refine AnyD.one 8 (by kernel_rfl) rfl ?_
          refine D.store tOk rfl rfl rfl rfl rfl rfl rfl rfl ?_
          refine WD.nil ?_
          exact AnyD.nil (by kernel_rfl) ⟨rfl, rfl, rfl, rfl, rfl, rfl, rfl, rfl, rfl, rfl, rfl, rfl, rfl, trivial⟩
        ·skip
         refine D.store tOk rfl rfl rfl rfl rfl rfl rfl rfl ?_
         refine WD.nil ?_
         refine AnyD.one 2 (by kernel_rfl) rfl ?_
         refine D.pureE tOk zOk rfl rfl rfl (dec_i64 (by have h := c3; simp at h ⊢; omega) (by omega)) rfl ?_
         refine WD.nil ?_
         refine AnyD.one 3 (by kernel_rfl) rfl ?_
         refine D.pureE tOk zOk rfl rfl (row_ok hki) (row_at Ver.z hki) rfl ?_
         refine WD.nil ?_
         refine AnyD.one 4 (by kernel_rfl) rfl ?_
         refine D.pure tOk zOk rfl rfl rfl rfl ?_
         refine WD.nil ?_
         refine AnyD.one 7 (by kernel_rfl) rfl ?_
         refine D.pure tOk zOk rfl rfl rfl rfl ?_
         refine WD.nil ?_
         refine AnyD.one 8 (by kernel_rfl) rfl ?_
         refine D.store tOk rfl rfl rfl rfl rfl rfl rfl rfl ?_
         refine WD.nil ?_
         exact AnyD.nil (by kernel_rfl) ⟨rfl, rfl, rfl, rfl, rfl, rfl, rfl, rfl, rfl, rfl, rfl, rfl, rfl, trivial⟩
      ·skip
       refine D.pure tOk zOk rfl rfl rfl rfl ?_
       refine WD.nil ?_
       refine AnyD.two 1 6 (by kernel_rfl) rfl rfl ?_ ?_
       ·skip
        refine D.pure tOk zOk rfl rfl rfl rfl ?_
        refine WD.nil ?_
        refine AnyD.two 2 6 (by kernel_rfl) rfl rfl ?_ ?_
        ·skip
         refine D.pureE tOk zOk rfl rfl rfl (dec_i64 (by have h := c3; simp at h ⊢; omega) (by omega)) rfl ?_
         refine WD.nil ?_
         refine AnyD.two 3 6 (by kernel_rfl) rfl rfl ?_ ?_
         ·skip
          refine D.pureE tOk zOk rfl rfl (row_ok hki) (row_at Ver.z hki) rfl ?_
          refine WD.nil ?_
          refine AnyD.two 4 6 (by kernel_rfl) rfl rfl ?_ ?_
          ·skip
           refine D.pure tOk zOk rfl rfl rfl rfl ?_
           refine WD.nil ?_
           refine AnyD.one 6 (by kernel_rfl) rfl ?_
           refine D.store tOk rfl rfl rfl rfl rfl rfl rfl rfl ?_
           refine WD.nil ?_
           refine AnyD.one 7 (by kernel_rfl) rfl ?_
           refine D.pure tOk zOk rfl rfl rfl rfl ?_
           refine WD.nil ?_
           refine AnyD.one 8 (by kernel_rfl) rfl ?_
           refine D.store tOk rfl rfl rfl rfl rfl rfl rfl rfl ?_
           refine WD.nil ?_
           exact AnyD.nil (by kernel_rfl) ⟨rfl, rfl, rfl, rfl, rfl, rfl, rfl, rfl, rfl, rfl, rfl, rfl, rfl, trivial⟩
          ·skip
           refine D.store tOk rfl rfl rfl rfl rfl rfl rfl rfl ?_
           refine WD.nil ?_
           refine AnyD.one 4 (by kernel_rfl) rfl ?_
           refine D.pure tOk zOk rfl rfl rfl rfl ?_
           refine WD.nil ?_
           refine AnyD.one 7 (by kernel_rfl) rfl ?_
           refine D.pure tOk zOk rfl rfl rfl rfl ?_
           refine WD.nil ?_
           refine AnyD.one 8 (by kernel_rfl) rfl ?_
           refine D.store tOk rfl rfl rfl rfl rfl rfl rfl rfl ?_
           refine WD.nil ?_
           exact AnyD.nil (by kernel_rfl) ⟨rfl, rfl, rfl, rfl, rfl, rfl, rfl, rfl, rfl, rfl, rfl, rfl, rfl, trivial⟩
         ·skip
          refine D.store tOk rfl rfl rfl rfl rfl rfl rfl rfl ?_
          refine WD.nil ?_
          refine AnyD.one 3 (by kernel_rfl) rfl ?_
          refine D.pureE tOk zOk rfl rfl (row_ok hki) (row_at Ver.z hki) rfl ?_
          refine WD.nil ?_
          refine AnyD.one 4 (by kernel_rfl) rfl ?_
          refine D.pure tOk zOk rfl rfl rfl rfl ?_
          refine WD.nil ?_
          refine AnyD.one 7 (by kernel_rfl) rfl ?_
          refine D.pure tOk zOk rfl rfl rfl rfl ?_
          refine WD.nil ?_
          refine AnyD.one 8 (by kernel_rfl) rfl ?_
          refine D.store tOk rfl rfl rfl rfl rfl rfl rfl rfl ?_
          refine WD.nil ?_
          exact AnyD.nil (by kernel_rfl) ⟨rfl, rfl, rfl, rfl, rfl, rfl, rfl, rfl, rfl, rfl, rfl, rfl, rfl, trivial⟩
        ·skip
         refine D.store tOk rfl rfl rfl rfl rfl rfl rfl rfl ?_
         refine WD.nil ?_
         refine AnyD.one 2 (by kernel_rfl) rfl ?_
         refine D.pureE tOk zOk rfl rfl rfl (dec_i64 (by have h := c3; simp at h ⊢; omega) (by omega)) rfl ?_
         refine WD.nil ?_
         refine AnyD.one 3 (by kernel_rfl) rfl ?_
         refine D.pureE tOk zOk rfl rfl (row_ok hki) (row_at Ver.z hki) rfl ?_
         refine WD.nil ?_
         refine AnyD.one 4 (by kernel_rfl) rfl ?_
         refine D.pure tOk zOk rfl rfl rfl rfl ?_
         refine WD.nil ?_
         refine AnyD.one 7 (by kernel_rfl) rfl ?_
         refine D.pure tOk zOk rfl rfl rfl rfl ?_
         refine WD.nil ?_
         refine AnyD.one 8 (by kernel_rfl) rfl ?_
         refine D.store tOk rfl rfl rfl rfl rfl rfl rfl rfl ?_
         refine WD.nil ?_
         exact AnyD.nil (by kernel_rfl) ⟨rfl, rfl, rfl, rfl, rfl, rfl, rfl, rfl, rfl, rfl, rfl, rfl, rfl, trivial⟩
       ·skip
        refine D.store tOk rfl rfl rfl rfl rfl rfl rfl rfl ?_
        refine WD.nil ?_
        refine AnyD.one 1 (by kernel_rfl) rfl ?_
        refine D.pure tOk zOk rfl rfl rfl rfl ?_
        refine WD.nil ?_
        refine AnyD.one 2 (by kernel_rfl) rfl ?_
        refine D.pureE tOk zOk rfl rfl rfl (dec_i64 (by have h := c3; simp at h ⊢; omega) (by omega)) rfl ?_
        refine WD.nil ?_
        refine AnyD.one 3 (by kernel_rfl) rfl ?_
        refine D.pureE tOk zOk rfl rfl (row_ok hki) (row_at Ver.z hki) rfl ?_
        refine WD.nil ?_
        refine AnyD.one 4 (by kernel_rfl) rfl ?_
        refine D.pure tOk zOk rfl rfl rfl rfl ?_
        refine WD.nil ?_
        refine AnyD.one 7 (by kernel_rfl) rfl ?_
        refine D.pure tOk zOk rfl rfl rfl rfl ?_
        refine WD.nil ?_
        refine AnyD.one 8 (by kernel_rfl) rfl ?_
        refine D.store tOk rfl rfl rfl rfl rfl rfl rfl rfl ?_
        refine WD.nil ?_
        exact AnyD.nil (by kernel_rfl) ⟨rfl, rfl, rfl, rfl, rfl, rfl, rfl, rfl, rfl, rfl, rfl, rfl, rfl, trivial⟩
     ·skip
      refine D.pure tOk zOk rfl rfl rfl rfl ?_
      refine WD.nil ?_
      refine AnyD.three 0 2 5 (by kernel_rfl) rfl rfl rfl ?_ ?_ ?_
      ·skip
       refine D.pure tOk zOk rfl rfl rfl rfl ?_
       refine WD.nil ?_
       refine AnyD.two 2 5 (by kernel_rfl) rfl rfl ?_ ?_
       ·skip
        refine D.pureE tOk zOk rfl rfl rfl (dec_i64 (by have h := c3; simp at h ⊢; omega) (by omega)) rfl ?_
        refine WD.nil ?_
        refine AnyD.two 3 5 (by kernel_rfl) rfl rfl ?_ ?_
        ·skip
         refine D.pureE tOk zOk rfl rfl (row_ok hki) (row_at Ver.z hki) rfl ?_
         refine WD.nil ?_
         refine AnyD.two 4 5 (by kernel_rfl) rfl rfl ?_ ?_
         ·skip
          refine D.pure tOk zOk rfl rfl rfl rfl ?_
          refine WD.nil ?_
          refine AnyD.one 5 (by kernel_rfl) rfl ?_
          refine D.pure tOk zOk rfl rfl rfl rfl ?_
          refine WD.nil ?_
          refine AnyD.one 6 (by kernel_rfl) rfl ?_
          refine D.store tOk rfl rfl rfl rfl rfl rfl rfl rfl ?_
          refine WD.nil ?_
          refine AnyD.one 7 (by kernel_rfl) rfl ?_
          refine D.pure tOk zOk rfl rfl rfl rfl ?_
          refine WD.nil ?_
          refine AnyD.one 8 (by kernel_rfl) rfl ?_
          refine D.store tOk rfl rfl rfl rfl rfl rfl rfl rfl ?_
          refine WD.nil ?_
          exact AnyD.nil (by kernel_rfl) ⟨rfl, rfl, rfl, rfl, rfl, rfl, rfl, rfl, rfl, rfl, rfl, rfl, rfl, trivial⟩
         ·skip
          refine D.pure tOk zOk rfl rfl rfl rfl ?_
          refine WD.nil ?_
          refine AnyD.two 4 6 (by kernel_rfl) rfl rfl ?_ ?_
          ·skip
           refine D.pure tOk zOk rfl rfl rfl rfl ?_
           refine WD.nil ?_
           refine AnyD.one 6 (by kernel_rfl) rfl ?_
           refine D.store tOk rfl rfl rfl rfl rfl rfl rfl rfl ?_
           refine WD.nil ?_
           refine AnyD.one 7 (by kernel_rfl) rfl ?_
           refine D.pure tOk zOk rfl rfl rfl rfl ?_
           refine WD.nil ?_
           refine AnyD.one 8 (by kernel_rfl) rfl ?_
           refine D.store tOk rfl rfl rfl rfl rfl rfl rfl rfl ?_
           refine WD.nil ?_
           exact AnyD.nil (by kernel_rfl) ⟨rfl, rfl, rfl, rfl, rfl, rfl, rfl, rfl, rfl, rfl, rfl, rfl, rfl, trivial⟩
          ·skip
           refine D.store tOk rfl rfl rfl rfl rfl rfl rfl rfl ?_
           refine WD.nil ?_
           refine AnyD.one 4 (by kernel_rfl) rfl ?_
           refine D.pure tOk zOk rfl rfl rfl rfl ?_
           refine WD.nil ?_
           refine AnyD.one 7 (by kernel_rfl) rfl ?_
           refine D.pure tOk zOk rfl rfl rfl rfl ?_
           refine WD.nil ?_
           refine AnyD.one 8 (by kernel_rfl) rfl ?_
           refine D.store tOk rfl rfl rfl rfl rfl rfl rfl rfl ?_
           refine WD.nil ?_
           exact AnyD.nil (by kernel_rfl) ⟨rfl, rfl, rfl, rfl, rfl, rfl, rfl, rfl, rfl, rfl, rfl, rfl, rfl, trivial⟩
        ·skip
         refine D.pure tOk zOk rfl rfl rfl rfl ?_
         refine WD.nil ?_
         refine AnyD.two 3 6 (by kernel_rfl) rfl rfl ?_ ?_
         ·skip
          refine D.pureE tOk zOk rfl rfl (row_ok hki) (row_at Ver.z hki) rfl ?_
          refine WD.nil ?_
          refine AnyD.two 4 6 (by kernel_rfl) rfl rfl ?_ ?_
          ·skip
           refine D.pure tOk zOk rfl rfl rfl rfl ?_
           refine WD.nil ?_
           refine AnyD.one 6 (by kernel_rfl) rfl ?_
           refine D.store tOk rfl rfl rfl rfl rfl rfl rfl rfl ?_
           refine WD.nil ?_
           refine AnyD.one 7 (by kernel_rfl) rfl ?_
           refine D.pure tOk zOk rfl rfl rfl rfl ?_
           refine WD.nil ?_
           refine AnyD.one 8 (by kernel_rfl) rfl ?_
           refine D.store tOk rfl rfl rfl rfl rfl rfl rfl rfl ?_
           refine WD.nil ?_
           exact AnyD.nil (by kernel_rfl) ⟨rfl, rfl, rfl, rfl, rfl, rfl, rfl, rfl, rfl, rfl, rfl, rfl, rfl, trivial⟩
          ·skip
           refine D.store tOk rfl rfl rfl rfl rfl rfl rfl rfl ?_
           refine WD.nil ?_
           refine AnyD.one 4 (by kernel_rfl) rfl ?_
           refine D.pure tOk zOk rfl rfl rfl rfl ?_
           refine WD.nil ?_
           refine AnyD.one 7 (by kernel_rfl) rfl ?_
           refine D.pure tOk zOk rfl rfl rfl rfl ?_
           refine WD.nil ?_
           refine AnyD.one 8 (by kernel_rfl) rfl ?_
           refine D.store tOk rfl rfl rfl rfl rfl rfl rfl rfl ?_
           refine WD.nil ?_
           exact AnyD.nil (by kernel_rfl) ⟨rfl, rfl, rfl, rfl, rfl, rfl, rfl, rfl, rfl, rfl, rfl, rfl, rfl, trivial⟩
         ·skip
          refine D.store tOk rfl rfl rfl rfl rfl rfl rfl rfl ?_
          refine WD.nil ?_
          refine AnyD.one 3 (by kernel_rfl) rfl ?_
          refine D.pureE tOk zOk rfl rfl (row_ok hki) (row_at Ver.z hki) rfl ?_
          refine WD.nil ?_
          refine AnyD.one 4 (by kernel_rfl) rfl ?_
          refine D.pure tOk zOk rfl rfl rfl rfl ?_
          refine WD.nil ?_
          refine AnyD.one 7 (by kernel_rfl) rfl ?_
          refine D.pure tOk zOk rfl rfl rfl rfl ?_
          refine WD.nil ?_
          refine AnyD.one 8 (by kernel_rfl) rfl ?_
          refine D.store tOk rfl rfl rfl rfl rfl rfl rfl rfl ?_
          refine WD.nil ?_
          exact AnyD.nil (by kernel_rfl) ⟨rfl, rfl, rfl, rfl, rfl, rfl, rfl, rfl, rfl, rfl, rfl, rfl, rfl, trivial⟩
       ·skip
        refine D.pure tOk zOk rfl rfl rfl rfl ?_
        refine WD.nil ?_
        refine AnyD.two 2 6 (by kernel_rfl) rfl rfl ?_ ?_
        ·skip
         refine D.pureE tOk zOk rfl rfl rfl (dec_i64 (by have h := c3; simp at h ⊢; omega) (by omega)) rfl ?_
         refine WD.nil ?_
         refine AnyD.two 3 6 (by kernel_rfl) rfl rfl ?_ ?_
         ·skip
          refine D.pureE tOk zOk rfl rfl (row_ok hki) (row_at Ver.z hki) rfl ?_
          refine WD.nil ?_
          refine AnyD.two 4 6 (by kernel_rfl) rfl rfl ?_ ?_
          ·skip
           refine D.pure tOk zOk rfl rfl rfl rfl ?_
           refine WD.nil ?_
           refine AnyD.one 6 (by kernel_rfl) rfl ?_
           refine D.store tOk rfl rfl rfl rfl rfl rfl rfl rfl ?_
           refine WD.nil ?_
           refine AnyD.one 7 (by kernel_rfl) rfl ?_
           refine D.pure tOk zOk rfl rfl rfl rfl ?_
           refine WD.nil ?_
           refine AnyD.one 8 (by kernel_rfl) rfl ?_
           refine D.store tOk rfl rfl rfl rfl rfl rfl rfl rfl ?_
           refine WD.nil ?_
           exact AnyD.nil (by kernel_rfl) ⟨rfl, rfl, rfl, rfl, rfl, rfl, rfl, rfl, rfl, rfl, rfl, rfl, rfl, trivial⟩
          ·skip
           refine D.store tOk rfl rfl rfl rfl rfl rfl rfl rfl ?_
           refine WD.nil ?_
           refine AnyD.one 4 (by kernel_rfl) rfl ?_
           refine D.pure tOk zOk rfl rfl rfl rfl ?_
           refine WD.nil ?_
           refine AnyD.one 7 (by kernel_rfl) rfl ?_
           refine D.pure tOk zOk rfl rfl rfl rfl ?_
           refine WD.nil ?_
           refine AnyD.one 8 (by kernel_rfl) rfl ?_
           refine D.store tOk rfl rfl rfl rfl rfl rfl rfl rfl ?_
           refine WD.nil ?_
           exact AnyD.nil (by kernel_rfl) ⟨rfl, rfl, rfl, rfl, rfl, rfl, rfl, rfl, rfl, rfl, rfl, rfl, rfl, trivial⟩
         ·skip
          refine D.store tOk rfl rfl rfl rfl rfl rfl rfl rfl ?_
          refine WD.nil ?_
          refine AnyD.one 3 (by kernel_rfl) rfl ?_
          refine D.pureE tOk zOk rfl rfl (row_ok hki) (row_at Ver.z hki) rfl ?_
          refine WD.nil ?_
          refine AnyD.one 4 (by kernel_rfl) rfl ?_
          refine D.pure tOk zOk rfl rfl rfl rfl ?_
          refine WD.nil ?_
          refine AnyD.one 7 (by kernel_rfl) rfl ?_
          refine D.pure tOk zOk rfl rfl rfl rfl ?_
          refine WD.nil ?_
          refine AnyD.one 8 (by kernel_rfl) rfl ?_
          refine D.store tOk rfl rfl rfl rfl rfl rfl rfl rfl ?_
          refine WD.nil ?_
          exact AnyD.nil (by kernel_rfl) ⟨rfl, rfl, rfl, rfl, rfl, rfl, rfl, rfl, rfl, rfl, rfl, rfl, rfl, trivial⟩
        ·skip
         refine D.store tOk rfl rfl rfl rfl rfl rfl rfl rfl ?_
         refine WD.nil ?_
         refine AnyD.one 2 (by kernel_rfl) rfl ?_
         refine D.pureE tOk zOk rfl rfl rfl (dec_i64 (by have h := c3; simp at h ⊢; omega) (by omega)) rfl ?_
         refine WD.nil ?_
         refine AnyD.one 3 (by kernel_rfl) rfl ?_
         refine D.pureE tOk zOk rfl rfl (row_ok hki) (row_at Ver.z hki) rfl ?_
         refine WD.nil ?_
         refine AnyD.one 4 (by kernel_rfl) rfl ?_
         refine D.pure tOk zOk rfl rfl rfl rfl ?_
         refine WD.nil ?_
         refine AnyD.one 7 (by kernel_rfl) rfl ?_
         refine D.pure tOk zOk rfl rfl rfl rfl ?_
         refine WD.nil ?_
         refine AnyD.one 8 (by kernel_rfl) rfl ?_
         refine D.store tOk rfl rfl rfl rfl rfl rfl rfl rfl ?_
         refine WD.nil ?_
         exact AnyD.nil (by kernel_rfl) ⟨rfl, rfl, rfl, rfl, rfl, rfl, rfl, rfl, rfl, rfl, rfl, rfl, rfl, trivial⟩
      ·skip
       refine D.pureE tOk zOk rfl rfl rfl (dec_i64 (by have h := c3; simp at h ⊢; omega) (by omega)) rfl ?_
       refine WD.nil ?_
       refine AnyD.two 0 5 (by kernel_rfl) rfl rfl ?_ ?_
       ·skip
        refine D.pure tOk zOk rfl rfl rfl rfl ?_
        refine WD.nil ?_
        refine AnyD.two 3 5 (by kernel_rfl) rfl rfl ?_ ?_
        ·skip
         refine D.pureE tOk zOk rfl rfl (row_ok hki) (row_at Ver.z hki) rfl ?_
         refine WD.nil ?_
         refine AnyD.two 4 5 (by kernel_rfl) rfl rfl ?_ ?_
         ·skip
          refine D.pure tOk zOk rfl rfl rfl rfl ?_
          refine WD.nil ?_
          refine AnyD.one 5 (by kernel_rfl) rfl ?_
          refine D.pure tOk zOk rfl rfl rfl rfl ?_
          refine WD.nil ?_
          refine AnyD.one 6 (by kernel_rfl) rfl ?_
          refine D.store tOk rfl rfl rfl rfl rfl rfl rfl rfl ?_
          refine WD.nil ?_
          refine AnyD.one 7 (by kernel_rfl) rfl ?_
          refine D.pure tOk zOk rfl rfl rfl rfl ?_
          refine WD.nil ?_
          refine AnyD.one 8 (by kernel_rfl) rfl ?_
          refine D.store tOk rfl rfl rfl rfl rfl rfl rfl rfl ?_
          refine WD.nil ?_
          exact AnyD.nil (by kernel_rfl) ⟨rfl, rfl, rfl, rfl, rfl, rfl, rfl, rfl, rfl, rfl, rfl, rfl, rfl, trivial⟩
         ·skip
          refine D.pure tOk zOk rfl rfl rfl rfl ?_
          refine WD.nil ?_
          refine AnyD.two 4 6 (by kernel_rfl) rfl rfl ?_ ?_
          ·skip
           refine D.pure tOk zOk rfl rfl rfl rfl ?_
           refine WD.nil ?_
           refine AnyD.one 6 (by kernel_rfl) rfl ?_
           refine D.store tOk rfl rfl rfl rfl rfl rfl rfl rfl ?_
           refine WD.nil ?_
           refine AnyD.one 7 (by kernel_rfl) rfl ?_
           refine D.pure tOk zOk rfl rfl rfl rfl ?_
           refine WD.nil ?_
           refine AnyD.one 8 (by kernel_rfl) rfl ?_
           refine D.store tOk rfl rfl rfl rfl rfl rfl rfl rfl ?_
           refine WD.nil ?_
           exact AnyD.nil (by kernel_rfl) ⟨rfl, rfl, rfl, rfl, rfl, rfl, rfl, rfl, rfl, rfl, rfl, rfl, rfl, trivial⟩
          ·skip
           refine D.store tOk rfl rfl rfl rfl rfl rfl rfl rfl ?_
           refine WD.nil ?_
           refine AnyD.one 4 (by kernel_rfl) rfl ?_
           refine D.pure tOk zOk rfl rfl rfl rfl ?_
           refine WD.nil ?_
           refine AnyD.one 7 (by kernel_rfl) rfl ?_
           refine D.pure tOk zOk rfl rfl rfl rfl ?_
           refine WD.nil ?_
           refine AnyD.one 8 (by kernel_rfl) rfl ?_
           refine D.store tOk rfl rfl rfl rfl rfl rfl rfl rfl ?_
           refine WD.nil ?_
           exact AnyD.nil (by kernel_rfl) ⟨rfl, rfl, rfl, rfl, rfl, rfl, rfl, rfl, rfl, rfl, rfl, rfl, rfl, trivial⟩
        ·skip
         refine D.pure tOk zOk rfl rfl rfl rfl ?_
         refine WD.nil ?_
         refine AnyD.two 3 6 (by kernel_rfl) rfl rfl ?_ ?_
         ·skip
          refine D.pureE tOk zOk rfl rfl (row_ok hki) (row_at Ver.z hki) rfl ?_
          refine WD.nil ?_
          refine AnyD.two 4 6 (by kernel_rfl) rfl rfl ?_ ?_
          ·skip
           refine D.pure tOk zOk rfl rfl rfl rfl ?_
           refine WD.nil ?_
           refine AnyD.one 6 (by kernel_rfl) rfl ?_
           refine D.store tOk rfl rfl rfl rfl rfl rfl rfl rfl ?_
           refine WD.nil ?_
           refine AnyD.one 7 (by kernel_rfl) rfl ?_
           refine D.pure tOk zOk rfl rfl rfl rfl ?_
           refine WD.nil ?_
           refine AnyD.one 8 (by kernel_rfl) rfl ?_
           refine D.store tOk rfl rfl rfl rfl rfl rfl rfl rfl ?_
           refine WD.nil ?_
           exact AnyD.nil (by kernel_rfl) ⟨rfl, rfl, rfl, rfl, rfl, rfl, rfl, rfl, rfl, rfl, rfl, rfl, rfl, trivial⟩
          ·skip
           refine D.store tOk rfl rfl rfl rfl rfl rfl rfl rfl ?_
           refine WD.nil ?_
           refine AnyD.one 4 (by kernel_rfl) rfl ?_
           refine D.pure tOk zOk rfl rfl rfl rfl ?_
           refine WD.nil ?_
           refine AnyD.one 7 (by kernel_rfl) rfl ?_
           refine D.pure tOk zOk rfl rfl rfl rfl ?_
           refine WD.nil ?_
           refine AnyD.one 8 (by kernel_rfl) rfl ?_
           refine D.store tOk rfl rfl rfl rfl rfl rfl rfl rfl ?_
           refine WD.nil ?_
           exact AnyD.nil (by kernel_rfl) ⟨rfl, rfl, rfl, rfl, rfl, rfl, rfl, rfl, rfl, rfl, rfl, rfl, rfl, trivial⟩
         ·skip
          refine D.store tOk rfl rfl rfl rfl rfl rfl rfl rfl ?_
          refine WD.nil ?_
          refine AnyD.one 3 (by kernel_rfl) rfl ?_
          refine D.pureE tOk zOk rfl rfl (row_ok hki) (row_at Ver.z hki) rfl ?_
          refine WD.nil ?_
          refine AnyD.one 4 (by kernel_rfl) rfl ?_
          refine D.pure tOk zOk rfl rfl rfl rfl ?_
          refine WD.nil ?_
          refine AnyD.one 7 (by kernel_rfl) rfl ?_
          refine D.pure tOk zOk rfl rfl rfl rfl ?_
          refine WD.nil ?_
          refine AnyD.one 8 (by kernel_rfl) rfl ?_
          refine D.store tOk rfl rfl rfl rfl rfl rfl rfl rfl ?_
          refine WD.nil ?_
          exact AnyD.nil (by kernel_rfl) ⟨rfl, rfl, rfl, rfl, rfl, rfl, rfl, rfl, rfl, rfl, rfl, rfl, rfl, trivial⟩
       ·skip
        refine D.pure tOk zOk rfl rfl rfl rfl ?_
        refine WD.nil ?_
        refine AnyD.two 0 6 (by kernel_rfl) rfl rfl ?_ ?_
        ·skip
         refine D.pure tOk zOk rfl rfl rfl rfl ?_
         refine WD.nil ?_
         refine AnyD.two 3 6 (by kernel_rfl) rfl rfl ?_ ?_
         ·skip
          refine D.pureE tOk zOk rfl rfl (row_ok hki) (row_at Ver.z hki) rfl ?_
          refine WD.nil ?_
          refine AnyD.two 4 6 (by kernel_rfl) rfl rfl ?_ ?_
          ·skip
           refine D.pure tOk zOk rfl rfl rfl rfl ?_
           refine WD.nil ?_
           refine AnyD.one 6 (by kernel_rfl) rfl ?_
           refine D.store tOk rfl rfl rfl rfl rfl rfl rfl rfl ?_
           refine WD.nil ?_
           refine AnyD.one 7 (by kernel_rfl) rfl ?_
           refine D.pure tOk zOk rfl rfl rfl rfl ?_
           refine WD.nil ?_
           refine AnyD.one 8 (by kernel_rfl) rfl ?_
           refine D.store tOk rfl rfl rfl rfl rfl rfl rfl rfl ?_
           refine WD.nil ?_
           exact AnyD.nil (by kernel_rfl) ⟨rfl, rfl, rfl, rfl, rfl, rfl, rfl, rfl, rfl, rfl, rfl, rfl, rfl, trivial⟩
          ·skip
           refine D.store tOk rfl rfl rfl rfl rfl rfl rfl rfl ?_
           refine WD.nil ?_
           refine AnyD.one 4 (by kernel_rfl) rfl ?_
           refine D.pure tOk zOk rfl rfl rfl rfl ?_
           refine WD.nil ?_
           refine AnyD.one 7 (by kernel_rfl) rfl ?_
           refine D.pure tOk zOk rfl rfl rfl rfl ?_
           refine WD.nil ?_
           refine AnyD.one 8 (by kernel_rfl) rfl ?_
           refine D.store tOk rfl rfl rfl rfl rfl rfl rfl rfl ?_
           refine WD.nil ?_
           exact AnyD.nil (by kernel_rfl) ⟨rfl, rfl, rfl, rfl, rfl, rfl, rfl, rfl, rfl, rfl, rfl, rfl, rfl, trivial⟩
         ·skip
          refine D.store tOk rfl rfl rfl rfl rfl rfl rfl rfl ?_
          refine WD.nil ?_
          refine AnyD.one 3 (by kernel_rfl) rfl ?_
          refine D.pureE tOk zOk rfl rfl (row_ok hki) (row_at Ver.z hki) rfl ?_
          refine WD.nil ?_
          refine AnyD.one 4 (by kernel_rfl) rfl ?_
          refine D.pure tOk zOk rfl rfl rfl rfl ?_
          refine WD.nil ?_
          refine AnyD.one 7 (by kernel_rfl) rfl ?_
          refine D.pure tOk zOk rfl rfl rfl rfl ?_
          refine WD.nil ?_
          refine AnyD.one 8 (by kernel_rfl) rfl ?_
          refine D.store tOk rfl rfl rfl rfl rfl rfl rfl rfl ?_
          refine WD.nil ?_
          exact AnyD.nil (by kernel_rfl) ⟨rfl, rfl, rfl, rfl, rfl, rfl, rfl, rfl, rfl, rfl, rfl, rfl, rfl, trivial⟩
        ·skip
         refine D.store tOk rfl rfl rfl rfl rfl rfl rfl rfl ?_
         refine WD.nil ?_
         refine AnyD.one 0 (by kernel_rfl) rfl ?_
         refine D.pure tOk zOk rfl rfl rfl rfl ?_
         refine WD.nil ?_
         refine AnyD.one 3 (by kernel_rfl) rfl ?_
         refine D.pureE tOk zOk rfl rfl (row_ok hki) (row_at Ver.z hki) rfl ?_
         refine WD.nil ?_
         refine AnyD.one 4 (by kernel_rfl) rfl ?_
         refine D.pure tOk zOk rfl rfl rfl rfl ?_
         refine WD.nil ?_
         refine AnyD.one 7 (by kernel_rfl) rfl ?_
         refine D.pure tOk zOk rfl rfl rfl rfl ?_
         refine WD.nil ?_
         refine AnyD.one 8 (by kernel_rfl) rfl ?_
         refine D.store tOk rfl rfl rfl rfl rfl rfl rfl rfl ?_
         refine WD.nil ?_
         exact AnyD.nil (by kernel_rfl) ⟨rfl, rfl, rfl, rfl, rfl, rfl, rfl, rfl, rfl, rfl, rfl, rfl, rfl, trivial⟩
      ·skip
       refine D.pure tOk zOk rfl rfl rfl rfl ?_
       refine WD.nil ?_
       refine AnyD.three 0 2 6 (by kernel_rfl) rfl rfl rfl ?_ ?_ ?_
       ·skip
        refine D.pure tOk zOk rfl rfl rfl rfl ?_
        refine WD.nil ?_
        refine AnyD.two 2 6 (by kernel_rfl) rfl rfl ?_ ?_
        ·skip
         refine D.pureE tOk zOk rfl rfl rfl (dec_i64 (by have h := c3; simp at h ⊢; omega) (by omega)) rfl ?_
         refine WD.nil ?_
         refine AnyD.two 3 6 (by kernel_rfl) rfl rfl ?_ ?_
         ·skip
          refine D.pureE tOk zOk rfl rfl (row_ok hki) (row_at Ver.z hki) rfl ?_
          refine WD.nil ?_
          refine AnyD.two 4 6 (by kernel_rfl) rfl rfl ?_ ?_
          ·skip
           refine D.pure tOk zOk rfl rfl rfl rfl ?_
           refine WD.nil ?_
           refine AnyD.one 6 (by kernel_rfl) rfl ?_
           refine D.store tOk rfl rfl rfl rfl rfl rfl rfl rfl ?_
           refine WD.nil ?_
           refine AnyD.one 7 (by kernel_rfl) rfl ?_
           refine D.pure tOk zOk rfl rfl rfl rfl ?_
           refine WD.nil ?_
           refine AnyD.one 8 (by kernel_rfl) rfl ?_
           refine D.store tOk rfl rfl rfl rfl rfl rfl rfl rfl ?_
           refine WD.nil ?_
           exact AnyD.nil (by kernel_rfl) ⟨rfl, rfl, rfl, rfl, rfl, rfl, rfl, rfl, rfl, rfl, rfl, rfl, rfl, trivial⟩
          ·skip
           refine D.store tOk rfl rfl rfl rfl rfl rfl rfl rfl ?_
           refine WD.nil ?_
           refine AnyD.one 4 (by kernel_rfl) rfl ?_
           refine D.pure tOk zOk rfl rfl rfl rfl ?_
           refine WD.nil ?_
           refine AnyD.one 7 (by kernel_rfl) rfl ?_
           refine D.pure tOk zOk rfl rfl rfl rfl ?_
           refine WD.nil ?_
           refine AnyD.one 8 (by kernel_rfl) rfl ?_
           refine D.store tOk rfl rfl rfl rfl rfl rfl rfl rfl ?_
           refine WD.nil ?_
           exact AnyD.nil (by kernel_rfl) ⟨rfl, rfl, rfl, rfl, rfl, rfl, rfl, rfl, rfl, rfl, rfl, rfl, rfl, trivial⟩
         ·skip
          refine D.store tOk rfl rfl rfl rfl rfl rfl rfl rfl ?_
          refine WD.nil ?_
          refine AnyD.one 3 (by kernel_rfl) rfl ?_
          refine D.pureE tOk zOk rfl rfl (row_ok hki) (row_at Ver.z hki) rfl ?_
          refine WD.nil ?_
          refine AnyD.one 4 (by kernel_rfl) rfl ?_
          refine D.pure tOk zOk rfl rfl rfl rfl ?_
          refine WD.nil ?_
          refine AnyD.one 7 (by kernel_rfl) rfl ?_
          refine D.pure tOk zOk rfl rfl rfl rfl ?_
          refine WD.nil ?_
          refine AnyD.one 8 (by kernel_rfl) rfl ?_
          refine D.store tOk rfl rfl rfl rfl rfl rfl rfl rfl ?_
          refine WD.nil ?_
          exact AnyD.nil (by kernel_rfl) ⟨rfl, rfl, rfl, rfl, rfl, rfl, rfl, rfl, rfl, rfl, rfl, rfl, rfl, trivial⟩
        ·skip
         refine D.store tOk rfl rfl rfl rfl rfl rfl rfl rfl ?_
         refine WD.nil ?_
         refine AnyD.one 2 (by kernel_rfl) rfl ?_
         refine D.pureE tOk zOk rfl rfl rfl (dec_i64 (by have h := c3; simp at h ⊢; omega) (by omega)) rfl ?_
         refine WD.nil ?_
         refine AnyD.one 3 (by kernel_rfl) rfl ?_
         refine D.pureE tOk zOk rfl rfl (row_ok hki) (row_at Ver.z hki) rfl ?_
         refine WD.nil ?_
         refine AnyD.one 4 (by kernel_rfl) rfl ?_
         refine D.pure tOk zOk rfl rfl rfl rfl ?_
         refine WD.nil ?_
         refine AnyD.one 7 (by kernel_rfl) rfl ?_
         refine D.pure tOk zOk rfl rfl rfl rfl ?_
         refine WD.nil ?_
         refine AnyD.one 8 (by kernel_rfl) rfl ?_
         refine D.store tOk rfl rfl rfl rfl rfl rfl rfl rfl ?_
         refine WD.nil ?_
         exact AnyD.nil (by kernel_rfl) ⟨rfl, rfl, rfl, rfl, rfl, rfl, rfl, rfl, rfl, rfl, rfl, rfl, rfl, trivial⟩
       ·skip
        refine D.pureE tOk zOk rfl rfl rfl (dec_i64 (by have h := c3; simp at h ⊢; omega) (by omega)) rfl ?_
        refine WD.nil ?_
        refine AnyD.two 0 6 (by kernel_rfl) rfl rfl ?_ ?_
        ·skip
         refine D.pure tOk zOk rfl rfl rfl rfl ?_
         refine WD.nil ?_
         refine AnyD.two 3 6 (by kernel_rfl) rfl rfl ?_ ?_
         ·skip
          refine D.pureE tOk zOk rfl rfl (row_ok hki) (row_at Ver.z hki) rfl ?_
          refine WD.nil ?_
          refine AnyD.two 4 6 (by kernel_rfl) rfl rfl ?_ ?_
          ·skip
           refine D.pure tOk zOk rfl rfl rfl rfl ?_
           refine WD.nil ?_
           refine AnyD.one 6 (by kernel_rfl) rfl ?_
           refine D.store tOk rfl rfl rfl rfl rfl rfl rfl rfl ?_
           refine WD.nil ?_
           refine AnyD.one 7 (by kernel_rfl) rfl ?_
           refine D.pure tOk zOk rfl rfl rfl rfl ?_
           refine WD.nil ?_
           refine AnyD.one 8 (by kernel_rfl) rfl ?_
           refine D.store tOk rfl rfl rfl rfl rfl rfl rfl rfl ?_
           refine WD.nil ?_
           exact AnyD.nil (by kernel_rfl) ⟨rfl, rfl, rfl, rfl, rfl, rfl, rfl, rfl, rfl, rfl, rfl, rfl, rfl, trivial⟩
          ·skip
           refine D.store tOk rfl rfl rfl rfl rfl rfl rfl rfl ?_
           refine WD.nil ?_
           refine AnyD.one 4 (by kernel_rfl) rfl ?_
           refine D.pure tOk zOk rfl rfl rfl rfl ?_
           refine WD.nil ?_
           refine AnyD.one 7 (by kernel_rfl) rfl ?_
           refine D.pure tOk zOk rfl rfl rfl rfl ?_
           refine WD.nil ?_
           refine AnyD.one 8 (by kernel_rfl) rfl ?_
           refine D.store tOk rfl rfl rfl rfl rfl rfl rfl rfl ?_
           refine WD.nil ?_
           exact AnyD.nil (by kernel_rfl) ⟨rfl, rfl, rfl, rfl, rfl, rfl, rfl, rfl, rfl, rfl, rfl, rfl, rfl, trivial⟩
         ·skip
          refine D.store tOk rfl rfl rfl rfl rfl rfl rfl rfl ?_
          refine WD.nil ?_
          refine AnyD.one 3 (by kernel_rfl) rfl ?_
          refine D.pureE tOk zOk rfl rfl (row_ok hki) (row_at Ver.z hki) rfl ?_
          refine WD.nil ?_
          refine AnyD.one 4 (by kernel_rfl) rfl ?_
          refine D.pure tOk zOk rfl rfl rfl rfl ?_
          refine WD.nil ?_
          refine AnyD.one 7 (by kernel_rfl) rfl ?_
          refine D.pure tOk zOk rfl rfl rfl rfl ?_
          refine WD.nil ?_
          refine AnyD.one 8 (by kernel_rfl) rfl ?_
          refine D.store tOk rfl rfl rfl rfl rfl rfl rfl rfl ?_
          refine WD.nil ?_
          exact AnyD.nil (by kernel_rfl) ⟨rfl, rfl, rfl, rfl, rfl, rfl, rfl, rfl, rfl, rfl, rfl, rfl, rfl, trivial⟩
        ·skip
         refine D.store tOk rfl rfl rfl rfl rfl rfl rfl rfl ?_
         refine WD.nil ?_
         refine AnyD.one 0 (by kernel_rfl) rfl ?_
         refine D.pure tOk zOk rfl rfl rfl rfl ?_
         refine WD.nil ?_
         refine AnyD.one 3 (by kernel_rfl) rfl ?_
         refine D.pureE tOk zOk rfl rfl (row_ok hki) (row_at Ver.z hki) rfl ?_
         refine WD.nil ?_
         refine AnyD.one 4 (by kernel_rfl) rfl ?_
         refine D.pure tOk zOk rfl rfl rfl rfl ?_
         refine WD.nil ?_
         refine AnyD.one 7 (by kernel_rfl) rfl ?_
         refine D.pure tOk zOk rfl rfl rfl rfl ?_
         refine WD.nil ?_
         refine AnyD.one 8 (by kernel_rfl) rfl ?_
         refine D.store tOk rfl rfl rfl rfl rfl rfl rfl rfl ?_
         refine WD.nil ?_
         exact AnyD.nil (by kernel_rfl) ⟨rfl, rfl, rfl, rfl, rfl, rfl, rfl, rfl, rfl, rfl, rfl, rfl, rfl, trivial⟩
       ·skip
        refine D.store tOk rfl rfl rfl rfl rfl rfl rfl rfl ?_
        refine WD.nil ?_
        refine AnyD.two 0 2 (by kernel_rfl) rfl rfl ?_ ?_
        ·skip
         refine D.pure tOk zOk rfl rfl rfl rfl ?_
         refine WD.nil ?_
         refine AnyD.one 2 (by kernel_rfl) rfl ?_
         refine D.pureE tOk zOk rfl rfl rfl (dec_i64 (by have h := c3; simp at h ⊢; omega) (by omega)) rfl ?_
         refine WD.nil ?_
         refine AnyD.one 3 (by kernel_rfl) rfl ?_
         refine D.pureE tOk zOk rfl rfl (row_ok hki) (row_at Ver.z hki) rfl ?_
         refine WD.nil ?_
         refine AnyD.one 4 (by kernel_rfl) rfl ?_
         refine D.pure tOk zOk rfl rfl rfl rfl ?_
         refine WD.nil ?_
         refine AnyD.one 7 (by kernel_rfl) rfl ?_
         refine D.pure tOk zOk rfl rfl rfl rfl ?_
         refine WD.nil ?_
         refine AnyD.one 8 (by kernel_rfl) rfl ?_
         refine D.store tOk rfl rfl rfl rfl rfl rfl rfl rfl ?_
         refine WD.nil ?_
         exact AnyD.nil (by kernel_rfl) ⟨rfl, rfl, rfl, rfl, rfl, rfl, rfl, rfl, rfl, rfl, rfl, rfl, rfl, trivial⟩
        ·skip
         refine D.pureE tOk zOk rfl rfl rfl (dec_i64 (by have h := c3; simp at h ⊢; omega) (by omega)) rfl ?_
         refine WD.nil ?_
         refine AnyD.one 0 (by kernel_rfl) rfl ?_
         refine D.pure tOk zOk rfl rfl rfl rfl ?_
         refine WD.nil ?_
         refine AnyD.one 3 (by kernel_rfl) rfl ?_
         refine D.pureE tOk zOk rfl rfl (row_ok hki) (row_at Ver.z hki) rfl ?_
         refine WD.nil ?_
         refine AnyD.one 4 (by kernel_rfl) rfl ?_
         refine D.pure tOk zOk rfl rfl rfl rfl ?_
         refine WD.nil ?_
         refine AnyD.one 7 (by kernel_rfl) rfl ?_
         refine D.pure tOk zOk rfl rfl rfl rfl ?_
         refine WD.nil ?_
         refine AnyD.one 8 (by kernel_rfl) rfl ?_
         refine D.store tOk rfl rfl rfl rfl rfl rfl rfl rfl ?_
         refine WD.nil ?_
         exact AnyD.nil (by kernel_rfl) ⟨rfl, rfl, rfl, rfl, rfl, rfl, rfl, rfl, rfl, rfl, rfl, rfl, rfl, trivial⟩
     ·skip
      refine D.pure tOk zOk rfl rfl rfl rfl ?_
      refine WD.nil ?_
      refine AnyD.three 0 1 6 (by kernel_rfl) rfl rfl rfl ?_ ?_ ?_
      ·skip
       refine D.pure tOk zOk rfl rfl rfl rfl ?_
       refine WD.nil ?_
       refine AnyD.two 1 6 (by kernel_rfl) rfl rfl ?_ ?_
       ·skip
        refine D.pure tOk zOk rfl rfl rfl rfl ?_
        refine WD.nil ?_
        refine AnyD.two 2 6 (by kernel_rfl) rfl rfl ?_ ?_
        ·skip
         refine D.pureE tOk zOk rfl rfl rfl (dec_i64 (by have h := c3; simp at h ⊢; omega) (by omega)) rfl ?_
         refine WD.nil ?_
         refine AnyD.two 3 6 (by kernel_rfl) rfl rfl ?_ ?_
         ·skip
          refine D.pureE tOk zOk rfl rfl (row_ok hki) (row_at Ver.z hki) rfl ?_
          refine WD.nil ?_
          refine AnyD.two 4 6 (by kernel_rfl) rfl rfl ?_ ?_
          ·skip
           refine D.pure tOk zOk rfl rfl rfl rfl ?_
           refine WD.nil ?_
           refine AnyD.one 6 (by kernel_rfl) rfl ?_
           refine D.store tOk rfl rfl rfl rfl rfl rfl rfl rfl ?_
           refine WD.nil ?_
           refine AnyD.one 7 (by kernel_rfl) rfl ?_
           refine D.pure tOk zOk rfl rfl rfl rfl ?_
           refine WD.nil ?_
           refine AnyD.one 8 (by kernel_rfl) rfl ?_
           refine D.store tOk rfl rfl rfl rfl rfl rfl rfl rfl ?_
           refine WD.nil ?_
           exact AnyD.nil (by kernel_rfl) ⟨rfl, rfl, rfl, rfl, rfl, rfl, rfl, rfl, rfl, rfl, rfl, rfl, rfl, trivial⟩
          ·skip
           refine D.store tOk rfl rfl rfl rfl rfl rfl rfl rfl ?_
           refine WD.nil ?_
           refine AnyD.one 4 (by kernel_rfl) rfl ?_
           refine D.pure tOk zOk rfl rfl rfl rfl ?_
           refine WD.nil ?_
           refine AnyD.one 7 (by kernel_rfl) rfl ?_
           refine D.pure tOk zOk rfl rfl rfl rfl ?_
           refine WD.nil ?_
           refine AnyD.one 8 (by kernel_rfl) rfl ?_
           refine D.store tOk rfl rfl rfl rfl rfl rfl rfl rfl ?_
           refine WD.nil ?_
           exact AnyD.nil (by kernel_rfl) ⟨rfl, rfl, rfl, rfl, rfl, rfl, rfl, rfl, rfl, rfl, rfl, rfl, rfl, trivial⟩
         ·skip
          refine D.store tOk rfl rfl rfl rfl rfl rfl rfl rfl ?_
          refine WD.nil ?_
          refine AnyD.one 3 (by kernel_rfl) rfl ?_
          refine D.pureE tOk zOk rfl rfl (row_ok hki) (row_at Ver.z hki) rfl ?_
          refine WD.nil ?_
          refine AnyD.one 4 (by kernel_rfl) rfl ?_
          refine D.pure tOk zOk rfl rfl rfl rfl ?_
          refine WD.nil ?_
          refine AnyD.one 7 (by kernel_rfl) rfl ?_
          refine D.pure tOk zOk rfl rfl rfl rfl ?_
          refine WD.nil ?_
          refine AnyD.one 8 (by kernel_rfl) rfl ?_
          refine D.store tOk rfl rfl rfl rfl rfl rfl rfl rfl ?_
          refine WD.nil ?_
          exact AnyD.nil (by kernel_rfl) ⟨rfl, rfl, rfl, rfl, rfl, rfl, rfl, rfl, rfl, rfl, rfl, rfl, rfl, trivial⟩
        ·skip
         refine D.store tOk rfl rfl rfl rfl rfl rfl rfl rfl ?_
         refine WD.nil ?_
         refine AnyD.one 2 (by kernel_rfl) rfl ?_
         refine D.pureE tOk zOk rfl rfl rfl (dec_i64 (by have h := c3; simp at h ⊢; omega) (by omega)) rfl ?_
         refine WD.nil ?_
         refine AnyD.one 3 (by kernel_rfl) rfl ?_
         refine D.pureE tOk zOk rfl rfl (row_ok hki) (row_at Ver.z hki) rfl ?_
         refine WD.nil ?_
         refine AnyD.one 4 (by kernel_rfl) rfl ?_
         refine D.pure tOk zOk rfl rfl rfl rfl ?_
         refine WD.nil ?_
         refine AnyD.one 7 (by kernel_rfl) rfl ?_
         refine D.pure tOk zOk rfl rfl rfl rfl ?_
         refine WD.nil ?_
         refine AnyD.one 8 (by kernel_rfl) rfl ?_
         refine D.store tOk rfl rfl rfl rfl rfl rfl rfl rfl ?_
         refine WD.nil ?_
         exact AnyD.nil (by kernel_rfl) ⟨rfl, rfl, rfl, rfl, rfl, rfl, rfl, rfl, rfl, rfl, rfl, rfl, rfl, trivial⟩
       ·skip
        refine D.store tOk rfl rfl rfl rfl rfl rfl rfl rfl ?_
        refine WD.nil ?_
        refine AnyD.one 1 (by kernel_rfl) rfl ?_
        refine D.pure tOk zOk rfl rfl rfl rfl ?_
        refine WD.nil ?_
        refine AnyD.one 2 (by kernel_rfl) rfl ?_
        refine D.pureE tOk zOk rfl rfl rfl (dec_i64 (by have h := c3; simp at h ⊢; omega) (by omega)) rfl ?_
        refine WD.nil ?_
        refine AnyD.one 3 (by kernel_rfl) rfl ?_
        refine D.pureE tOk zOk rfl rfl (row_ok hki) (row_at Ver.z hki) rfl ?_
        refine WD.nil ?_
        refine AnyD.one 4 (by kernel_rfl) rfl ?_
        refine D.pure tOk zOk rfl rfl rfl rfl ?_
        refine WD.nil ?_
        refine AnyD.one 7 (by kernel_rfl) rfl ?_
        refine D.pure tOk zOk rfl rfl rfl rfl ?_
        refine WD.nil ?_
        refine AnyD.one 8 (by kernel_rfl) rfl ?_
        refine D.store tOk rfl rfl rfl rfl rfl rfl rfl rfl ?_
        refine WD.nil ?_
        exact AnyD.nil (by kernel_rfl) ⟨rfl, rfl, rfl, rfl, rfl, rfl, rfl, rfl, rfl, rfl, rfl, rfl, rfl, trivial⟩
      ·skip
       refine D.pure tOk zOk rfl rfl rfl rfl ?_
       refine WD.nil ?_
       refine AnyD.three 0 2 6 (by kernel_rfl) rfl rfl rfl ?_ ?_ ?_
       ·skip
        refine D.pure tOk zOk rfl rfl rfl rfl ?_
        refine WD.nil ?_
        refine AnyD.two 2 6 (by kernel_rfl) rfl rfl ?_ ?_
        ·skip
         refine D.pureE tOk zOk rfl rfl rfl (dec_i64 (by have h := c3; simp at h ⊢; omega) (by omega)) rfl ?_
         refine WD.nil ?_
         refine AnyD.two 3 6 (by kernel_rfl) rfl rfl ?_ ?_
         ·skip
          refine D.pureE tOk zOk rfl rfl (row_ok hki) (row_at Ver.z hki) rfl ?_
          refine WD.nil ?_
          refine AnyD.two 4 6 (by kernel_rfl) rfl rfl ?_ ?_
          ·skip
           refine D.pure tOk zOk rfl rfl rfl rfl ?_
           refine WD.nil ?_
           refine AnyD.one 6 (by kernel_rfl) rfl ?_
           refine D.store tOk rfl rfl rfl rfl rfl rfl rfl rfl ?_
           refine WD.nil ?_
           refine AnyD.one 7 (by kernel_rfl) rfl ?_
           refine D.pure tOk zOk rfl rfl rfl rfl ?_
           refine WD.nil ?_
           refine AnyD.one 8 (by kernel_rfl) rfl ?_
           refine D.store tOk rfl rfl rfl rfl rfl rfl rfl rfl ?_
           refine WD.nil ?_
           exact AnyD.nil (by kernel_rfl) ⟨rfl, rfl, rfl, rfl, rfl, rfl, rfl, rfl, rfl, rfl, rfl, rfl, rfl, trivial⟩
          ·skip
           refine D.store tOk rfl rfl rfl rfl rfl rfl rfl rfl ?_
           refine WD.nil ?_
           refine AnyD.one 4 (by kernel_rfl) rfl ?_
           refine D.pure tOk zOk rfl rfl rfl rfl ?_
           refine WD.nil ?_
           refine AnyD.one 7 (by kernel_rfl) rfl ?_
           refine D.pure tOk zOk rfl rfl rfl rfl ?_
           refine WD.nil ?_
           refine AnyD.one 8 (by kernel_rfl) rfl ?_
           refine D.store tOk rfl rfl rfl rfl rfl rfl rfl rfl ?_
           refine WD.nil ?_
           exact AnyD.nil (by kernel_rfl) ⟨rfl, rfl, rfl, rfl, rfl, rfl, rfl, rfl, rfl, rfl, rfl, rfl, rfl, trivial⟩
         ·skip
          refine D.store tOk rfl rfl rfl rfl rfl rfl rfl rfl ?_
          refine WD.nil ?_
          refine AnyD.one 3 (by kernel_rfl) rfl ?_
          refine D.pureE tOk zOk rfl rfl (row_ok hki) (row_at Ver.z hki) rfl ?_
          refine WD.nil ?_
          refine AnyD.one 4 (by kernel_rfl) rfl ?_
          refine D.pure tOk zOk rfl rfl rfl rfl ?_
          refine WD.nil ?_
          refine AnyD.one 7 (by kernel_rfl) rfl ?_
          refine D.pure tOk zOk rfl rfl rfl rfl ?_
          refine WD.nil ?_
          refine AnyD.one 8 (by kernel_rfl) rfl ?_
          refine D.store tOk rfl rfl rfl rfl rfl rfl rfl rfl ?_
          refine WD.nil ?_
          exact AnyD.nil (by kernel_rfl) ⟨rfl, rfl, rfl, rfl, rfl, rfl, rfl, rfl, rfl, rfl, rfl, rfl, rfl, trivial⟩
        ·skip
         refine D.store tOk rfl rfl rfl rfl rfl rfl rfl rfl ?_
         refine WD.nil ?_
         refine AnyD.one 2 (by kernel_rfl) rfl ?_
         refine D.pureE tOk zOk rfl rfl rfl (dec_i64 (by have h := c3; simp at h ⊢; omega) (by omega)) rfl ?_
         refine WD.nil ?_
         refine AnyD.one 3 (by kernel_rfl) rfl ?_
         refine D.pureE tOk zOk rfl rfl (row_ok hki) (row_at Ver.z hki) rfl ?_
         refine WD.nil ?_
         refine AnyD.one 4 (by kernel_rfl) rfl ?_
         refine D.pure tOk zOk rfl rfl rfl rfl ?_
         refine WD.nil ?_
         refine AnyD.one 7 (by kernel_rfl) rfl ?_
         refine D.pure tOk zOk rfl rfl rfl rfl ?_
         refine WD.nil ?_
         refine AnyD.one 8 (by kernel_rfl) rfl ?_
         refine D.store tOk rfl rfl rfl rfl rfl rfl rfl rfl ?_
         refine WD.nil ?_
         exact AnyD.nil (by kernel_rfl) ⟨rfl, rfl, rfl, rfl, rfl, rfl, rfl, rfl, rfl, rfl, rfl, rfl, rfl, trivial⟩
       ·skip
        refine D.pureE tOk zOk rfl rfl rfl (dec_i64 (by have h := c3; simp at h ⊢; omega) (by omega)) rfl ?_
        refine WD.nil ?_
        refine AnyD.two 0 6 (by kernel_rfl) rfl rfl ?_ ?_
        ·skip
         refine D.pure tOk zOk rfl rfl rfl rfl ?_
         refine WD.nil ?_
         refine AnyD.two 3 6 (by kernel_rfl) rfl rfl ?_ ?_
         ·skip
          refine D.pureE tOk zOk rfl rfl (row_ok hki) (row_at Ver.z hki) rfl ?_
          refine WD.nil ?_
          refine AnyD.two 4 6 (by kernel_rfl) rfl rfl ?_ ?_
          ·skip
           refine D.pure tOk zOk rfl rfl rfl rfl ?_
           refine WD.nil ?_
           refine AnyD.one 6 (by kernel_rfl) rfl ?_
           refine D.store tOk rfl rfl rfl rfl rfl rfl rfl rfl ?_
           refine WD.nil ?_
           refine AnyD.one 7 (by kernel_rfl) rfl ?_
           refine D.pure tOk zOk rfl rfl rfl rfl ?_
           refine WD.nil ?_
           refine AnyD.one 8 (by kernel_rfl) rfl ?_
           refine D.store tOk rfl rfl rfl rfl rfl rfl rfl rfl ?_
           refine WD.nil ?_
           exact AnyD.nil (by kernel_rfl) ⟨rfl, rfl, rfl, rfl, rfl, rfl, rfl, rfl, rfl, rfl, rfl, rfl, rfl, trivial⟩
          ·skip
           refine D.store tOk rfl rfl rfl rfl rfl rfl rfl rfl ?_
           refine WD.nil ?_
           refine AnyD.one 4 (by kernel_rfl) rfl ?_
           refine D.pure tOk zOk rfl rfl rfl rfl ?_
           refine WD.nil ?_
           refine AnyD.one 7 (by kernel_rfl) rfl ?_
           refine D.pure tOk zOk rfl rfl rfl rfl ?_
           refine WD.nil ?_
           refine AnyD.one 8 (by kernel_rfl) rfl ?_
           refine D.store tOk rfl rfl rfl rfl rfl rfl rfl rfl ?_
           refine WD.nil ?_
           exact AnyD.nil (by kernel_rfl) ⟨rfl, rfl, rfl, rfl, rfl, rfl, rfl, rfl, rfl, rfl, rfl, rfl, rfl, trivial⟩
         ·skip
          refine D.store tOk rfl rfl rfl rfl rfl rfl rfl rfl ?_
          refine WD.nil ?_
          refine AnyD.one 3 (by kernel_rfl) rfl ?_
          refine D.pureE tOk zOk rfl rfl (row_ok hki) (row_at Ver.z hki) rfl ?_
          refine WD.nil ?_
          refine AnyD.one 4 (by kernel_rfl) rfl ?_
          refine D.pure tOk zOk rfl rfl rfl rfl ?_
          refine WD.nil ?_
          refine AnyD.one 7 (by kernel_rfl) rfl ?_
          refine D.pure tOk zOk rfl rfl rfl rfl ?_
          refine WD.nil ?_
          refine AnyD.one 8 (by kernel_rfl) rfl ?_
          refine D.store tOk rfl rfl rfl rfl rfl rfl rfl rfl ?_
          refine WD.nil ?_
          exact AnyD.nil (by kernel_rfl) ⟨rfl, rfl, rfl, rfl, rfl, rfl, rfl, rfl, rfl, rfl, rfl, rfl, rfl, trivial⟩
        ·skip
         refine D.store tOk rfl rfl rfl rfl rfl rfl rfl rfl ?_
         refine WD.nil ?_
         refine AnyD.one 0 (by kernel_rfl) rfl ?_
         refine D.pure tOk zOk rfl rfl rfl rfl ?_
         refine WD.nil ?_
         refine AnyD.one 3 (by kernel_rfl) rfl ?_
         refine D.pureE tOk zOk rfl rfl (row_ok hki) (row_at Ver.z hki) rfl ?_
         refine WD.nil ?_
         refine AnyD.one 4 (by kernel_rfl) rfl ?_
         refine D.pure tOk zOk rfl rfl rfl rfl ?_
         refine WD.nil ?_
         refine AnyD.one 7 (by kernel_rfl) rfl ?_
         refine D.pure tOk zOk rfl rfl rfl rfl ?_
         refine WD.nil ?_
         refine AnyD.one 8 (by kernel_rfl) rfl ?_
         refine D.store tOk rfl rfl rfl rfl rfl rfl rfl rfl ?_
         refine WD.nil ?_
         exact AnyD.nil (by kernel_rfl) ⟨rfl, rfl, rfl, rfl, rfl, rfl, rfl, rfl, rfl, rfl, rfl, rfl, rfl, trivial⟩
       ·skip
        refine D.store tOk rfl rfl rfl rfl rfl rfl rfl rfl ?_
        refine WD.nil ?_
        refine AnyD.two 0 2 (by kernel_rfl) rfl rfl ?_ ?_
        ·skip
         refine D.pure tOk zOk rfl rfl rfl rfl ?_
         refine WD.nil ?_
         refine AnyD.one 2 (by kernel_rfl) rfl ?_
         refine D.pureE tOk zOk rfl rfl rfl (dec_i64 (by have h := c3; simp at h ⊢; omega) (by omega)) rfl ?_
         refine WD.nil ?_
         refine AnyD.one 3 (by kernel_rfl) rfl ?_
         refine D.pureE tOk zOk rfl rfl (row_ok hki) (row_at Ver.z hki) rfl ?_
         refine WD.nil ?_
         refine AnyD.one 4 (by kernel_rfl) rfl ?_
         refine D.pure tOk zOk rfl rfl rfl rfl ?_
         refine WD.nil ?_
         refine AnyD.one 7 (by kernel_rfl) rfl ?_
         refine D.pure tOk zOk rfl rfl rfl rfl ?_
         refine WD.nil ?_
         refine AnyD.one 8 (by kernel_rfl) rfl ?_
         refine D.store tOk rfl rfl rfl rfl rfl rfl rfl rfl ?_
         refine WD.nil ?_
         exact AnyD.nil (by kernel_rfl) ⟨rfl, rfl, rfl, rfl, rfl, rfl, rfl, rfl, rfl, rfl, rfl, rfl, rfl, trivial⟩
        ·skip
         refine D.pureE tOk zOk rfl rfl rfl (dec_i64 (by have h := c3; simp at h ⊢; omega) (by omega)) rfl ?_
         refine WD.nil ?_
         refine AnyD.one 0 (by kernel_rfl) rfl ?_
         refine D.pure tOk zOk rfl rfl rfl rfl ?_
         refine WD.nil ?_
         refine AnyD.one 3 (by kernel_rfl) rfl ?_
         refine D.pureE tOk zOk rfl rfl (row_ok hki) (row_at Ver.z hki) rfl ?_
         refine WD.nil ?_
         refine AnyD.one 4 (by kernel_rfl) rfl ?_
         refine D.pure tOk zOk rfl rfl rfl rfl ?_
         refine WD.nil ?_
         refine AnyD.one 7 (by kernel_rfl) rfl ?_
         refine D.pure tOk zOk rfl rfl rfl rfl ?_
         refine WD.nil ?_
         refine AnyD.one 8 (by kernel_rfl) rfl ?_
         refine D.store tOk rfl rfl rfl rfl rfl rfl rfl rfl ?_
         refine WD.nil ?_
         exact AnyD.nil (by kernel_rfl) ⟨rfl, rfl, rfl, rfl, rfl, rfl, rfl, rfl, rfl, rfl, rfl, rfl, rfl, trivial⟩
      ·skip
       refine D.store tOk rfl rfl rfl rfl rfl rfl rfl rfl ?_
       refine WD.nil ?_
       refine AnyD.two 0 1 (by kernel_rfl) rfl rfl ?_ ?_
       ·skip
        refine D.pure tOk zOk rfl rfl rfl rfl ?_
        refine WD.nil ?_
        refine AnyD.one 1 (by kernel_rfl) rfl ?_
        refine D.pure tOk zOk rfl rfl rfl rfl ?_
        refine WD.nil ?_
        refine AnyD.one 2 (by kernel_rfl) rfl ?_
        refine D.pureE tOk zOk rfl rfl rfl (dec_i64 (by have h := c3; simp at h ⊢; omega) (by omega)) rfl ?_
        refine WD.nil ?_
        refine AnyD.one 3 (by kernel_rfl) rfl ?_
        refine D.pureE tOk zOk rfl rfl (row_ok hki) (row_at Ver.z hki) rfl ?_
        refine WD.nil ?_
        refine AnyD.one 4 (by kernel_rfl) rfl ?_
        refine D.pure tOk zOk rfl rfl rfl rfl ?_
        refine WD.nil ?_
        refine AnyD.one 7 (by kernel_rfl) rfl ?_
        refine D.pure tOk zOk rfl rfl rfl rfl ?_
        refine WD.nil ?_
        refine AnyD.one 8 (by kernel_rfl) rfl ?_
        refine D.store tOk rfl rfl rfl rfl rfl rfl rfl rfl ?_
        refine WD.nil ?_
        exact AnyD.nil (by kernel_rfl) ⟨rfl, rfl, rfl, rfl, rfl, rfl, rfl, rfl, rfl, rfl, rfl, rfl, rfl, trivial⟩
       ·skip
        refine D.pure tOk zOk rfl rfl rfl rfl ?_
        refine WD.nil ?_
        refine AnyD.two 0 2 (by kernel_rfl) rfl rfl ?_ ?_
        ·skip
         refine D.pure tOk zOk rfl rfl rfl rfl ?_
         refine WD.nil ?_
         refine AnyD.one 2 (by kernel_rfl) rfl ?_
         refine D.pureE tOk zOk rfl rfl rfl (dec_i64 (by have h := c3; simp at h ⊢; omega) (by omega)) rfl ?_
         refine WD.nil ?_
         refine AnyD.one 3 (by kernel_rfl) rfl ?_
         refine D.pureE tOk zOk rfl rfl (row_ok hki) (row_at Ver.z hki) rfl ?_
         refine WD.nil ?_
         refine AnyD.one 4 (by kernel_rfl) rfl ?_
         refine D.pure tOk zOk rfl rfl rfl rfl ?_
         refine WD.nil ?_
         refine AnyD.one 7 (by kernel_rfl) rfl ?_
         refine D.pure tOk zOk rfl rfl rfl rfl ?_
         refine WD.nil ?_
         refine AnyD.one 8 (by kernel_rfl) rfl ?_
         refine D.store tOk rfl rfl rfl rfl rfl rfl rfl rfl ?_
         refine WD.nil ?_
         exact AnyD.nil (by kernel_rfl) ⟨rfl, rfl, rfl, rfl, rfl, rfl, rfl, rfl, rfl, rfl, rfl, rfl, rfl, trivial⟩
        ·skip
         refine D.pureE tOk zOk rfl rfl rfl (dec_i64 (by have h := c3; simp at h ⊢; omega) (by omega)) rfl ?_
         refine WD.nil ?_
         refine AnyD.one 0 (by kernel_rfl) rfl ?_
         refine D.pure tOk zOk rfl rfl rfl rfl ?_
         refine WD.nil ?_
         refine AnyD.one 3 (by kernel_rfl) rfl ?_
         refine D.pureE tOk zOk rfl rfl (row_ok hki) (row_at Ver.z hki) rfl ?_
         refine WD.nil ?_
         refine AnyD.one 4 (by kernel_rfl) rfl ?_
         refine D.pure tOk zOk rfl rfl rfl rfl ?_
         refine WD.nil ?_
         refine AnyD.one 7 (by kernel_rfl) rfl ?_
         refine D.pure tOk zOk rfl rfl rfl rfl ?_
         refine WD.nil ?_
         refine AnyD.one 8 (by kernel_rfl) rfl ?_
         refine D.store tOk rfl rfl rfl rfl rfl rfl rfl rfl ?_
         refine WD.nil ?_
         exact AnyD.nil (by kernel_rfl) ⟨rfl, rfl, rfl, rfl, rfl, rfl, rfl, rfl, rfl, rfl, rfl, rfl, rfl, trivial⟩
    rintro tb0 _ ⟨rfl, hb0⟩
    refine thenK_n ?_
    refine W.keep _ hb0 ?_
    refine W.region ?_
    refine S.pure tOk zOk rfl rfl rfl ?_
    refine S.pure tOk zOk rfl rfl rfl ?_
    refine S.pure tOk zOk rfl rfl rfl ?_
    refine S.slice tOk rfl rfl ?_
    refine S.append tOk rfl rfl rfl rfl rfl rfl rfl rfl rfl rfl rfl rfl (by show _ + 1 ≤ _; rw [List.length_map]; omega) rfl (com_a c2 c3) rfl ?_
    refine S.pure tOk zOk rfl rfl rfl ?_
    refine S.store tOk rfl rfl rfl rfl rfl rfl rfl rfl ?_
    refine thenK_n ?_
    refine W.seq ?_
    refine W.seq ?_
    refine W.region ?_
    refine S.pure tOk zOk rfl rfl rfl ?_
    refine S.pure tOk zOk rfl rfl rfl ?_
    refine S.pure tOk zOk rfl rfl rfl ?_
    refine S.pureG tOk zOk rfl rfl (by repeat first | exact allT_nil | refine allT_cons (fun h => h) ?_ | refine allT_cons (fun h => andl h) ?_ | refine allT_cons (fun h => andl (andl h)) ?_ | refine allT_cons (fun _ => rfl) ?_) (fun _ => rfl) rfl ?_
    refine S.pickAnd tOk zOk rfl rfl (by repeat first | exact allT_nil | refine allT_cons (fun h => h) ?_ | refine allT_cons (fun h => andl h) ?_ | refine allT_cons (fun h => andl (andl h)) ?_ | refine allT_cons (fun _ => rfl) ?_) ?_
    refine thenK_n ?_
    refine W.cond rfl (fun c4 => ?_) (fun c4 => ?_)
    · exact absurd c4 (com_no c2)
    ·skip
     refine W.skip ?_
     refine thenK_n ?_
     refine W.region ?_
     refine S.pure tOk zOk rfl rfl rfl ?_
     refine S.pure tOk zOk rfl rfl rfl ?_
     refine blockK_n ?_
     refine thenK_n ?_
     refine W.region ?_
     refine S.pure tOk zOk rfl rfl rfl ?_
     refine S.pure tOk zOk rfl rfl rfl ?_
     first | rw [show ((r ++ [s]).map spD).length = ((comTo (segE ys zs) (bothF ys zs (segE ys zs)) (k1 + 1)).2.map spD).length from by rw [e2]; simp] | skip
     refine loop_n ((segE ys zs).length + 1 - (k1 + 1)) (by omega) ⟨k1 + 1, _, _, hk, rfl, _, _, _, _, rfl, rfl, rfl, rfl, rfl, rfl, rfl, rfl, rfl, inc_i64 (by omega), trivial⟩
   ·skip
    refine W.skip ?_
    refine thenK_n ?_
    refine W.region ?_
    refine S.pure tOk zOk rfl rfl rfl ?_
    refine S.pure tOk zOk rfl rfl rfl ?_
    refine S.pure tOk zOk rfl rfl rfl ?_
    refine S.slice tOk rfl rfl ?_
    refine S.append tOk rfl rfl rfl rfl rfl rfl rfl rfl rfl rfl rfl rfl (by show _ + 1 ≤ _; rw [List.length_map]; omega) rfl (com_b c2 c3) rfl ?_
    refine S.pure tOk zOk rfl rfl rfl ?_
    refine S.store tOk rfl rfl rfl rfl rfl rfl rfl rfl ?_
    refine thenK_n ?_
    refine W.seq ?_
    refine W.seq ?_
    refine W.region ?_
    refine S.pure tOk zOk rfl rfl rfl ?_
    refine S.pure tOk zOk rfl rfl rfl ?_
    refine S.pure tOk zOk rfl rfl rfl ?_
    refine S.pureG tOk zOk rfl rfl (by repeat first | exact allT_nil | refine allT_cons (fun h => h) ?_ | refine allT_cons (fun h => andl h) ?_ | refine allT_cons (fun h => andl (andl h)) ?_ | refine allT_cons (fun _ => rfl) ?_) (fun _ => rfl) rfl ?_
    refine S.pickAnd tOk zOk rfl rfl (by repeat first | exact allT_nil | refine allT_cons (fun h => h) ?_ | refine allT_cons (fun h => andl h) ?_ | refine allT_cons (fun h => andl (andl h)) ?_ | refine allT_cons (fun _ => rfl) ?_) ?_
    refine thenK_n ?_
    refine W.cond rfl (fun c5 => ?_) (fun c5 => ?_)
    · exact absurd c5 (com_no c2)
    ·skip
     refine W.skip ?_
     refine thenK_n ?_
     refine W.region ?_
     refine S.pure tOk zOk rfl rfl rfl ?_
     refine S.pure tOk zOk rfl rfl rfl ?_
     refine blockK_n ?_
     refine thenK_n ?_
     refine W.region ?_
     refine S.pure tOk zOk rfl rfl rfl ?_
     refine S.pure tOk zOk rfl rfl rfl ?_
     first | rw [show ((r ++ [s]).map spD).length = ((comTo (segE ys zs) (bothF ys zs (segE ys zs)) (k1 + 1)).2.map spD).length from by rw [e2]; simp] | skip
     refine loop_n ((segE ys zs).length + 1 - (k1 + 1)) (by omega) ⟨k1 + 1, _, _, hk, rfl, _, _, _, _, rfl, rfl, rfl, rfl, rfl, rfl, rfl, rfl, rfl, inc_i64 (by omega), trivial⟩
  ·skip
   have c2 : ((bothF ys zs (segE ys zs)) k1 && !(comTo (segE ys zs) (bothF ys zs (segE ys zs)) k1).1) = false := c2
   refine W.skip ?_
   refine thenK_n ?_
   refine W.seq ?_
   refine W.seq ?_
   refine W.region ?_
   refine S.pure tOk zOk rfl rfl rfl ?_
   refine S.pure tOk zOk rfl rfl rfl ?_
   refine S.pure tOk zOk rfl rfl rfl ?_
   refine S.pureG tOk zOk rfl rfl (by repeat first | exact allT_nil | refine allT_cons (fun h => h) ?_ | refine allT_cons (fun h => andl h) ?_ | refine allT_cons (fun h => andl (andl h)) ?_ | refine allT_cons (fun _ => rfl) ?_) (fun _ => rfl) rfl ?_
   refine S.pickAnd tOk zOk rfl rfl (by repeat first | exact allT_nil | refine allT_cons (fun h => h) ?_ | refine allT_cons (fun h => andl h) ?_ | refine allT_cons (fun h => andl (andl h)) ?_ | refine allT_cons (fun _ => rfl) ?_) ?_
   refine thenK_n ?_
   refine W.cond rfl (fun c6 => ?_) (fun c6 => ?_)
   ·skip
    have c6 : (!(bothF ys zs (segE ys zs)) k1 && (comTo (segE ys zs) (bothF ys zs (segE ys zs)) k1).1) = true := c6
    obtain ⟨r, s, hrs, h1k⟩ := com_open c6
    have e2 := com_2 c2 c6
    rw [hrs, closeL_snoc] at e2
    rw [hrs]
    have hki : k1 - 1 < (segE ys zs).length := by omega
    refine W.seq ?_
    refine W.region ?_
    refine S.pure tOk zOk rfl rfl rfl ?_
    refine S.pure tOk zOk rfl rfl rfl ?_
    refine S.pure tOk zOk rfl rfl rfl ?_
    refine S.pure tOk zOk rfl rfl rfl ?_
    refine S.pure tOk zOk rfl rfl rfl ?_
    refine S.pureE tOk zOk rfl rfl (dec_len (by rw [← hrs]; omega) (by simp)) rfl ?_
    refine S.pure tOk zOk rfl (lastS_ok) rfl ?_
    refine S.pure tOk zOk rfl rfl rfl ?_
    refine thenK_n ?_
    refine W.region ?_
    refine S.pure tOk zOk rfl rfl rfl ?_
    refine S.pure tOk zOk rfl rfl rfl ?_
    refine S.pure tOk zOk rfl rfl rfl ?_
    refine S.pure tOk zOk rfl rfl rfl ?_
    refine S.pureE tOk zOk rfl rfl (dec_i64 (by simp; omega) (by omega)) rfl ?_
    refine S.pureE tOk zOk rfl (row_ok hki) (row_at Ver.z hki) rfl ?_
    refine S.pure tOk zOk rfl rfl rfl ?_
    refine S.pure tOk zOk rfl rfl rfl ?_
    refine S.pure tOk zOk rfl rfl rfl ?_
    refine S.rstore tOk rfl rfl rfl rfl rfl rfl rfl (last_set1) rfl ?_
    refine S.pure tOk zOk rfl rfl rfl ?_
    refine S.pure tOk zOk rfl rfl rfl ?_
    refine S.rstore tOk rfl rfl rfl rfl rfl rfl rfl (last_set2.trans (congrArg (List.map spD) e2.symm)) rfl ?_
    refine thenK_n ?_
    refine W.region ?_
    refine S.pure tOk zOk rfl rfl rfl ?_
    refine S.pure tOk zOk rfl rfl rfl ?_
    refine blockK_n ?_
    refine thenK_n ?_
    refine W.region ?_
    refine S.pure tOk zOk rfl rfl rfl ?_
    refine S.pure tOk zOk rfl rfl rfl ?_
    first | rw [show ((r ++ [s]).map spD).length = ((comTo (segE ys zs) (bothF ys zs (segE ys zs)) (k1 + 1)).2.map spD).length from by rw [e2]; simp] | skip
    refine loop_n ((segE ys zs).length + 1 - (k1 + 1)) (by omega) ⟨k1 + 1, _, _, hk, rfl, _, _, _, _, rfl, rfl, rfl, rfl, rfl, rfl, rfl, rfl, rfl, inc_i64 (by omega), trivial⟩
   ·skip
    have c6 : (!(bothF ys zs (segE ys zs)) k1 && (comTo (segE ys zs) (bothF ys zs (segE ys zs)) k1).1) = false := c6
    rw [com_3 c2 c6]
    refine W.skip ?_
    refine thenK_n ?_
    refine W.region ?_
    refine S.pure tOk zOk rfl rfl rfl ?_
    refine S.pure tOk zOk rfl rfl rfl ?_
    refine blockK_n ?_
    refine thenK_n ?_
    refine W.region ?_
    refine S.pure tOk zOk rfl rfl rfl ?_
    refine S.pure tOk zOk rfl rfl rfl ?_
    first | rw [show ((r ++ [s]).map spD).length = ((comTo (segE ys zs) (bothF ys zs (segE ys zs)) (k1 + 1)).2.map spD).length from by rw [e2]; simp] | skip
    refine loop_n ((segE ys zs).length + 1 - (k1 + 1)) (by omega) ⟨k1 + 1, _, _, hk, rfl, _, _, _, _, rfl, rfl, rfl, rfl, rfl, rfl, rfl, rfl, rfl, inc_i64 (by omega), trivial⟩
 ·skip
  have hk : k1 = (segE ys zs).length + 1 := by have h := row_ge c1; rw [inQ_len] at h; omega
  subst hk
  refine W.exit ?_
  refine thenK_e ?_
  refine thenK_e ?_
  refine blockK_x ?_
  refine thenK_n ?_
  refine W.seq ?_
  refine W.freezeB (ri := 0) (q := ⟨_, _, _, _, _⟩) 3 0 rfl rfl rfl rfl ?_
  refine W.region ?_
  refine S.pure tOk zOk rfl rfl rfl ?_
  refine S.store tOk rfl rfl rfl rfl rfl rfl rfl rfl ?_
  refine thenK_n ?_
  refine W.ret ?_
  exact ⟨_, rfl, rfl, LeV.refl _⟩
end Go.Proofs.YtnphejkeflngcaaGreatDoor

set_option linter.unusedVariables false
set_option linter.unusedSimpArgs false
set_option maxRecDepth 100000
set_option maxHeartbeats 4000000
namespace Go.Proofs.YtnphejkeflngcaaGreatDoor
open Go
open Go.RowKit
/-- The error of a range and versions, one after the other. -/
def wantH (ys : List Sp) (v : Ver) : Int := firstNe [rangeE ys, firstNe [v.check]]
def wantG (ys : List Sp) (l : List Ver) : Int := firstNe [rangeE ys, (if decide (((l.map verD).length : Int) > 1000) then 4 else 0), firstNe (l.map Ver.check)]
theorem first_2 (a b : Int) : firstNe [a, b] = if a != 0 then a else b := first2 a b
theorem first_3 (a b c : Int) : firstNe [a, b, c] = if a != 0 then a else if b != 0 then b else c := by
  rw [firstNe_cons, first2]; rfl
theorem ne_f {a : Int} (h : (a != 0) = false) : a = 0 := by simpa using h
theorem law_has1 (ys : List Sp) (v : Ver) : (HasB ys v).2 = wantH ys v := by
  unfold HasB wantH
  rw [first1, first_2]
  cases h : (rangeE ys != 0)
  · simp only [Bool.false_eq_true, if_false]
    cases h2 : (v.check != 0)
    · simp only [Bool.false_eq_true, if_false]; exact (ne_f h2).symm
    · simp only [if_true]
  · simp only [if_true]
theorem law_has2 {ys : List Sp} {v : Ver} (h0 : (wantH ys v == 0) = false) : (HasB ys v).1 = false := by
  unfold wantH at h0
  rw [first1, first_2] at h0
  unfold HasB
  cases h : (rangeE ys != 0)
  · rw [h, if_neg (by simp)] at h0
    rw [if_neg (by simp), if_pos (by rw [bne, h0]; rfl)]
  · rw [if_pos rfl]
theorem law_has3 {ys : List Sp} {v : Ver} (h0 : (wantH ys v == 0) = true) : (HasB ys v).1 = hasR ys v := by
  unfold wantH at h0
  rw [first1, first_2] at h0
  cases h : (rangeE ys != 0)
  · rw [h, if_neg (by simp)] at h0
    have hr := ne_f h
    have hv : v.check = 0 := by simpa using h0
    unfold HasB
    rw [if_neg (by simp [hr]), if_neg (by simp [hv])]
    exact has_eq hr hv
  · rw [h, if_pos rfl] at h0
    rw [bne, h0] at h; cases h
theorem law_has (ys : List Sp) (v : Ver) (X : Bool) (hX : X = false) : (((((X || rangeE ys != rangeE ys) || (HasB ys v).2 != wantH ys v) || (wantH ys v != 0 && (HasB ys v).1)) || (wantH ys v == 0 && (HasB ys v).1 != hasR ys v))) = false := by
  subst hX
  rw [law_has1]
  cases h : (wantH ys v == 0)
  · rw [law_has2 h]; simp
  · have h2 : (wantH ys v != 0) = false := by simp at h ⊢; exact h
    rw [law_has3 h, h2]; simp
def bothE (ys zs : List Sp) : Int := firstNe [rangeE ys, rangeE zs]
theorem law_err {ys zs : List Sp} (h : (bothE ys zs != 0) = true) : CommonB ys zs = ([], bothE ys zs) ∧ WithinB ys zs = (false, bothE ys zs) := ⟨cB_err h, wB_err h⟩
theorem both_0 {ys zs : List Sp} (h : (bothE ys zs != 0) = false) : rangeE ys = 0 ∧ rangeE zs = 0 := firstR_2 h
def comR (ys zs : List Sp) : List Sp := (comTo (segE ys zs) (bothF ys zs (segE ys zs)) ((segE ys zs).length + 1)).2
def witR (ys zs : List Sp) : Bool := !((inQ ys zs (segE ys zs) ((segE ys zs).length + 1)).any (fun p : Bool × Bool => true == p.1 && false == p.2))
theorem com_law {ys zs : List Sp} (h : (bothE ys zs != 0) = false) : comR ys zs = pairs ys zs := by
  obtain ⟨ha, hb⟩ := both_0 h
  unfold comR
  rw [bothF_eq]
  exact common_eq ha hb (segE_ok ha hb)
theorem wit_law {ys zs : List Sp} (h : (bothE ys zs != 0) = false) : WithinB ys zs = (witR ys zs, 0) := by
  obtain ⟨ha, hb⟩ := both_0 h
  rw [wB_ok h, within_eq ha hb (segE_ok ha hb)]
  unfold witR inQ
  rw [List.any_map]
  congr 2
  refine any_congr' fun k _ => ?_
  show _ = (true == ys.any (pieceF _ k) && false == zs.any (pieceF _ k))
  rw [pieceF_any, pieceF_any]
  cases pieceR (segE ys zs) ys k <;> cases pieceR (segE ys zs) zs k <;> rfl
theorem com_big {ys zs : List Sp} (h : (bothE ys zs != 0) = false) (h2 : decide (((comR ys zs).length : Int) > 10) = true) : CommonB ys zs = ([], 4) := by
  rw [com_law h] at h2; exact cB_large h h2
theorem com_fit {ys zs : List Sp} (h : (bothE ys zs != 0) = false) (h2 : decide (((comR ys zs).length : Int) > 10) = false) : CommonB ys zs = (comR ys zs, 0) := by
  have h3 := h2
  rw [com_law h] at h3
  rw [com_law h]; exact cB_ok h h3
/-- The greatest version. -/
theorem great_err {ys : List Sp} {l : List Ver} (h : (wantG ys l == 0) = false) : GreatestB ys l = (0, wantG ys l) := by
  unfold wantG at h ⊢
  rw [first_3] at h ⊢
  cases h1 : (rangeE ys != 0)
  · rw [h1, if_neg (by simp)] at h
    rw [if_neg (by simp)]
    cases h2 : decide (((l.map verD).length : Int) > 1000)
    · rw [h2, if_neg (by simp)] at h
      rw [if_neg (by simp)]
      exact gB_3 h1 (by rw [List.length_map] at h2; exact h2) rfl (by rw [bne, h]; rfl)
    · rw [if_pos rfl, if_pos (by decide)]
      exact gB_2 h1 (by rw [List.length_map] at h2; exact h2)
  · rw [if_pos rfl]; exact gB_1 h1
theorem great_ok {ys : List Sp} {l : List Ver} (h : (wantG ys l == 0) = true) : rangeE ys = 0 ∧ (∀ v ∈ l, v.check = 0) ∧ GreatestB ys l = if decide (bestTo ys l l.length < 0) then (0, 10) else (bestTo ys l l.length, 0) := by
  unfold wantG at h
  rw [first_3] at h
  cases h1 : (rangeE ys != 0)
  · rw [h1, if_neg (by simp)] at h
    cases h2 : decide (((l.map verD).length : Int) > 1000)
    · rw [h2, if_neg (by simp)] at h
      have h0 : firstNe (l.map Ver.check) = 0 := by simpa using h
      refine ⟨ne_f h1, fun v hv => firstNe_zero h0 _ (List.mem_map.2 ⟨v, hv, rfl⟩), ?_⟩
      have h3 : decide ((l.length : Int) > 1000) = false := by rw [List.length_map] at h2; exact h2
      cases h4 : decide (bestTo ys l l.length < 0)
      · rw [if_neg (by simp)]; exact gB_5 h1 h3 h0 h4
      · rw [if_pos rfl]; exact gB_4 h1 h3 h0 h4
    · rw [h2, if_pos rfl, if_pos (by decide)] at h; cases h
  · rw [h1, if_pos rfl] at h
    rw [bne, h] at h1; cases h1
def tryB (ys : List Sp) (l : List Ver) (i : Nat) : Bool := hasR ys (l.getD i Ver.z) && (decide (bestTo ys l i < 0) || decide (compareR (l.getD i Ver.z) (l.getD (bestTo ys l i).toNat Ver.z) > 0))
theorem try_eq {ys : List Sp} {l : List Ver} (hr : rangeE ys = 0) (hv : ∀ v ∈ l, v.check = 0) {i : Nat} (hi : i < l.length) :
    tryB ys l i = (hasB ys (l.getD i Ver.z) && (decide (bestTo ys l i < 0) || decide (orderB (l.getD i Ver.z) (l.getD (bestTo ys l i).toNat Ver.z) > 0))) := by
  have h1 := hv _ (mem_at (d := Ver.z) hi)
  have h2 := hv _ (mem_at (d := Ver.z) (best_lt (ss := ys) hi))
  unfold tryB
  rw [has_eq hr h1, compare_eq h1 h2]
theorem try_t {ys : List Sp} {l : List Ver} (hr : rangeE ys = 0) (hv : ∀ v ∈ l, v.check = 0) {i : Nat} (hi : i < l.length) (c : tryB ys l i = true) : V.one (.d (.int .i64 (i : Int))) = V.one (.d (.int .i64 (bestTo ys l (i + 1)))) := best_t (by rw [← try_eq hr hv hi]; exact c)
theorem try_f {ys : List Sp} {l : List Ver} (hr : rangeE ys = 0) (hv : ∀ v ∈ l, v.check = 0) {i : Nat} (hi : i < l.length) (c : tryB ys l i = false) : V.one (.d (.int .i64 (bestTo ys l i))) = V.one (.d (.int .i64 (bestTo ys l (i + 1)))) := best_f (by rw [← try_eq hr hv hi]; exact c)
theorem great_end1 {ys : List Sp} {l : List Ver} (h : (wantG ys l == 0) = false) (b : Int) : ((GreatestB ys l).2 == wantG ys l && ((wantG ys l != 0 && (GreatestB ys l).1 == 0) || (wantG ys l == 0 && (GreatestB ys l).1 == b))) = true := by
  rw [great_err h, bne, h]; simp
theorem great_end2 {ys : List Sp} {l : List Ver} (h : (wantG ys l == 0) = true) : ((GreatestB ys l).2 == (if decide (bestTo ys l l.length < 0) then 10 else 0) && (((if decide (bestTo ys l l.length < 0) then (10 : Int) else 0) != 0 && (GreatestB ys l).1 == 0) || ((if decide (bestTo ys l l.length < 0) then (10 : Int) else 0) == 0 && (GreatestB ys l).1 == bestTo ys l l.length))) = true := by
  rw [(great_ok h).2.2]
  cases decide (bestTo ys l l.length < 0) <;> simp
theorem loc_len {ys zs : List Sp} (h : (bothE ys zs != 0) = false) : (comR ys zs).length ≤ 100 := by
  obtain ⟨ha, hb⟩ := both_0 h
  rw [com_law h]
  have h1 := pairs_len zs ys
  have h2 := range_10 ha
  have h3 := range_10 hb
  exact Nat.le_trans h1 (Nat.le_trans (Nat.mul_le_mul h2 h3) (by omega))
theorem com_cl {ys zs : List Sp} (h : (bothE ys zs != 0) = false) : (CommonB ys zs).1.length ≤ 1000000000 := by
  cases hx : decide (((comR ys zs).length : Int) > 10)
  · rw [com_fit h hx]; have := loc_len h; simp only; omega
  · rw [com_big h hx]; simp
theorem law_com {ys zs : List Sp} (h : (bothE ys zs != 0) = false) :
    ¬ (((decide ((((comR ys zs).map spD).length : Int) > 10) && (decide ((((CommonB ys zs).1.map spD).length : Int) > 0) || (CommonB ys zs).2 != 4)) || (decide ((((comR ys zs).map spD).length : Int) ≤ 10) && ((CommonB ys zs).2 != 0 || !decide ((CommonB ys zs).1 = comR ys zs)))) = true) := by
  rw [List.length_map]
  cases hx : decide (((comR ys zs).length : Int) > 10)
  · rw [com_fit h hx]; simp
  · rw [com_big h hx]
    have h2 : decide (((comR ys zs).length : Int) ≤ 10) = false := by simp at hx ⊢; omega
    rw [h2]; simp
end Go.Proofs.YtnphejkeflngcaaGreatDoor

set_option linter.unusedVariables false
set_option linter.unusedSimpArgs false
set_option maxRecDepth 100000
set_option maxHeartbeats 4000000
namespace Go.Proofs.YtnphejkeflngcaaGreatDoor
open Go
open Go.RowKit
attribute [local irreducible] rangeE orderB compareR Lib.split segE hasR hasB HasB CommonB WithinB GreatestB bestTo inQ comTo pairs firstNe firstR Ver.check
theorem pc_outlaw2_RangesMatch (ys zs : List Sp) (v : Ver) (l : List Ver) (la : ys.length ≤ 2000000) (lb : zs.length ≤ 2000000) (hsa : ∀ s ∈ ys, SpLen s) (hsb : ∀ s ∈ zs, SpLen s) (hve : v.e.length < 4294967281) (hn : l.length ≤ 2000000) (hv : ∀ w ∈ l, w.e.length < 4294967281) :
  PureCall Tryz.prog J 5 [rgV ys, rgV zs, verV v, .one (.d (.vec 4 (l.map verD)))] (.one (.d (.bool true))) := by
 refine PureCall.of_body tOk (fn := Tryz.f5) Tryz.func5 (by kernel_rfl) rfl (Nat.le_of_ble_eq_true rfl) (fun E => ?_)
 refine W.seq ?_
 refine W.region ?_
 refine S.box rfl rfl rfl rfl ?_
 refine S.box rfl rfl rfl rfl ?_
 refine S.box rfl rfl rfl rfl ?_
 refine S.pure tOk zOk rfl rfl rfl ?_
 refine thenK_n ?_
 refine W.seq ?_
 refine W.region ?_
 refine S.pure tOk zOk rfl rfl rfl ?_
 refine S.call rfl rfl rfl rfl rfl (pc_outref2_RangeError ys (by omega) hsa) ?_
 refine S.pure tOk zOk rfl rfl rfl ?_
 refine thenK_n ?_
 refine W.seq ?_
 refine W.region ?_
 refine S.pure tOk zOk rfl rfl rfl ?_
 refine S.pure tOk zOk rfl rfl rfl ?_
 refine S.call rfl rfl rfl rfl rfl (pc_ver_Has ys (by omega) hsa v hve) ?_
 refine S.pure tOk zOk rfl rfl rfl ?_
 refine S.pure tOk zOk rfl rfl rfl ?_
 refine S.pure tOk zOk rfl rfl rfl ?_
 refine S.pure tOk zOk rfl rfl rfl ?_
 refine S.pure tOk zOk rfl rfl rfl ?_
 refine thenK_n ?_
 refine W.seq ?_
 refine W.seq ?_
 refine W.region ?_
 refine S.pure tOk zOk rfl rfl rfl ?_
 refine S.pure tOk zOk rfl rfl rfl ?_
 refine S.slice tOk rfl rfl ?_
 refine S.call rfl rfl rfl rfl rfl (pc_outref2_VersionError [v] (by simp) (by intro w hw; simp at hw; subst hw; exact hve)) ?_
 refine S.slice tOk rfl rfl ?_
 refine S.call rfl rfl rfl rfl rfl (pc_outref2_First [rangeE ys, firstNe [v.check]] (by simp)) ?_
 refine S.pure tOk zOk rfl rfl rfl ?_
 refine thenK_n ?_
 refine W.seq ?_
 refine W.region ?_
 refine S.call rfl rfl rfl rfl rfl (pc_outlaw2_versions) ?_
 refine S.pure tOk zOk rfl rfl rfl ?_
 refine S.pure tOk zOk rfl rfl rfl ?_
 refine S.pureG tOk zOk rfl rfl (by repeat first | exact allT_nil | refine allT_cons (fun h => h) ?_ | refine allT_cons (fun h => andl h) ?_ | refine allT_cons (fun h => andl (andl h)) ?_ | refine allT_cons (fun _ => rfl) ?_) (fun _ => rfl) rfl ?_
 refine S.callG rfl rfl rfl rfl (by repeat first | exact allT_nil | refine allT_cons (fun h => h) ?_ | refine allT_cons (fun h => andl h) ?_ | refine allT_cons (fun h => andl (andl h)) ?_ | refine allT_cons (fun _ => rfl) ?_) rfl rfl (fun _ => pc_ver_CheckRange ys (by omega) hsa) ?_
 refine S.pureG tOk zOk rfl rfl (by repeat first | exact allT_nil | refine allT_cons (fun h => h) ?_ | refine allT_cons (fun h => andl h) ?_ | refine allT_cons (fun h => andl (andl h)) ?_ | refine allT_cons (fun _ => rfl) ?_) (fun _ => rfl) rfl ?_
 refine S.pureG tOk zOk rfl rfl (by repeat first | exact allT_nil | refine allT_cons (fun h => h) ?_ | refine allT_cons (fun h => andl h) ?_ | refine allT_cons (fun h => andl (andl h)) ?_ | refine allT_cons (fun _ => rfl) ?_) (fun _ => rfl) rfl ?_
 refine S.pickOr tOk zOk rfl rfl (by repeat first | exact allT_nil | refine allT_cons (fun h => h) ?_ | refine allT_cons (fun h => andl h) ?_ | refine allT_cons (fun h => andl (andl h)) ?_ | refine allT_cons (fun _ => rfl) ?_) ?_
 refine S.pure tOk zOk rfl rfl rfl ?_
 refine S.pureG tOk zOk rfl rfl (by repeat first | exact allT_nil | refine allT_cons (fun h => h) ?_ | refine allT_cons (fun h => andl h) ?_ | refine allT_cons (fun h => andl (andl h)) ?_ | refine allT_cons (fun _ => rfl) ?_) (fun _ => rfl) rfl ?_
 refine S.pureG tOk zOk rfl rfl (by repeat first | exact allT_nil | refine allT_cons (fun h => h) ?_ | refine allT_cons (fun h => andl h) ?_ | refine allT_cons (fun h => andl (andl h)) ?_ | refine allT_cons (fun _ => rfl) ?_) (fun _ => rfl) rfl ?_
 refine S.pureG tOk zOk rfl rfl (by repeat first | exact allT_nil | refine allT_cons (fun h => h) ?_ | refine allT_cons (fun h => andl h) ?_ | refine allT_cons (fun h => andl (andl h)) ?_ | refine allT_cons (fun _ => rfl) ?_) (fun _ => rfl) rfl ?_
 refine S.pickOr tOk zOk rfl rfl (by repeat first | exact allT_nil | refine allT_cons (fun h => h) ?_ | refine allT_cons (fun h => andl h) ?_ | refine allT_cons (fun h => andl (andl h)) ?_ | refine allT_cons (fun _ => rfl) ?_) ?_
 refine S.pure tOk zOk rfl rfl rfl ?_
 refine S.pureG tOk zOk rfl rfl (by repeat first | exact allT_nil | refine allT_cons (fun h => h) ?_ | refine allT_cons (fun h => andl h) ?_ | refine allT_cons (fun h => andl (andl h)) ?_ | refine allT_cons (fun _ => rfl) ?_) (fun _ => rfl) rfl ?_
 refine S.pureG tOk zOk rfl rfl (by repeat first | exact allT_nil | refine allT_cons (fun h => h) ?_ | refine allT_cons (fun h => andl h) ?_ | refine allT_cons (fun h => andl (andl h)) ?_ | refine allT_cons (fun _ => rfl) ?_) (fun _ => rfl) rfl ?_
 refine S.pureG tOk zOk rfl rfl (by repeat first | exact allT_nil | refine allT_cons (fun h => h) ?_ | refine allT_cons (fun h => andl h) ?_ | refine allT_cons (fun h => andl (andl h)) ?_ | refine allT_cons (fun _ => rfl) ?_) (fun _ => rfl) rfl ?_
 refine S.pureG tOk zOk rfl rfl (by repeat first | exact allT_nil | refine allT_cons (fun h => h) ?_ | refine allT_cons (fun h => andl h) ?_ | refine allT_cons (fun h => andl (andl h)) ?_ | refine allT_cons (fun _ => rfl) ?_) (fun _ => rfl) rfl ?_
 refine S.pickAndG tOk zOk rfl rfl rfl (by repeat first | exact allT_nil | refine allT_cons (fun h => h) ?_ | refine allT_cons (fun h => andl h) ?_ | refine allT_cons (fun h => andl (andl h)) ?_ | refine allT_cons (fun _ => rfl) ?_) (by repeat first | exact allT_nil | refine allT_cons (fun h => h) ?_ | refine allT_cons (fun h => andl h) ?_ | refine allT_cons (fun h => andl (andl h)) ?_ | refine allT_cons (fun _ => rfl) ?_) ?_
 refine S.pickOr tOk zOk rfl rfl (by repeat first | exact allT_nil | refine allT_cons (fun h => h) ?_ | refine allT_cons (fun h => andl h) ?_ | refine allT_cons (fun h => andl (andl h)) ?_ | refine allT_cons (fun _ => rfl) ?_) ?_
 refine S.pure tOk zOk rfl rfl rfl ?_
 refine S.pureG tOk zOk rfl rfl (by repeat first | exact allT_nil | refine allT_cons (fun h => h) ?_ | refine allT_cons (fun h => andl h) ?_ | refine allT_cons (fun h => andl (andl h)) ?_ | refine allT_cons (fun _ => rfl) ?_) (fun _ => rfl) rfl ?_
 refine S.pureG tOk zOk rfl rfl (by repeat first | exact allT_nil | refine allT_cons (fun h => h) ?_ | refine allT_cons (fun h => andl h) ?_ | refine allT_cons (fun h => andl (andl h)) ?_ | refine allT_cons (fun _ => rfl) ?_) (fun _ => rfl) rfl ?_
 refine S.pureG tOk zOk rfl rfl (by repeat first | exact allT_nil | refine allT_cons (fun h => h) ?_ | refine allT_cons (fun h => andl h) ?_ | refine allT_cons (fun h => andl (andl h)) ?_ | refine allT_cons (fun _ => rfl) ?_) (fun _ => rfl) rfl ?_
 refine S.pureG tOk zOk rfl rfl (by repeat first | exact allT_nil | refine allT_cons (fun h => h) ?_ | refine allT_cons (fun h => andl h) ?_ | refine allT_cons (fun h => andl (andl h)) ?_ | refine allT_cons (fun _ => rfl) ?_) (fun _ => rfl) rfl ?_
 refine S.pureG tOk zOk rfl rfl (by repeat first | exact allT_nil | refine allT_cons (fun h => h) ?_ | refine allT_cons (fun h => andl h) ?_ | refine allT_cons (fun h => andl (andl h)) ?_ | refine allT_cons (fun _ => rfl) ?_) (fun _ => rfl) rfl ?_
 refine S.pureG tOk zOk rfl rfl (by repeat first | exact allT_nil | refine allT_cons (fun h => h) ?_ | refine allT_cons (fun h => andl h) ?_ | refine allT_cons (fun h => andl (andl h)) ?_ | refine allT_cons (fun _ => rfl) ?_) (fun _ => rfl) rfl ?_
 refine S.callG rfl rfl rfl rfl (by repeat first | exact allT_nil | refine allT_cons (fun h => h) ?_ | refine allT_cons (fun h => andl h) ?_ | refine allT_cons (fun h => andl (andl h)) ?_ | refine allT_cons (fun _ => rfl) ?_) rfl rfl (fun _ => pc_outref2_HasOf ys (by omega) hsa v hve) ?_
 refine S.pureG tOk zOk rfl rfl (by repeat first | exact allT_nil | refine allT_cons (fun h => h) ?_ | refine allT_cons (fun h => andl h) ?_ | refine allT_cons (fun h => andl (andl h)) ?_ | refine allT_cons (fun _ => rfl) ?_) (fun _ => rfl) rfl ?_
 refine S.pickAndG tOk zOk rfl rfl rfl (by repeat first | exact allT_nil | refine allT_cons (fun h => h) ?_ | refine allT_cons (fun h => andl h) ?_ | refine allT_cons (fun h => andl (andl h)) ?_ | refine allT_cons (fun _ => rfl) ?_) (by repeat first | exact allT_nil | refine allT_cons (fun h => h) ?_ | refine allT_cons (fun h => andl h) ?_ | refine allT_cons (fun h => andl (andl h)) ?_ | refine allT_cons (fun _ => rfl) ?_) ?_
 refine S.pickOr tOk zOk rfl rfl (by repeat first | exact allT_nil | refine allT_cons (fun h => h) ?_ | refine allT_cons (fun h => andl h) ?_ | refine allT_cons (fun h => andl (andl h)) ?_ | refine allT_cons (fun _ => rfl) ?_) ?_
 refine thenK_n ?_
 refine W.cond rfl (fun c1 => ?_) (fun c1 => ?_)
 · exact absurd c1 (Bool.eq_false_iff.1 (law_has ys v _ rfl))
 ·skip
  refine W.skip ?_
  refine thenK_n ?_
  refine W.seq ?_
  refine W.region ?_
  refine S.pure tOk zOk rfl rfl rfl ?_
  refine S.pure tOk zOk rfl rfl rfl ?_
  refine S.call rfl rfl rfl rfl rfl (pc_ver_Common ys zs la lb hsa hsb) ?_
  refine S.pure tOk zOk rfl rfl rfl ?_
  refine S.pure tOk zOk rfl rfl rfl ?_
  refine S.pure tOk zOk rfl rfl rfl ?_
  refine S.alloc tOk rfl rfl rfl rfl ?_
  refine S.store tOk rfl rfl rfl rfl rfl rfl rfl rfl ?_
  refine S.pure tOk zOk rfl rfl rfl ?_
  refine thenK_n ?_
  refine W.seq ?_
  refine W.region ?_
  refine S.pure tOk zOk rfl rfl rfl ?_
  refine S.pure tOk zOk rfl rfl rfl ?_
  refine S.call rfl rfl rfl rfl rfl (pc_ver_Within ys zs la lb hsa hsb) ?_
  refine S.pure tOk zOk rfl rfl rfl ?_
  refine S.pure tOk zOk rfl rfl rfl ?_
  refine S.pure tOk zOk rfl rfl rfl ?_
  refine S.pure tOk zOk rfl rfl rfl ?_
  refine S.pure tOk zOk rfl rfl rfl ?_
  refine thenK_n ?_
  refine W.seq ?_
  refine W.region ?_
  refine S.pure tOk zOk rfl rfl rfl ?_
  refine S.pure tOk zOk rfl rfl rfl ?_
  refine S.call rfl rfl rfl rfl rfl (pc_outref2_RangeError zs (by omega) hsb) ?_
  refine S.slice tOk rfl rfl ?_
  refine S.call rfl rfl rfl rfl rfl (pc_outref2_First [rangeE ys, rangeE zs] (by simp)) ?_
  refine S.pure tOk zOk rfl rfl rfl ?_
  refine thenK_n ?_
  refine W.seq ?_
  refine W.seq ?_
  refine W.region ?_
  refine S.pure tOk zOk rfl rfl rfl ?_
  refine S.pure tOk zOk rfl rfl rfl ?_
  refine thenK_n ?_
  refine W.cond rfl (fun c2 => ?_) (fun c2 => ?_)
  ·skip
   refine W.seq ?_
   refine W.region ?_
   refine S.pure tOk zOk rfl rfl rfl ?_
   refine S.pure tOk zOk rfl rfl rfl ?_
   refine S.pure tOk zOk rfl rfl rfl ?_
   refine S.pure tOk zOk rfl rfl rfl ?_
   refine S.pure tOk zOk rfl rfl rfl ?_
   refine S.pureG tOk zOk rfl rfl (by repeat first | exact allT_nil | refine allT_cons (fun h => h) ?_ | refine allT_cons (fun h => andl h) ?_ | refine allT_cons (fun h => andl (andl h)) ?_ | refine allT_cons (fun _ => rfl) ?_) (fun _ => rfl) rfl ?_
   refine S.pureG tOk zOk rfl rfl (by repeat first | exact allT_nil | refine allT_cons (fun h => h) ?_ | refine allT_cons (fun h => andl h) ?_ | refine allT_cons (fun h => andl (andl h)) ?_ | refine allT_cons (fun _ => rfl) ?_) (fun _ => rfl) rfl ?_
   refine S.pureG tOk zOk rfl rfl (by repeat first | exact allT_nil | refine allT_cons (fun h => h) ?_ | refine allT_cons (fun h => andl h) ?_ | refine allT_cons (fun h => andl (andl h)) ?_ | refine allT_cons (fun _ => rfl) ?_) (fun _ => rfl) rfl ?_
   refine S.pickOr tOk zOk rfl rfl (by repeat first | exact allT_nil | refine allT_cons (fun h => h) ?_ | refine allT_cons (fun h => andl h) ?_ | refine allT_cons (fun h => andl (andl h)) ?_ | refine allT_cons (fun _ => rfl) ?_) ?_
   refine S.pure tOk zOk rfl rfl rfl ?_
   refine S.pureG tOk zOk rfl rfl (by repeat first | exact allT_nil | refine allT_cons (fun h => h) ?_ | refine allT_cons (fun h => andl h) ?_ | refine allT_cons (fun h => andl (andl h)) ?_ | refine allT_cons (fun _ => rfl) ?_) (fun _ => rfl) rfl ?_
   refine S.pickOr tOk zOk rfl rfl (by repeat first | exact allT_nil | refine allT_cons (fun h => h) ?_ | refine allT_cons (fun h => andl h) ?_ | refine allT_cons (fun h => andl (andl h)) ?_ | refine allT_cons (fun _ => rfl) ?_) ?_
   refine S.pure tOk zOk rfl rfl rfl ?_
   refine S.pureG tOk zOk rfl rfl (by repeat first | exact allT_nil | refine allT_cons (fun h => h) ?_ | refine allT_cons (fun h => andl h) ?_ | refine allT_cons (fun h => andl (andl h)) ?_ | refine allT_cons (fun _ => rfl) ?_) (fun _ => rfl) rfl ?_
   refine S.pureG tOk zOk rfl rfl (by repeat first | exact allT_nil | refine allT_cons (fun h => h) ?_ | refine allT_cons (fun h => andl h) ?_ | refine allT_cons (fun h => andl (andl h)) ?_ | refine allT_cons (fun _ => rfl) ?_) (fun _ => rfl) rfl ?_
   refine S.pureG tOk zOk rfl rfl (by repeat first | exact allT_nil | refine allT_cons (fun h => h) ?_ | refine allT_cons (fun h => andl h) ?_ | refine allT_cons (fun h => andl (andl h)) ?_ | refine allT_cons (fun _ => rfl) ?_) (fun _ => rfl) rfl ?_
   refine S.pickOr tOk zOk rfl rfl (by repeat first | exact allT_nil | refine allT_cons (fun h => h) ?_ | refine allT_cons (fun h => andl h) ?_ | refine allT_cons (fun h => andl (andl h)) ?_ | refine allT_cons (fun _ => rfl) ?_) ?_
   refine thenK_n ?_
   refine W.cond rfl (fun c3 => ?_) (fun c3 => ?_)
   · exact absurd c3 (by rw [(law_err (ys := ys) (zs := zs) c2).1, (law_err (ys := ys) (zs := zs) c2).2]; show ¬ ((((decide ((([] : List (List D)).length : Int) > 0) || bothE ys zs != bothE ys zs) || false) || bothE ys zs != bothE ys zs) = true); simp)
   ·skip
    refine W.skip ?_
    refine thenK_n ?_
    refine W.seq ?_
    refine W.region ?_
    refine S.pure tOk zOk rfl rfl rfl ?_
    refine S.pure tOk zOk rfl rfl rfl ?_
    refine S.call rfl rfl rfl rfl rfl (pc_ver_Greatest ys (by omega) hsa l (by omega) hv) ?_
    refine S.pure tOk zOk rfl rfl rfl ?_
    refine S.pure tOk zOk rfl rfl rfl ?_
    refine S.pure tOk zOk rfl rfl rfl ?_
    refine S.pure tOk zOk rfl rfl rfl ?_
    refine S.pure tOk zOk rfl rfl rfl ?_
    refine thenK_n ?_
    refine W.seq ?_
    refine W.region ?_
    refine S.pure tOk zOk rfl rfl rfl ?_
    refine S.pure tOk zOk rfl rfl rfl ?_
    refine S.pure tOk zOk rfl rfl rfl ?_
    refine S.pure tOk zOk rfl rfl rfl ?_
    refine S.call rfl rfl rfl rfl rfl (pc_outref2_When _ _) ?_
    refine S.pure tOk zOk rfl rfl rfl ?_
    refine S.call rfl rfl rfl rfl rfl (pc_outref2_VersionError l hn hv) ?_
    refine S.slice tOk rfl rfl ?_
    refine S.call rfl rfl rfl rfl rfl (pc_outref2_First [rangeE ys, (if decide (((l.map verD).length : Int) > 1000) then 4 else 0), firstNe (l.map Ver.check)] (by simp)) ?_
    refine S.pure tOk zOk rfl rfl rfl ?_
    refine thenK_n ?_
    refine W.seq ?_
    refine W.region ?_
    refine S.pure tOk zOk rfl rfl rfl ?_
    refine thenK_n ?_
    refine W.seq ?_
    refine W.seq ?_
    refine W.region ?_
    refine S.pure tOk zOk rfl rfl rfl ?_
    refine S.pure tOk zOk rfl rfl rfl ?_
    refine thenK_n ?_
    refine W.cond rfl (fun c4 => ?_) (fun c4 => ?_)
    ·skip
     have hg := great_ok (ys := ys) (l := l) c4
     refine W.seq ?_
     refine W.seq ?_
     refine W.region ?_
     refine S.pure tOk zOk rfl rfl rfl ?_
     refine S.pure tOk zOk rfl rfl rfl ?_
     refine S.pure tOk zOk rfl rfl rfl ?_
     refine thenK_n ?_
     refine W.block ?_
     refine W.loop (fun k st => ∃ i : Nat, i ≤ l.length ∧ k = l.length - i ∧ ∃ t b2 r2 m2, st = ⟨t, [[.d (.vec 10 (ys.map spD))]] ++ b2, [] ++ r2, [] ++ m2⟩ ∧ holdsL t [(3, .one (.d (.vec 4 (l.map verD)))), (4, .one (.ptr 0 0)), (11, .one (.d (.int .i64 (GreatestB ys l).2))), (18, .one (.d (.int .i64 (GreatestB ys l).1))), (20, .one (.d (.int .i64 (bestTo ys l i)))), (163, .one (.d (.vec 4 (l.map verD)))), (164, .one (.d (.int .i64 ((l.map verD).length : Int)))), (165, .one (.d (.int .i64 (i : Int))))]) (l.length) ⟨0, Nat.zero_le _, rfl, _, _, _, _, rfl, rfl, rfl, rfl, rfl, by rw [bestTo_0]; rfl, rfl, rfl, rfl, trivial⟩ ?_
     rintro k0 _ ⟨i, f0_0, rfl, t0, bb0, rr0, mm0, rfl, hh0⟩
     refine W.keepR _ _ _ _ _ _ _ hh0 rfl ?_
     refine W.seq ?_
     refine W.region ?_
     refine S.pure tOk zOk rfl rfl rfl ?_
     refine thenK_n ?_
     refine W.seq ?_
     refine W.cond rfl (fun c5 => ?_) (fun c5 => ?_)
     ·skip
      have hi := row_lt c5
      refine W.skip ?_
      refine thenK_n ?_
      refine W.seq ?_
      refine W.block ?_
      refine W.seq ?_
      refine W.region ?_
      refine S.pure tOk zOk rfl rfl rfl ?_
      refine S.pureE tOk zOk rfl (row_ok hi) (row_at Ver.z hi) rfl ?_
      refine S.pure tOk zOk rfl rfl rfl ?_
      refine S.alloc tOk rfl rfl rfl rfl ?_
      refine S.pure tOk zOk rfl rfl rfl ?_
      refine S.store tOk rfl rfl rfl rfl rfl rfl rfl rfl ?_
      refine thenK_n ?_
      refine W.seq ?_
      refine W.regionD mixed (by kernel_rfl) ?_
      refine D.pure tOk zOk rfl rfl rfl rfl ?_
      refine D.pure tOk zOk rfl rfl rfl rfl ?_
      refine D.call rfl rfl rfl rfl rfl (pc_outref2_HasOf ys (by omega) hsa (l.getD i Ver.z) (ver_at hv hi)) ?_
      refine D.pure tOk zOk rfl rfl rfl rfl ?_
      refine D.pureG tOk zOk rfl rfl rfl (by repeat first | exact allT_nil | refine allT_cons (fun h => h) ?_ | refine allT_cons (fun h => andl h) ?_ | refine allT_cons (fun h => andl (andl h)) ?_ | refine allT_cons (fun _ => rfl) ?_) (fun _ => rfl) rfl ?_
      refine D.pureG tOk zOk rfl rfl rfl (by repeat first | exact allT_nil | refine allT_cons (fun h => h) ?_ | refine allT_cons (fun h => andl h) ?_ | refine allT_cons (fun h => andl (andl h)) ?_ | refine allT_cons (fun _ => rfl) ?_) (fun _ => rfl) rfl ?_
      refine D.pureG tOk zOk rfl rfl rfl (by repeat first | exact allT_nil | refine allT_cons (fun h => h) ?_ | refine allT_cons (fun h => andl h) ?_ | refine allT_cons (fun h => andl (andl h)) ?_ | refine allT_cons (fun _ => rfl) ?_) (fun _ => rfl) rfl ?_
      refine D.pureG tOk zOk rfl rfl rfl (by repeat first | exact allT_nil | refine allT_cons (fun h => h) ?_ | refine allT_cons (fun h => andl h) ?_ | refine allT_cons (fun h => andl (andl h)) ?_ | refine allT_cons (fun _ => rfl) ?_) (fun _ => rfl) rfl ?_
      refine D.pureG tOk zOk rfl rfl rfl (by repeat first | exact allT_nil | refine allT_cons (fun h => h) ?_ | refine allT_cons (fun h => andl h) ?_ | refine allT_cons (fun h => andl (andl h)) ?_ | refine allT_cons (fun _ => rfl) ?_) (fun _ => rfl) rfl ?_
      refine D.pureG tOk zOk rfl rfl rfl (by repeat first | exact allT_nil | refine allT_cons (fun h => h) ?_ | refine allT_cons (fun h => andl h) ?_ | refine allT_cons (fun h => andl (andl h)) ?_ | refine allT_cons (fun _ => rfl) ?_) (fun _ => rfl) rfl ?_
      refine D.pureEG tOk zOk rfl rfl rfl (by repeat first | exact allT_nil | refine allT_cons (fun h => h) ?_ | refine allT_cons (fun h => andl h) ?_ | refine allT_cons (fun h => andl (andl h)) ?_ | refine allT_cons (fun _ => rfl) ?_) (fun h => best_ok hi (by have q := andr h; simpa using q)) (best_at hi) rfl ?_
      refine D.pureG tOk zOk rfl rfl rfl (by repeat first | exact allT_nil | refine allT_cons (fun h => h) ?_ | refine allT_cons (fun h => andl h) ?_ | refine allT_cons (fun h => andl (andl h)) ?_ | refine allT_cons (fun _ => rfl) ?_) (fun _ => rfl) rfl ?_
      refine D.callG rfl rfl rfl rfl (by repeat first | exact allT_nil | refine allT_cons (fun h => h) ?_ | refine allT_cons (fun h => andl h) ?_ | refine allT_cons (fun h => andl (andl h)) ?_ | refine allT_cons (fun _ => rfl) ?_) rfl rfl (fun _ => pc_outref2_CompareOf (l.getD i Ver.z) (l.getD (bestTo ys l i).toNat Ver.z) (ver_at hv hi) (ver_at hv (best_lt hi))) ?_
      refine D.pureG tOk zOk rfl rfl rfl (by repeat first | exact allT_nil | refine allT_cons (fun h => h) ?_ | refine allT_cons (fun h => andl h) ?_ | refine allT_cons (fun h => andl (andl h)) ?_ | refine allT_cons (fun _ => rfl) ?_) (fun _ => rfl) rfl ?_
      refine D.pickOrG tOk zOk rfl rfl rfl (by repeat first | exact allT_nil | refine allT_cons (fun h => h) ?_ | refine allT_cons (fun h => andl h) ?_ | refine allT_cons (fun h => andl (andl h)) ?_ | refine allT_cons (fun _ => rfl) ?_) (by repeat first | exact allT_nil | refine allT_cons (fun h => h) ?_ | refine allT_cons (fun h => andl h) ?_ | refine allT_cons (fun h => andl (andl h)) ?_ | refine allT_cons (fun _ => rfl) ?_) ?_
      refine D.pickAnd tOk zOk rfl rfl (by repeat first | exact allT_nil | refine allT_cons (fun h => h) ?_ | refine allT_cons (fun h => andl h) ?_ | refine allT_cons (fun h => andl (andl h)) ?_ | refine allT_cons (fun _ => rfl) ?_) ?_
      refine thenK_n ?_
      refine W.cond rfl (fun c6 => ?_) (fun c6 => ?_)
      ·skip
       have cT : tryB ys l i = true := c6
       refine W.region ?_
       refine S.pure tOk zOk rfl rfl rfl ?_
       refine S.pure tOk zOk rfl rfl rfl ?_
       refine blockK_n ?_
       refine thenK_n ?_
       refine W.region ?_
       refine S.pure tOk zOk rfl rfl rfl ?_
       refine S.pure tOk zOk rfl rfl rfl ?_
       refine loop_n (l.length - (i + 1)) (by omega) ⟨i + 1, hi, rfl, _, _, _, _, rfl, rfl, rfl, rfl, rfl, by first | exact try_t hg.1 hg.2.1 hi cT | exact try_f hg.1 hg.2.1 hi cT, rfl, rfl, inc_i64 (by omega), trivial⟩
      ·skip
       have cT : tryB ys l i = false := c6
       refine W.skip ?_
       refine blockK_n ?_
       refine thenK_n ?_
       refine W.region ?_
       refine S.pure tOk zOk rfl rfl rfl ?_
       refine S.pure tOk zOk rfl rfl rfl ?_
       refine loop_n (l.length - (i + 1)) (by omega) ⟨i + 1, hi, rfl, _, _, _, _, rfl, rfl, rfl, rfl, rfl, by first | exact try_t hg.1 hg.2.1 hi cT | exact try_f hg.1 hg.2.1 hi cT, rfl, rfl, inc_i64 (by omega), trivial⟩
     ·skip
      have hi := row_ge c5
      obtain rfl : i = l.length := by omega
      refine W.exit ?_
      refine thenK_e ?_
      refine thenK_e ?_
      refine blockK_x ?_
      refine thenK_n ?_
      refine W.region ?_
      refine S.pure tOk zOk rfl rfl rfl ?_
      refine S.pure tOk zOk rfl rfl rfl ?_
      refine S.call rfl rfl rfl rfl rfl (pc_outref2_When _ _) ?_
      refine S.pure tOk zOk rfl rfl rfl ?_
      refine thenK_n ?_
      refine W.seq ?_
      refine W.region ?_
      refine S.pure tOk zOk rfl rfl rfl ?_
      refine S.pure tOk zOk rfl rfl rfl ?_
      refine S.pure tOk zOk rfl rfl rfl ?_
      refine S.pure tOk zOk rfl rfl rfl ?_
      refine S.pureG tOk zOk rfl rfl (by repeat first | exact allT_nil | refine allT_cons (fun h => h) ?_ | refine allT_cons (fun h => andl h) ?_ | refine allT_cons (fun h => andl (andl h)) ?_ | refine allT_cons (fun _ => rfl) ?_) (fun _ => rfl) rfl ?_
      refine S.pureG tOk zOk rfl rfl (by repeat first | exact allT_nil | refine allT_cons (fun h => h) ?_ | refine allT_cons (fun h => andl h) ?_ | refine allT_cons (fun h => andl (andl h)) ?_ | refine allT_cons (fun _ => rfl) ?_) (fun _ => rfl) rfl ?_
      refine S.pureG tOk zOk rfl rfl (by repeat first | exact allT_nil | refine allT_cons (fun h => h) ?_ | refine allT_cons (fun h => andl h) ?_ | refine allT_cons (fun h => andl (andl h)) ?_ | refine allT_cons (fun _ => rfl) ?_) (fun _ => rfl) rfl ?_
      refine S.pureG tOk zOk rfl rfl (by repeat first | exact allT_nil | refine allT_cons (fun h => h) ?_ | refine allT_cons (fun h => andl h) ?_ | refine allT_cons (fun h => andl (andl h)) ?_ | refine allT_cons (fun _ => rfl) ?_) (fun _ => rfl) rfl ?_
      refine S.pureG tOk zOk rfl rfl (by repeat first | exact allT_nil | refine allT_cons (fun h => h) ?_ | refine allT_cons (fun h => andl h) ?_ | refine allT_cons (fun h => andl (andl h)) ?_ | refine allT_cons (fun _ => rfl) ?_) (fun _ => rfl) rfl ?_
      refine S.pickAndG tOk zOk rfl rfl rfl (by repeat first | exact allT_nil | refine allT_cons (fun h => h) ?_ | refine allT_cons (fun h => andl h) ?_ | refine allT_cons (fun h => andl (andl h)) ?_ | refine allT_cons (fun _ => rfl) ?_) (by repeat first | exact allT_nil | refine allT_cons (fun h => h) ?_ | refine allT_cons (fun h => andl h) ?_ | refine allT_cons (fun h => andl (andl h)) ?_ | refine allT_cons (fun _ => rfl) ?_) ?_
      refine S.pureG tOk zOk rfl rfl (by repeat first | exact allT_nil | refine allT_cons (fun h => h) ?_ | refine allT_cons (fun h => andl h) ?_ | refine allT_cons (fun h => andl (andl h)) ?_ | refine allT_cons (fun _ => rfl) ?_) (fun _ => rfl) rfl ?_
      refine S.pureG tOk zOk rfl rfl (by repeat first | exact allT_nil | refine allT_cons (fun h => h) ?_ | refine allT_cons (fun h => andl h) ?_ | refine allT_cons (fun h => andl (andl h)) ?_ | refine allT_cons (fun _ => rfl) ?_) (fun _ => rfl) rfl ?_
      refine S.pureG tOk zOk rfl rfl (by repeat first | exact allT_nil | refine allT_cons (fun h => h) ?_ | refine allT_cons (fun h => andl h) ?_ | refine allT_cons (fun h => andl (andl h)) ?_ | refine allT_cons (fun _ => rfl) ?_) (fun _ => rfl) rfl ?_
      refine S.pureG tOk zOk rfl rfl (by repeat first | exact allT_nil | refine allT_cons (fun h => h) ?_ | refine allT_cons (fun h => andl h) ?_ | refine allT_cons (fun h => andl (andl h)) ?_ | refine allT_cons (fun _ => rfl) ?_) (fun _ => rfl) rfl ?_
      refine S.pureG tOk zOk rfl rfl (by repeat first | exact allT_nil | refine allT_cons (fun h => h) ?_ | refine allT_cons (fun h => andl h) ?_ | refine allT_cons (fun h => andl (andl h)) ?_ | refine allT_cons (fun _ => rfl) ?_) (fun _ => rfl) rfl ?_
      refine S.pureG tOk zOk rfl rfl (by repeat first | exact allT_nil | refine allT_cons (fun h => h) ?_ | refine allT_cons (fun h => andl h) ?_ | refine allT_cons (fun h => andl (andl h)) ?_ | refine allT_cons (fun _ => rfl) ?_) (fun _ => rfl) rfl ?_
      refine S.pureG tOk zOk rfl rfl (by repeat first | exact allT_nil | refine allT_cons (fun h => h) ?_ | refine allT_cons (fun h => andl h) ?_ | refine allT_cons (fun h => andl (andl h)) ?_ | refine allT_cons (fun _ => rfl) ?_) (fun _ => rfl) rfl ?_
      refine S.pickAndG tOk zOk rfl rfl rfl (by repeat first | exact allT_nil | refine allT_cons (fun h => h) ?_ | refine allT_cons (fun h => andl h) ?_ | refine allT_cons (fun h => andl (andl h)) ?_ | refine allT_cons (fun _ => rfl) ?_) (by repeat first | exact allT_nil | refine allT_cons (fun h => h) ?_ | refine allT_cons (fun h => andl h) ?_ | refine allT_cons (fun h => andl (andl h)) ?_ | refine allT_cons (fun _ => rfl) ?_) ?_
      refine S.pickOrG tOk zOk rfl rfl rfl (by repeat first | exact allT_nil | refine allT_cons (fun h => h) ?_ | refine allT_cons (fun h => andl h) ?_ | refine allT_cons (fun h => andl (andl h)) ?_ | refine allT_cons (fun _ => rfl) ?_) (by repeat first | exact allT_nil | refine allT_cons (fun h => h) ?_ | refine allT_cons (fun h => andl h) ?_ | refine allT_cons (fun h => andl (andl h)) ?_ | refine allT_cons (fun _ => rfl) ?_) ?_
      refine S.pickAnd tOk zOk rfl rfl (by repeat first | exact allT_nil | refine allT_cons (fun h => h) ?_ | refine allT_cons (fun h => andl h) ?_ | refine allT_cons (fun h => andl (andl h)) ?_ | refine allT_cons (fun _ => rfl) ?_) ?_
      refine S.pure tOk zOk rfl rfl rfl ?_
      refine thenK_n ?_
      refine W.ret ?_
      exact ⟨_, rfl, rfl, LeV.of_eq (congrArg (fun x => V.one (C.d (D.bool x))) (great_end2 (ys := ys) (l := l) c4))⟩
    ·skip
     refine W.skip ?_
     refine thenK_n ?_
     refine W.seq ?_
     refine W.region ?_
     refine S.pure tOk zOk rfl rfl rfl ?_
     refine S.pure tOk zOk rfl rfl rfl ?_
     refine S.pure tOk zOk rfl rfl rfl ?_
     refine S.pure tOk zOk rfl rfl rfl ?_
     refine S.pureG tOk zOk rfl rfl (by repeat first | exact allT_nil | refine allT_cons (fun h => h) ?_ | refine allT_cons (fun h => andl h) ?_ | refine allT_cons (fun h => andl (andl h)) ?_ | refine allT_cons (fun _ => rfl) ?_) (fun _ => rfl) rfl ?_
     refine S.pureG tOk zOk rfl rfl (by repeat first | exact allT_nil | refine allT_cons (fun h => h) ?_ | refine allT_cons (fun h => andl h) ?_ | refine allT_cons (fun h => andl (andl h)) ?_ | refine allT_cons (fun _ => rfl) ?_) (fun _ => rfl) rfl ?_
     refine S.pureG tOk zOk rfl rfl (by repeat first | exact allT_nil | refine allT_cons (fun h => h) ?_ | refine allT_cons (fun h => andl h) ?_ | refine allT_cons (fun h => andl (andl h)) ?_ | refine allT_cons (fun _ => rfl) ?_) (fun _ => rfl) rfl ?_
     refine S.pureG tOk zOk rfl rfl (by repeat first | exact allT_nil | refine allT_cons (fun h => h) ?_ | refine allT_cons (fun h => andl h) ?_ | refine allT_cons (fun h => andl (andl h)) ?_ | refine allT_cons (fun _ => rfl) ?_) (fun _ => rfl) rfl ?_
     refine S.pureG tOk zOk rfl rfl (by repeat first | exact allT_nil | refine allT_cons (fun h => h) ?_ | refine allT_cons (fun h => andl h) ?_ | refine allT_cons (fun h => andl (andl h)) ?_ | refine allT_cons (fun _ => rfl) ?_) (fun _ => rfl) rfl ?_
     refine S.pickAndG tOk zOk rfl rfl rfl (by repeat first | exact allT_nil | refine allT_cons (fun h => h) ?_ | refine allT_cons (fun h => andl h) ?_ | refine allT_cons (fun h => andl (andl h)) ?_ | refine allT_cons (fun _ => rfl) ?_) (by repeat first | exact allT_nil | refine allT_cons (fun h => h) ?_ | refine allT_cons (fun h => andl h) ?_ | refine allT_cons (fun h => andl (andl h)) ?_ | refine allT_cons (fun _ => rfl) ?_) ?_
     refine S.pureG tOk zOk rfl rfl (by repeat first | exact allT_nil | refine allT_cons (fun h => h) ?_ | refine allT_cons (fun h => andl h) ?_ | refine allT_cons (fun h => andl (andl h)) ?_ | refine allT_cons (fun _ => rfl) ?_) (fun _ => rfl) rfl ?_
     refine S.pureG tOk zOk rfl rfl (by repeat first | exact allT_nil | refine allT_cons (fun h => h) ?_ | refine allT_cons (fun h => andl h) ?_ | refine allT_cons (fun h => andl (andl h)) ?_ | refine allT_cons (fun _ => rfl) ?_) (fun _ => rfl) rfl ?_
     refine S.pureG tOk zOk rfl rfl (by repeat first | exact allT_nil | refine allT_cons (fun h => h) ?_ | refine allT_cons (fun h => andl h) ?_ | refine allT_cons (fun h => andl (andl h)) ?_ | refine allT_cons (fun _ => rfl) ?_) (fun _ => rfl) rfl ?_
     refine S.pureG tOk zOk rfl rfl (by repeat first | exact allT_nil | refine allT_cons (fun h => h) ?_ | refine allT_cons (fun h => andl h) ?_ | refine allT_cons (fun h => andl (andl h)) ?_ | refine allT_cons (fun _ => rfl) ?_) (fun _ => rfl) rfl ?_
     refine S.pureG tOk zOk rfl rfl (by repeat first | exact allT_nil | refine allT_cons (fun h => h) ?_ | refine allT_cons (fun h => andl h) ?_ | refine allT_cons (fun h => andl (andl h)) ?_ | refine allT_cons (fun _ => rfl) ?_) (fun _ => rfl) rfl ?_
     refine S.pureG tOk zOk rfl rfl (by repeat first | exact allT_nil | refine allT_cons (fun h => h) ?_ | refine allT_cons (fun h => andl h) ?_ | refine allT_cons (fun h => andl (andl h)) ?_ | refine allT_cons (fun _ => rfl) ?_) (fun _ => rfl) rfl ?_
     refine S.pureG tOk zOk rfl rfl (by repeat first | exact allT_nil | refine allT_cons (fun h => h) ?_ | refine allT_cons (fun h => andl h) ?_ | refine allT_cons (fun h => andl (andl h)) ?_ | refine allT_cons (fun _ => rfl) ?_) (fun _ => rfl) rfl ?_
     refine S.pickAndG tOk zOk rfl rfl rfl (by repeat first | exact allT_nil | refine allT_cons (fun h => h) ?_ | refine allT_cons (fun h => andl h) ?_ | refine allT_cons (fun h => andl (andl h)) ?_ | refine allT_cons (fun _ => rfl) ?_) (by repeat first | exact allT_nil | refine allT_cons (fun h => h) ?_ | refine allT_cons (fun h => andl h) ?_ | refine allT_cons (fun h => andl (andl h)) ?_ | refine allT_cons (fun _ => rfl) ?_) ?_
     refine S.pickOrG tOk zOk rfl rfl rfl (by repeat first | exact allT_nil | refine allT_cons (fun h => h) ?_ | refine allT_cons (fun h => andl h) ?_ | refine allT_cons (fun h => andl (andl h)) ?_ | refine allT_cons (fun _ => rfl) ?_) (by repeat first | exact allT_nil | refine allT_cons (fun h => h) ?_ | refine allT_cons (fun h => andl h) ?_ | refine allT_cons (fun h => andl (andl h)) ?_ | refine allT_cons (fun _ => rfl) ?_) ?_
     refine S.pickAnd tOk zOk rfl rfl (by repeat first | exact allT_nil | refine allT_cons (fun h => h) ?_ | refine allT_cons (fun h => andl h) ?_ | refine allT_cons (fun h => andl (andl h)) ?_ | refine allT_cons (fun _ => rfl) ?_) ?_
     refine S.pure tOk zOk rfl rfl rfl ?_
     refine thenK_n ?_
     refine W.ret ?_
     exact ⟨_, rfl, rfl, LeV.of_eq (congrArg (fun x => V.one (C.d (D.bool x))) (great_end1 (ys := ys) (l := l) c4 _))⟩
  ·skip
   have hb := both_0 (ys := ys) (zs := zs) c2
   have hw := wit_law (ys := ys) (zs := zs) c2
   have hcl := com_cl (ys := ys) (zs := zs) c2
   refine W.seq ?_
   refine W.region ?_
   refine S.pure tOk zOk rfl rfl rfl ?_
   refine S.pure tOk zOk rfl rfl rfl ?_
   refine S.call rfl rfl rfl rfl rfl (pc_outref2_CommonOf ys zs hb.1 hb.2) ?_
   refine S.alloc tOk rfl rfl rfl rfl ?_
   refine S.store tOk rfl rfl rfl rfl rfl rfl rfl rfl ?_
   refine thenK_n ?_
   refine W.seq ?_
   refine W.seq ?_
   refine W.region ?_
   refine S.pure tOk zOk rfl rfl rfl ?_
   refine S.pure tOk zOk rfl rfl rfl ?_
   refine S.pure tOk zOk rfl rfl rfl ?_
   refine S.pureG tOk zOk rfl rfl (by repeat first | exact allT_nil | refine allT_cons (fun h => h) ?_ | refine allT_cons (fun h => andl h) ?_ | refine allT_cons (fun h => andl (andl h)) ?_ | refine allT_cons (fun _ => rfl) ?_) (fun _ => rfl) rfl ?_
   refine S.pureG tOk zOk rfl rfl (by repeat first | exact allT_nil | refine allT_cons (fun h => h) ?_ | refine allT_cons (fun h => andl h) ?_ | refine allT_cons (fun h => andl (andl h)) ?_ | refine allT_cons (fun _ => rfl) ?_) (fun _ => rfl) rfl ?_
   refine S.pureG tOk zOk rfl rfl (by repeat first | exact allT_nil | refine allT_cons (fun h => h) ?_ | refine allT_cons (fun h => andl h) ?_ | refine allT_cons (fun h => andl (andl h)) ?_ | refine allT_cons (fun _ => rfl) ?_) (fun _ => rfl) rfl ?_
   refine S.callG rfl rfl rfl rfl (by repeat first | exact allT_nil | refine allT_cons (fun h => h) ?_ | refine allT_cons (fun h => andl h) ?_ | refine allT_cons (fun h => andl (andl h)) ?_ | refine allT_cons (fun _ => rfl) ?_) rfl rfl (fun _ => pc_outref2_WithinOf ys zs hb.1 hb.2) ?_
   refine S.pureG tOk zOk rfl rfl (by repeat first | exact allT_nil | refine allT_cons (fun h => h) ?_ | refine allT_cons (fun h => andl h) ?_ | refine allT_cons (fun h => andl (andl h)) ?_ | refine allT_cons (fun _ => rfl) ?_) (fun _ => rfl) rfl ?_
   refine S.pickOr tOk zOk rfl rfl (by repeat first | exact allT_nil | refine allT_cons (fun h => h) ?_ | refine allT_cons (fun h => andl h) ?_ | refine allT_cons (fun h => andl (andl h)) ?_ | refine allT_cons (fun _ => rfl) ?_) ?_
   refine thenK_n ?_
   refine W.cond rfl (fun c7 => ?_) (fun c7 => ?_)
   · exact absurd c7 (by rw [hw]; show ¬ (((0 : Int) != 0 || witR ys zs != witR ys zs) = true); simp)
   ·skip
    refine W.skip ?_
    refine thenK_n ?_
    refine W.seq ?_
    refine W.region ?_
    refine S.pure tOk zOk rfl rfl rfl ?_
    refine S.pure tOk zOk rfl rfl rfl ?_
    refine S.pure tOk zOk rfl rfl rfl ?_
    refine S.pure tOk zOk rfl rfl rfl ?_
    refine S.pure tOk zOk rfl rfl rfl ?_
    refine S.pureG tOk zOk rfl rfl (by repeat first | exact allT_nil | refine allT_cons (fun h => h) ?_ | refine allT_cons (fun h => andl h) ?_ | refine allT_cons (fun h => andl (andl h)) ?_ | refine allT_cons (fun _ => rfl) ?_) (fun _ => rfl) rfl ?_
    refine S.pureG tOk zOk rfl rfl (by repeat first | exact allT_nil | refine allT_cons (fun h => h) ?_ | refine allT_cons (fun h => andl h) ?_ | refine allT_cons (fun h => andl (andl h)) ?_ | refine allT_cons (fun _ => rfl) ?_) (fun _ => rfl) rfl ?_
    refine S.pureG tOk zOk rfl rfl (by repeat first | exact allT_nil | refine allT_cons (fun h => h) ?_ | refine allT_cons (fun h => andl h) ?_ | refine allT_cons (fun h => andl (andl h)) ?_ | refine allT_cons (fun _ => rfl) ?_) (fun _ => rfl) rfl ?_
    refine S.pureG tOk zOk rfl rfl (by repeat first | exact allT_nil | refine allT_cons (fun h => h) ?_ | refine allT_cons (fun h => andl h) ?_ | refine allT_cons (fun h => andl (andl h)) ?_ | refine allT_cons (fun _ => rfl) ?_) (fun _ => rfl) rfl ?_
    refine S.pureG tOk zOk rfl rfl (by repeat first | exact allT_nil | refine allT_cons (fun h => h) ?_ | refine allT_cons (fun h => andl h) ?_ | refine allT_cons (fun h => andl (andl h)) ?_ | refine allT_cons (fun _ => rfl) ?_) (fun _ => rfl) rfl ?_
    refine S.pureG tOk zOk rfl rfl (by repeat first | exact allT_nil | refine allT_cons (fun h => h) ?_ | refine allT_cons (fun h => andl h) ?_ | refine allT_cons (fun h => andl (andl h)) ?_ | refine allT_cons (fun _ => rfl) ?_) (fun _ => rfl) rfl ?_
    refine S.pureG tOk zOk rfl rfl (by repeat first | exact allT_nil | refine allT_cons (fun h => h) ?_ | refine allT_cons (fun h => andl h) ?_ | refine allT_cons (fun h => andl (andl h)) ?_ | refine allT_cons (fun _ => rfl) ?_) (fun _ => rfl) rfl ?_
    refine S.pickOrG tOk zOk rfl rfl rfl (by repeat first | exact allT_nil | refine allT_cons (fun h => h) ?_ | refine allT_cons (fun h => andl h) ?_ | refine allT_cons (fun h => andl (andl h)) ?_ | refine allT_cons (fun _ => rfl) ?_) (by repeat first | exact allT_nil | refine allT_cons (fun h => h) ?_ | refine allT_cons (fun h => andl h) ?_ | refine allT_cons (fun h => andl (andl h)) ?_ | refine allT_cons (fun _ => rfl) ?_) ?_
    refine S.pickAnd tOk zOk rfl rfl (by repeat first | exact allT_nil | refine allT_cons (fun h => h) ?_ | refine allT_cons (fun h => andl h) ?_ | refine allT_cons (fun h => andl (andl h)) ?_ | refine allT_cons (fun _ => rfl) ?_) ?_
    refine S.pure tOk zOk rfl rfl rfl ?_
    refine S.pureG tOk zOk rfl rfl (by repeat first | exact allT_nil | refine allT_cons (fun h => h) ?_ | refine allT_cons (fun h => andl h) ?_ | refine allT_cons (fun h => andl (andl h)) ?_ | refine allT_cons (fun _ => rfl) ?_) (fun _ => rfl) rfl ?_
    refine S.pureG tOk zOk rfl rfl (by repeat first | exact allT_nil | refine allT_cons (fun h => h) ?_ | refine allT_cons (fun h => andl h) ?_ | refine allT_cons (fun h => andl (andl h)) ?_ | refine allT_cons (fun _ => rfl) ?_) (fun _ => rfl) rfl ?_
    refine S.pureG tOk zOk rfl rfl (by repeat first | exact allT_nil | refine allT_cons (fun h => h) ?_ | refine allT_cons (fun h => andl h) ?_ | refine allT_cons (fun h => andl (andl h)) ?_ | refine allT_cons (fun _ => rfl) ?_) (fun _ => rfl) rfl ?_
    refine S.pureG tOk zOk rfl rfl (by repeat first | exact allT_nil | refine allT_cons (fun h => h) ?_ | refine allT_cons (fun h => andl h) ?_ | refine allT_cons (fun h => andl (andl h)) ?_ | refine allT_cons (fun _ => rfl) ?_) (fun _ => rfl) rfl ?_
    refine S.pureG tOk zOk rfl rfl (by repeat first | exact allT_nil | refine allT_cons (fun h => h) ?_ | refine allT_cons (fun h => andl h) ?_ | refine allT_cons (fun h => andl (andl h)) ?_ | refine allT_cons (fun _ => rfl) ?_) (fun _ => rfl) rfl ?_
    refine S.pureG tOk zOk rfl rfl (by repeat first | exact allT_nil | refine allT_cons (fun h => h) ?_ | refine allT_cons (fun h => andl h) ?_ | refine allT_cons (fun h => andl (andl h)) ?_ | refine allT_cons (fun _ => rfl) ?_) (fun _ => rfl) rfl ?_
    refine S.pureG tOk zOk rfl rfl (by repeat first | exact allT_nil | refine allT_cons (fun h => h) ?_ | refine allT_cons (fun h => andl h) ?_ | refine allT_cons (fun h => andl (andl h)) ?_ | refine allT_cons (fun _ => rfl) ?_) (fun _ => rfl) rfl ?_
    refine S.pureG tOk zOk rfl rfl (by repeat first | exact allT_nil | refine allT_cons (fun h => h) ?_ | refine allT_cons (fun h => andl h) ?_ | refine allT_cons (fun h => andl (andl h)) ?_ | refine allT_cons (fun _ => rfl) ?_) (fun _ => rfl) rfl ?_
    refine S.pureG tOk zOk rfl rfl (by repeat first | exact allT_nil | refine allT_cons (fun h => h) ?_ | refine allT_cons (fun h => andl h) ?_ | refine allT_cons (fun h => andl (andl h)) ?_ | refine allT_cons (fun _ => rfl) ?_) (fun _ => rfl) rfl ?_
    refine S.pureG tOk zOk rfl rfl (by repeat first | exact allT_nil | refine allT_cons (fun h => h) ?_ | refine allT_cons (fun h => andl h) ?_ | refine allT_cons (fun h => andl (andl h)) ?_ | refine allT_cons (fun _ => rfl) ?_) (fun _ => rfl) rfl ?_
    refine S.callG rfl rfl rfl rfl (by repeat first | exact allT_nil | refine allT_cons (fun h => h) ?_ | refine allT_cons (fun h => andl h) ?_ | refine allT_cons (fun h => andl (andl h)) ?_ | refine allT_cons (fun _ => rfl) ?_) rfl rfl (fun _ => pc_outlaw2_sameRange (CommonB ys zs).1 (comR ys zs) hcl) ?_
    refine S.pureG tOk zOk rfl rfl (by repeat first | exact allT_nil | refine allT_cons (fun h => h) ?_ | refine allT_cons (fun h => andl h) ?_ | refine allT_cons (fun h => andl (andl h)) ?_ | refine allT_cons (fun _ => rfl) ?_) (fun _ => rfl) rfl ?_
    refine S.pickOrG tOk zOk rfl rfl rfl (by repeat first | exact allT_nil | refine allT_cons (fun h => h) ?_ | refine allT_cons (fun h => andl h) ?_ | refine allT_cons (fun h => andl (andl h)) ?_ | refine allT_cons (fun _ => rfl) ?_) (by repeat first | exact allT_nil | refine allT_cons (fun h => h) ?_ | refine allT_cons (fun h => andl h) ?_ | refine allT_cons (fun h => andl (andl h)) ?_ | refine allT_cons (fun _ => rfl) ?_) ?_
    refine S.pickAndG tOk zOk rfl rfl rfl (by repeat first | exact allT_nil | refine allT_cons (fun h => h) ?_ | refine allT_cons (fun h => andl h) ?_ | refine allT_cons (fun h => andl (andl h)) ?_ | refine allT_cons (fun _ => rfl) ?_) (by repeat first | exact allT_nil | refine allT_cons (fun h => h) ?_ | refine allT_cons (fun h => andl h) ?_ | refine allT_cons (fun h => andl (andl h)) ?_ | refine allT_cons (fun _ => rfl) ?_) ?_
    refine S.pickOr tOk zOk rfl rfl (by repeat first | exact allT_nil | refine allT_cons (fun h => h) ?_ | refine allT_cons (fun h => andl h) ?_ | refine allT_cons (fun h => andl (andl h)) ?_ | refine allT_cons (fun _ => rfl) ?_) ?_
    refine thenK_n ?_
    refine W.cond rfl (fun c8 => ?_) (fun c8 => ?_)
    · exact absurd c8 (law_com c2)
    ·skip
     refine W.skip ?_
     refine thenK_n ?_
     refine W.seq ?_
     refine W.region ?_
     refine S.pure tOk zOk rfl rfl rfl ?_
     refine S.pure tOk zOk rfl rfl rfl ?_
     refine S.call rfl rfl rfl rfl rfl (pc_ver_Greatest ys (by omega) hsa l (by omega) hv) ?_
     refine S.pure tOk zOk rfl rfl rfl ?_
     refine S.pure tOk zOk rfl rfl rfl ?_
     refine S.pure tOk zOk rfl rfl rfl ?_
     refine S.pure tOk zOk rfl rfl rfl ?_
     refine S.pure tOk zOk rfl rfl rfl ?_
     refine thenK_n ?_
     refine W.seq ?_
     refine W.region ?_
     refine S.pure tOk zOk rfl rfl rfl ?_
     refine S.pure tOk zOk rfl rfl rfl ?_
     refine S.pure tOk zOk rfl rfl rfl ?_
     refine S.pure tOk zOk rfl rfl rfl ?_
     refine S.call rfl rfl rfl rfl rfl (pc_outref2_When _ _) ?_
     refine S.pure tOk zOk rfl rfl rfl ?_
     refine S.call rfl rfl rfl rfl rfl (pc_outref2_VersionError l hn hv) ?_
     refine S.slice tOk rfl rfl ?_
     refine S.call rfl rfl rfl rfl rfl (pc_outref2_First [rangeE ys, (if decide (((l.map verD).length : Int) > 1000) then 4 else 0), firstNe (l.map Ver.check)] (by simp)) ?_
     refine S.pure tOk zOk rfl rfl rfl ?_
     refine thenK_n ?_
     refine W.seq ?_
     refine W.region ?_
     refine S.pure tOk zOk rfl rfl rfl ?_
     refine thenK_n ?_
     refine W.seq ?_
     refine W.seq ?_
     refine W.region ?_
     refine S.pure tOk zOk rfl rfl rfl ?_
     refine S.pure tOk zOk rfl rfl rfl ?_
     refine thenK_n ?_
     refine W.cond rfl (fun c9 => ?_) (fun c9 => ?_)
     ·skip
      have hg := great_ok (ys := ys) (l := l) c9
      refine W.seq ?_
      refine W.seq ?_
      refine W.region ?_
      refine S.pure tOk zOk rfl rfl rfl ?_
      refine S.pure tOk zOk rfl rfl rfl ?_
      refine S.pure tOk zOk rfl rfl rfl ?_
      refine thenK_n ?_
      refine W.block ?_
      refine W.loop (fun k st => ∃ i : Nat, i ≤ l.length ∧ k = l.length - i ∧ ∃ t b2 r2 m2, st = ⟨t, [[.d (.vec 10 (ys.map spD))]] ++ b2, [] ++ r2, [] ++ m2⟩ ∧ holdsL t [(3, .one (.d (.vec 4 (l.map verD)))), (4, .one (.ptr 0 0)), (11, .one (.d (.int .i64 (GreatestB ys l).2))), (18, .one (.d (.int .i64 (GreatestB ys l).1))), (20, .one (.d (.int .i64 (bestTo ys l i)))), (163, .one (.d (.vec 4 (l.map verD)))), (164, .one (.d (.int .i64 ((l.map verD).length : Int)))), (165, .one (.d (.int .i64 (i : Int))))]) (l.length) ⟨0, Nat.zero_le _, rfl, _, _, _, _, rfl, rfl, rfl, rfl, rfl, by rw [bestTo_0]; rfl, rfl, rfl, rfl, trivial⟩ ?_
      rintro k0 _ ⟨i, f0_0, rfl, t0, bb0, rr0, mm0, rfl, hh0⟩
      refine W.keepR _ _ _ _ _ _ _ hh0 rfl ?_
      refine W.seq ?_
      refine W.region ?_
      refine S.pure tOk zOk rfl rfl rfl ?_
      refine thenK_n ?_
      refine W.seq ?_
      refine W.cond rfl (fun c10 => ?_) (fun c10 => ?_)
      ·skip
       have hi := row_lt c10
       refine W.skip ?_
       refine thenK_n ?_
       refine W.seq ?_
       refine W.block ?_
       refine W.seq ?_
       refine W.region ?_
       refine S.pure tOk zOk rfl rfl rfl ?_
       refine S.pureE tOk zOk rfl (row_ok hi) (row_at Ver.z hi) rfl ?_
       refine S.pure tOk zOk rfl rfl rfl ?_
       refine S.alloc tOk rfl rfl rfl rfl ?_
       refine S.pure tOk zOk rfl rfl rfl ?_
       refine S.store tOk rfl rfl rfl rfl rfl rfl rfl rfl ?_
       refine thenK_n ?_
       refine W.seq ?_
       refine W.regionD mixed (by kernel_rfl) ?_
       refine D.pure tOk zOk rfl rfl rfl rfl ?_
       refine D.pure tOk zOk rfl rfl rfl rfl ?_
       refine D.call rfl rfl rfl rfl rfl (pc_outref2_HasOf ys (by omega) hsa (l.getD i Ver.z) (ver_at hv hi)) ?_
       refine D.pure tOk zOk rfl rfl rfl rfl ?_
       refine D.pureG tOk zOk rfl rfl rfl (by repeat first | exact allT_nil | refine allT_cons (fun h => h) ?_ | refine allT_cons (fun h => andl h) ?_ | refine allT_cons (fun h => andl (andl h)) ?_ | refine allT_cons (fun _ => rfl) ?_) (fun _ => rfl) rfl ?_
       refine D.pureG tOk zOk rfl rfl rfl (by repeat first | exact allT_nil | refine allT_cons (fun h => h) ?_ | refine allT_cons (fun h => andl h) ?_ | refine allT_cons (fun h => andl (andl h)) ?_ | refine allT_cons (fun _ => rfl) ?_) (fun _ => rfl) rfl ?_
       refine D.pureG tOk zOk rfl rfl rfl (by repeat first | exact allT_nil | refine allT_cons (fun h => h) ?_ | refine allT_cons (fun h => andl h) ?_ | refine allT_cons (fun h => andl (andl h)) ?_ | refine allT_cons (fun _ => rfl) ?_) (fun _ => rfl) rfl ?_
       refine D.pureG tOk zOk rfl rfl rfl (by repeat first | exact allT_nil | refine allT_cons (fun h => h) ?_ | refine allT_cons (fun h => andl h) ?_ | refine allT_cons (fun h => andl (andl h)) ?_ | refine allT_cons (fun _ => rfl) ?_) (fun _ => rfl) rfl ?_
       refine D.pureG tOk zOk rfl rfl rfl (by repeat first | exact allT_nil | refine allT_cons (fun h => h) ?_ | refine allT_cons (fun h => andl h) ?_ | refine allT_cons (fun h => andl (andl h)) ?_ | refine allT_cons (fun _ => rfl) ?_) (fun _ => rfl) rfl ?_
       refine D.pureG tOk zOk rfl rfl rfl (by repeat first | exact allT_nil | refine allT_cons (fun h => h) ?_ | refine allT_cons (fun h => andl h) ?_ | refine allT_cons (fun h => andl (andl h)) ?_ | refine allT_cons (fun _ => rfl) ?_) (fun _ => rfl) rfl ?_
       refine D.pureEG tOk zOk rfl rfl rfl (by repeat first | exact allT_nil | refine allT_cons (fun h => h) ?_ | refine allT_cons (fun h => andl h) ?_ | refine allT_cons (fun h => andl (andl h)) ?_ | refine allT_cons (fun _ => rfl) ?_) (fun h => best_ok hi (by have q := andr h; simpa using q)) (best_at hi) rfl ?_
       refine D.pureG tOk zOk rfl rfl rfl (by repeat first | exact allT_nil | refine allT_cons (fun h => h) ?_ | refine allT_cons (fun h => andl h) ?_ | refine allT_cons (fun h => andl (andl h)) ?_ | refine allT_cons (fun _ => rfl) ?_) (fun _ => rfl) rfl ?_
       refine D.callG rfl rfl rfl rfl (by repeat first | exact allT_nil | refine allT_cons (fun h => h) ?_ | refine allT_cons (fun h => andl h) ?_ | refine allT_cons (fun h => andl (andl h)) ?_ | refine allT_cons (fun _ => rfl) ?_) rfl rfl (fun _ => pc_outref2_CompareOf (l.getD i Ver.z) (l.getD (bestTo ys l i).toNat Ver.z) (ver_at hv hi) (ver_at hv (best_lt hi))) ?_
       refine D.pureG tOk zOk rfl rfl rfl (by repeat first | exact allT_nil | refine allT_cons (fun h => h) ?_ | refine allT_cons (fun h => andl h) ?_ | refine allT_cons (fun h => andl (andl h)) ?_ | refine allT_cons (fun _ => rfl) ?_) (fun _ => rfl) rfl ?_
       refine D.pickOrG tOk zOk rfl rfl rfl (by repeat first | exact allT_nil | refine allT_cons (fun h => h) ?_ | refine allT_cons (fun h => andl h) ?_ | refine allT_cons (fun h => andl (andl h)) ?_ | refine allT_cons (fun _ => rfl) ?_) (by repeat first | exact allT_nil | refine allT_cons (fun h => h) ?_ | refine allT_cons (fun h => andl h) ?_ | refine allT_cons (fun h => andl (andl h)) ?_ | refine allT_cons (fun _ => rfl) ?_) ?_
       refine D.pickAnd tOk zOk rfl rfl (by repeat first | exact allT_nil | refine allT_cons (fun h => h) ?_ | refine allT_cons (fun h => andl h) ?_ | refine allT_cons (fun h => andl (andl h)) ?_ | refine allT_cons (fun _ => rfl) ?_) ?_
       refine thenK_n ?_
       refine W.cond rfl (fun c11 => ?_) (fun c11 => ?_)
       ·skip
        have cT : tryB ys l i = true := c11
        refine W.region ?_
        refine S.pure tOk zOk rfl rfl rfl ?_
        refine S.pure tOk zOk rfl rfl rfl ?_
        refine blockK_n ?_
        refine thenK_n ?_
        refine W.region ?_
        refine S.pure tOk zOk rfl rfl rfl ?_
        refine S.pure tOk zOk rfl rfl rfl ?_
        refine loop_n (l.length - (i + 1)) (by omega) ⟨i + 1, hi, rfl, _, _, _, _, rfl, rfl, rfl, rfl, rfl, by first | exact try_t hg.1 hg.2.1 hi cT | exact try_f hg.1 hg.2.1 hi cT, rfl, rfl, inc_i64 (by omega), trivial⟩
       ·skip
        have cT : tryB ys l i = false := c11
        refine W.skip ?_
        refine blockK_n ?_
        refine thenK_n ?_
        refine W.region ?_
        refine S.pure tOk zOk rfl rfl rfl ?_
        refine S.pure tOk zOk rfl rfl rfl ?_
        refine loop_n (l.length - (i + 1)) (by omega) ⟨i + 1, hi, rfl, _, _, _, _, rfl, rfl, rfl, rfl, rfl, by first | exact try_t hg.1 hg.2.1 hi cT | exact try_f hg.1 hg.2.1 hi cT, rfl, rfl, inc_i64 (by omega), trivial⟩
      ·skip
       have hi := row_ge c10
       obtain rfl : i = l.length := by omega
       refine W.exit ?_
       refine thenK_e ?_
       refine thenK_e ?_
       refine blockK_x ?_
       refine thenK_n ?_
       refine W.region ?_
       refine S.pure tOk zOk rfl rfl rfl ?_
       refine S.pure tOk zOk rfl rfl rfl ?_
       refine S.call rfl rfl rfl rfl rfl (pc_outref2_When _ _) ?_
       refine S.pure tOk zOk rfl rfl rfl ?_
       refine thenK_n ?_
       refine W.seq ?_
       refine W.region ?_
       refine S.pure tOk zOk rfl rfl rfl ?_
       refine S.pure tOk zOk rfl rfl rfl ?_
       refine S.pure tOk zOk rfl rfl rfl ?_
       refine S.pure tOk zOk rfl rfl rfl ?_
       refine S.pureG tOk zOk rfl rfl (by repeat first | exact allT_nil | refine allT_cons (fun h => h) ?_ | refine allT_cons (fun h => andl h) ?_ | refine allT_cons (fun h => andl (andl h)) ?_ | refine allT_cons (fun _ => rfl) ?_) (fun _ => rfl) rfl ?_
       refine S.pureG tOk zOk rfl rfl (by repeat first | exact allT_nil | refine allT_cons (fun h => h) ?_ | refine allT_cons (fun h => andl h) ?_ | refine allT_cons (fun h => andl (andl h)) ?_ | refine allT_cons (fun _ => rfl) ?_) (fun _ => rfl) rfl ?_
       refine S.pureG tOk zOk rfl rfl (by repeat first | exact allT_nil | refine allT_cons (fun h => h) ?_ | refine allT_cons (fun h => andl h) ?_ | refine allT_cons (fun h => andl (andl h)) ?_ | refine allT_cons (fun _ => rfl) ?_) (fun _ => rfl) rfl ?_
       refine S.pureG tOk zOk rfl rfl (by repeat first | exact allT_nil | refine allT_cons (fun h => h) ?_ | refine allT_cons (fun h => andl h) ?_ | refine allT_cons (fun h => andl (andl h)) ?_ | refine allT_cons (fun _ => rfl) ?_) (fun _ => rfl) rfl ?_
       refine S.pureG tOk zOk rfl rfl (by repeat first | exact allT_nil | refine allT_cons (fun h => h) ?_ | refine allT_cons (fun h => andl h) ?_ | refine allT_cons (fun h => andl (andl h)) ?_ | refine allT_cons (fun _ => rfl) ?_) (fun _ => rfl) rfl ?_
       refine S.pickAndG tOk zOk rfl rfl rfl (by repeat first | exact allT_nil | refine allT_cons (fun h => h) ?_ | refine allT_cons (fun h => andl h) ?_ | refine allT_cons (fun h => andl (andl h)) ?_ | refine allT_cons (fun _ => rfl) ?_) (by repeat first | exact allT_nil | refine allT_cons (fun h => h) ?_ | refine allT_cons (fun h => andl h) ?_ | refine allT_cons (fun h => andl (andl h)) ?_ | refine allT_cons (fun _ => rfl) ?_) ?_
       refine S.pureG tOk zOk rfl rfl (by repeat first | exact allT_nil | refine allT_cons (fun h => h) ?_ | refine allT_cons (fun h => andl h) ?_ | refine allT_cons (fun h => andl (andl h)) ?_ | refine allT_cons (fun _ => rfl) ?_) (fun _ => rfl) rfl ?_
       refine S.pureG tOk zOk rfl rfl (by repeat first | exact allT_nil | refine allT_cons (fun h => h) ?_ | refine allT_cons (fun h => andl h) ?_ | refine allT_cons (fun h => andl (andl h)) ?_ | refine allT_cons (fun _ => rfl) ?_) (fun _ => rfl) rfl ?_
       refine S.pureG tOk zOk rfl rfl (by repeat first | exact allT_nil | refine allT_cons (fun h => h) ?_ | refine allT_cons (fun h => andl h) ?_ | refine allT_cons (fun h => andl (andl h)) ?_ | refine allT_cons (fun _ => rfl) ?_) (fun _ => rfl) rfl ?_
       refine S.pureG tOk zOk rfl rfl (by repeat first | exact allT_nil | refine allT_cons (fun h => h) ?_ | refine allT_cons (fun h => andl h) ?_ | refine allT_cons (fun h => andl (andl h)) ?_ | refine allT_cons (fun _ => rfl) ?_) (fun _ => rfl) rfl ?_
       refine S.pureG tOk zOk rfl rfl (by repeat first | exact allT_nil | refine allT_cons (fun h => h) ?_ | refine allT_cons (fun h => andl h) ?_ | refine allT_cons (fun h => andl (andl h)) ?_ | refine allT_cons (fun _ => rfl) ?_) (fun _ => rfl) rfl ?_
       refine S.pureG tOk zOk rfl rfl (by repeat first | exact allT_nil | refine allT_cons (fun h => h) ?_ | refine allT_cons (fun h => andl h) ?_ | refine allT_cons (fun h => andl (andl h)) ?_ | refine allT_cons (fun _ => rfl) ?_) (fun _ => rfl) rfl ?_
       refine S.pureG tOk zOk rfl rfl (by repeat first | exact allT_nil | refine allT_cons (fun h => h) ?_ | refine allT_cons (fun h => andl h) ?_ | refine allT_cons (fun h => andl (andl h)) ?_ | refine allT_cons (fun _ => rfl) ?_) (fun _ => rfl) rfl ?_
       refine S.pickAndG tOk zOk rfl rfl rfl (by repeat first | exact allT_nil | refine allT_cons (fun h => h) ?_ | refine allT_cons (fun h => andl h) ?_ | refine allT_cons (fun h => andl (andl h)) ?_ | refine allT_cons (fun _ => rfl) ?_) (by repeat first | exact allT_nil | refine allT_cons (fun h => h) ?_ | refine allT_cons (fun h => andl h) ?_ | refine allT_cons (fun h => andl (andl h)) ?_ | refine allT_cons (fun _ => rfl) ?_) ?_
       refine S.pickOrG tOk zOk rfl rfl rfl (by repeat first | exact allT_nil | refine allT_cons (fun h => h) ?_ | refine allT_cons (fun h => andl h) ?_ | refine allT_cons (fun h => andl (andl h)) ?_ | refine allT_cons (fun _ => rfl) ?_) (by repeat first | exact allT_nil | refine allT_cons (fun h => h) ?_ | refine allT_cons (fun h => andl h) ?_ | refine allT_cons (fun h => andl (andl h)) ?_ | refine allT_cons (fun _ => rfl) ?_) ?_
       refine S.pickAnd tOk zOk rfl rfl (by repeat first | exact allT_nil | refine allT_cons (fun h => h) ?_ | refine allT_cons (fun h => andl h) ?_ | refine allT_cons (fun h => andl (andl h)) ?_ | refine allT_cons (fun _ => rfl) ?_) ?_
       refine S.pure tOk zOk rfl rfl rfl ?_
       refine thenK_n ?_
       refine W.ret ?_
       exact ⟨_, rfl, rfl, LeV.of_eq (congrArg (fun x => V.one (C.d (D.bool x))) (great_end2 (ys := ys) (l := l) c9))⟩
     ·skip
      refine W.skip ?_
      refine thenK_n ?_
      refine W.seq ?_
      refine W.region ?_
      refine S.pure tOk zOk rfl rfl rfl ?_
      refine S.pure tOk zOk rfl rfl rfl ?_
      refine S.pure tOk zOk rfl rfl rfl ?_
      refine S.pure tOk zOk rfl rfl rfl ?_
      refine S.pureG tOk zOk rfl rfl (by repeat first | exact allT_nil | refine allT_cons (fun h => h) ?_ | refine allT_cons (fun h => andl h) ?_ | refine allT_cons (fun h => andl (andl h)) ?_ | refine allT_cons (fun _ => rfl) ?_) (fun _ => rfl) rfl ?_
      refine S.pureG tOk zOk rfl rfl (by repeat first | exact allT_nil | refine allT_cons (fun h => h) ?_ | refine allT_cons (fun h => andl h) ?_ | refine allT_cons (fun h => andl (andl h)) ?_ | refine allT_cons (fun _ => rfl) ?_) (fun _ => rfl) rfl ?_
      refine S.pureG tOk zOk rfl rfl (by repeat first | exact allT_nil | refine allT_cons (fun h => h) ?_ | refine allT_cons (fun h => andl h) ?_ | refine allT_cons (fun h => andl (andl h)) ?_ | refine allT_cons (fun _ => rfl) ?_) (fun _ => rfl) rfl ?_
      refine S.pureG tOk zOk rfl rfl (by repeat first | exact allT_nil | refine allT_cons (fun h => h) ?_ | refine allT_cons (fun h => andl h) ?_ | refine allT_cons (fun h => andl (andl h)) ?_ | refine allT_cons (fun _ => rfl) ?_) (fun _ => rfl) rfl ?_
      refine S.pureG tOk zOk rfl rfl (by repeat first | exact allT_nil | refine allT_cons (fun h => h) ?_ | refine allT_cons (fun h => andl h) ?_ | refine allT_cons (fun h => andl (andl h)) ?_ | refine allT_cons (fun _ => rfl) ?_) (fun _ => rfl) rfl ?_
      refine S.pickAndG tOk zOk rfl rfl rfl (by repeat first | exact allT_nil | refine allT_cons (fun h => h) ?_ | refine allT_cons (fun h => andl h) ?_ | refine allT_cons (fun h => andl (andl h)) ?_ | refine allT_cons (fun _ => rfl) ?_) (by repeat first | exact allT_nil | refine allT_cons (fun h => h) ?_ | refine allT_cons (fun h => andl h) ?_ | refine allT_cons (fun h => andl (andl h)) ?_ | refine allT_cons (fun _ => rfl) ?_) ?_
      refine S.pureG tOk zOk rfl rfl (by repeat first | exact allT_nil | refine allT_cons (fun h => h) ?_ | refine allT_cons (fun h => andl h) ?_ | refine allT_cons (fun h => andl (andl h)) ?_ | refine allT_cons (fun _ => rfl) ?_) (fun _ => rfl) rfl ?_
      refine S.pureG tOk zOk rfl rfl (by repeat first | exact allT_nil | refine allT_cons (fun h => h) ?_ | refine allT_cons (fun h => andl h) ?_ | refine allT_cons (fun h => andl (andl h)) ?_ | refine allT_cons (fun _ => rfl) ?_) (fun _ => rfl) rfl ?_
      refine S.pureG tOk zOk rfl rfl (by repeat first | exact allT_nil | refine allT_cons (fun h => h) ?_ | refine allT_cons (fun h => andl h) ?_ | refine allT_cons (fun h => andl (andl h)) ?_ | refine allT_cons (fun _ => rfl) ?_) (fun _ => rfl) rfl ?_
      refine S.pureG tOk zOk rfl rfl (by repeat first | exact allT_nil | refine allT_cons (fun h => h) ?_ | refine allT_cons (fun h => andl h) ?_ | refine allT_cons (fun h => andl (andl h)) ?_ | refine allT_cons (fun _ => rfl) ?_) (fun _ => rfl) rfl ?_
      refine S.pureG tOk zOk rfl rfl (by repeat first | exact allT_nil | refine allT_cons (fun h => h) ?_ | refine allT_cons (fun h => andl h) ?_ | refine allT_cons (fun h => andl (andl h)) ?_ | refine allT_cons (fun _ => rfl) ?_) (fun _ => rfl) rfl ?_
      refine S.pureG tOk zOk rfl rfl (by repeat first | exact allT_nil | refine allT_cons (fun h => h) ?_ | refine allT_cons (fun h => andl h) ?_ | refine allT_cons (fun h => andl (andl h)) ?_ | refine allT_cons (fun _ => rfl) ?_) (fun _ => rfl) rfl ?_
      refine S.pureG tOk zOk rfl rfl (by repeat first | exact allT_nil | refine allT_cons (fun h => h) ?_ | refine allT_cons (fun h => andl h) ?_ | refine allT_cons (fun h => andl (andl h)) ?_ | refine allT_cons (fun _ => rfl) ?_) (fun _ => rfl) rfl ?_
      refine S.pickAndG tOk zOk rfl rfl rfl (by repeat first | exact allT_nil | refine allT_cons (fun h => h) ?_ | refine allT_cons (fun h => andl h) ?_ | refine allT_cons (fun h => andl (andl h)) ?_ | refine allT_cons (fun _ => rfl) ?_) (by repeat first | exact allT_nil | refine allT_cons (fun h => h) ?_ | refine allT_cons (fun h => andl h) ?_ | refine allT_cons (fun h => andl (andl h)) ?_ | refine allT_cons (fun _ => rfl) ?_) ?_
      refine S.pickOrG tOk zOk rfl rfl rfl (by repeat first | exact allT_nil | refine allT_cons (fun h => h) ?_ | refine allT_cons (fun h => andl h) ?_ | refine allT_cons (fun h => andl (andl h)) ?_ | refine allT_cons (fun _ => rfl) ?_) (by repeat first | exact allT_nil | refine allT_cons (fun h => h) ?_ | refine allT_cons (fun h => andl h) ?_ | refine allT_cons (fun h => andl (andl h)) ?_ | refine allT_cons (fun _ => rfl) ?_) ?_
      refine S.pickAnd tOk zOk rfl rfl (by repeat first | exact allT_nil | refine allT_cons (fun h => h) ?_ | refine allT_cons (fun h => andl h) ?_ | refine allT_cons (fun h => andl (andl h)) ?_ | refine allT_cons (fun _ => rfl) ?_) ?_
      refine S.pure tOk zOk rfl rfl rfl ?_
      refine thenK_n ?_
      refine W.ret ?_
      exact ⟨_, rfl, rfl, LeV.of_eq (congrArg (fun x => V.one (C.d (D.bool x))) (great_end1 (ys := ys) (l := l) c9 _))⟩
end Go.Proofs.YtnphejkeflngcaaGreatDoor

/- From a row's argument to pure data: decoders, put together type by type. -/
set_option linter.unusedVariables false
set_option linter.unusedSimpArgs false
namespace Go.Proofs.YtnphejkeflngcaaGreatDoor
open Go Go.RowKit Go.ChangeShapes
/-- Cells that hold these data, all blocks of the world being left as they are. -/
def RDs (w : World) (cs : List Value) (ds : List D) : Prop :=
  cs.length = ds.length ∧ ∀ (i : Nat) (c : Value) (d : D), cs[i]? = some c → ds[i]? = some d → RD (fun b => b < w.heap.size) w d c
theorem RDs.one {w : World} {c : Value} {d : D} (h : RD (fun b => b < w.heap.size) w d c) : RDs w [c] [d] :=
  ⟨rfl, fun i a b h1 h2 => by
    match i with
    | 0 => simp at h1 h2; subst h1; subst h2; exact h
    | i + 1 => simp at h1⟩
theorem RDs.append {w : World} {a b : List Value} {x y : List D} (h1 : RDs w a x) (h2 : RDs w b y) : RDs w (a ++ b) (x ++ y) := by
  refine ⟨by simp [h1.1, h2.1], fun i c d hc hd => ?_⟩
  by_cases hi : i < a.length
  · rw [List.getElem?_append_left hi] at hc
    rw [List.getElem?_append_left (by rw [← h1.1]; exact hi)] at hd
    exact h1.2 i c d hc hd
  · rw [List.getElem?_append_right (by omega)] at hc
    rw [List.getElem?_append_right (by rw [← h1.1]; omega)] at hd
    rw [← h1.1] at hd
    exact h2.2 _ c d hc hd
/-- A decoder of a type: the data that its cells hold; what is known of it, where the reading's bulk is N. -/
structure Dec (P : Program) (t : TypeId) (α : Type) where
  ds : α → List D
  wf : Nat → α → Prop
  up : ∀ (m n : Nat) (x : α), m ≤ n → wf m x → wf n x
  ok : ∀ {H : Type} {enc : TypeId × Value → H} {w : World} {fuel : Nat} {cs : List Value} {d : DataW H} {ps : List MemPlace}, DataW.trod enc P w 0 (fun _ => true) true fuel t cs = some (d, ps) →
    ∃ x : α, RDs w cs (ds x) ∧ wf (Rows.uptoBulk d) x
theorem trod_int {H : Type} {enc : TypeId × Value → H} {P : Program} {w : World} {fuel : Nat} {t : TypeId} {cs : List Value} {x : DataW H × List MemPlace} {k : IntKind} (ht : P.underlying t = some (.int k)) (h : DataW.trod enc P w 0 (fun _ => true) true fuel t cs = some x) :
    ∃ n, cs = [.int k n] ∧ (Lit.int k n).wf = true := by
  cases fuel with
  | zero => simp [DataW.trod] at h
  | succ fuel =>
    unfold DataW.trod at h
    rw [ht] at h
    split at h <;> first
      | (rename_i k1 k2 n he1 he2
         simp only [Option.some.injEq, TypeDesc.int.injEq] at he1
         subst he1
         split at h
         · rename_i hk; exact ⟨n, by rw [hk.1], hk.2⟩
         · cases h)
      | (simp_all; done)
theorem trod_bool' {H : Type} {enc : TypeId × Value → H} {P : Program} {w : World} {fuel : Nat} {t : TypeId} {cs : List Value} {x : DataW H × List MemPlace} (ht : P.underlying t = some .bool) (h : DataW.trod enc P w 0 (fun _ => true) true fuel t cs = some x) :
    ∃ b, cs = [.bool b] := by
  cases fuel with
  | zero => simp [DataW.trod] at h
  | succ fuel =>
    unfold DataW.trod at h
    rw [ht] at h
    split at h <;> first
      | exact ⟨_, rfl⟩
      | (simp_all; done)
theorem trod_str {H : Type} {enc : TypeId × Value → H} {P : Program} {w : World} {fuel : Nat} {t : TypeId} {cs : List Value} {x : DataW H × List MemPlace} (ht : P.underlying t = some .string) (h : DataW.trod enc P w 0 (fun _ => true) true fuel t cs = some x) :
    ∃ s : ByteArray, cs = [.string s] ∧ x.1 = .lit (.string s.data.toList) := by
  cases fuel with
  | zero => simp [DataW.trod] at h
  | succ fuel =>
    unfold DataW.trod at h
    rw [ht] at h
    split at h <;> first
      | (split at h
         · cases h; exact ⟨_, rfl, rfl⟩
         · cases h)
      | (simp_all; done)
def Dec.int {P : Program} {t : TypeId} (k : IntKind) (ht : P.underlying t = some (.int k)) : Dec P t Int where
  ds n := [.int k n]
  wf _ n := (Lit.int k n).wf = true
  up _ _ _ _ h := h
  ok h := by
    obtain ⟨n, rfl, hw⟩ := trod_int ht h
    exact ⟨n, .one (.int _ _), hw⟩
def Dec.bool {P : Program} {t : TypeId} (ht : P.underlying t = some .bool) : Dec P t Bool where
  ds n := [.bool n]
  wf _ n := True
  up _ _ _ _ h := h
  ok h := by
    obtain ⟨n, rfl⟩ := trod_bool' ht h
    exact ⟨n, .one (.bool _), trivial⟩
def Dec.str {P : Program} {t : TypeId} (ht : P.underlying t = some .string) : Dec P t (List UInt8) where
  ds s := [.str s]
  wf N s := s.length < N
  up _ _ _ h1 h := Nat.lt_of_lt_of_le h h1
  ok h := by
    obtain ⟨s, rfl, hx⟩ := trod_str ht h
    refine ⟨s.data.toList, .one (.str s.data.toList), ?_⟩
    simp only at hx
    rw [hx]
    simp [Rows.uptoBulk]
theorem mapM_len {α β : Type} {f : α → Option β} : ∀ {l : List α} {r : List β}, l.mapM f = some r → r.length = l.length
  | [], r, h => by simp at h; subst h; rfl
  | a :: l, r, h => by
    simp only [List.mapM_cons, Option.bind_eq_bind, Option.bind_eq_some_iff, Option.pure_def, Option.some.injEq] at h
    obtain ⟨b, hb, r', hr', rfl⟩ := h
    simp [mapM_len hr']
/-- The fields of a struct, one behind the other. -/
structure DecF (P : Program) (fs : List Field) (off tot : Nat) (α : Type) where
  ds : α → List D
  wf : Nat → α → Prop
  up : ∀ (m n : Nat) (x : α), m ≤ n → wf m x → wf n x
  ok : ∀ {H : Type} {enc : TypeId × Value → H} {w : World} {fuel : Nat} {cs : List Value} {xs : List (DataW H × List MemPlace)}, cs.length = tot →
    fs.mapM (fun f => DataW.trod enc P w 0 (fun _ => true) true fuel f.type ((cs.drop f.offset).take (P.cellsOf f.type))) = some xs →
    ∃ x : α, RDs w (cs.drop off) (ds x) ∧ wf (Rows.uptoBulkAll (xs.map (·.1))) x
def DecF.nil {P : Program} (tot : Nat) : DecF P [] tot tot Unit where
  ds _ := []
  wf _ _ := True
  up _ _ _ _ h := h
  ok hl h := ⟨(), ⟨by simp [hl], fun i c d h1 h2 => by simp at h2⟩, trivial⟩
def DecF.cons {P : Program} {f : Field} {fs : List Field} {off tot n : Nat} {α β : Type} (de : Dec P f.type α) (ho : f.offset = off) (hn : P.cellsOf f.type = n) (r : DecF P fs (off + n) tot β) : DecF P (f :: fs) off tot (α × β) where
  ds x := de.ds x.1 ++ r.ds x.2
  wf N x := de.wf N x.1 ∧ r.wf N x.2
  up m n x h hx := ⟨de.up m n x.1 h hx.1, r.up m n x.2 h hx.2⟩
  ok {H enc w fuel cs xs} hl h := by
    simp only [List.mapM_cons, Option.bind_eq_bind, Option.bind_eq_some_iff, Option.pure_def, Option.some.injEq] at h
    obtain ⟨b, hb, r', hr', rfl⟩ := h
    obtain ⟨x, h1, h2⟩ := de.ok (d := b.1) (ps := b.2) hb
    obtain ⟨y, h3, h4⟩ := r.ok hl hr'
    refine ⟨(x, y), ?_, de.up _ _ _ ?_ h2, r.up _ _ _ ?_ h4⟩
    · have e : cs.drop off = (cs.drop f.offset).take (P.cellsOf f.type) ++ cs.drop (off + n) := by
        rw [ho, hn, ← List.drop_drop, List.take_append_drop]
      rw [e]; exact h1.append h3
    · simp only [List.map_cons, Rows.uptoBulkAll]; omega
    · simp only [List.map_cons, Rows.uptoBulkAll]; omega
def Dec.struct {P : Program} {t : TypeId} {fs : Array Field} {tot : Nat} {α : Type} (ht : P.underlying t = some (.struct fs)) (hc : P.cellsOf t = tot) (r : DecF P fs.toList 0 tot α) : Dec P t α where
  ds := r.ds
  wf := r.wf
  up := r.up
  ok {H enc w fuel cs d ps} h := by
    cases fuel with
    | zero => simp [DataW.trod] at h
    | succ fuel =>
      unfold DataW.trod at h
      rw [ht] at h
      split at h <;> first
        | (rename_i he1
           simp only [Option.some.injEq, TypeDesc.struct.injEq] at he1
           subst he1
           split at h
           · rename_i hl
             simp only [Option.map_eq_some_iff] at h
             obtain ⟨xs, hx, he⟩ := h
             obtain ⟨x, h1, h2⟩ := r.ok (hl.trans hc) hx
             cases he
             exact ⟨x, h1, r.up _ _ _ (by simp only [Rows.uptoBulk]; omega) h2⟩
           · cases h)
        | (simp_all; done)
def Dec.iso {P : Program} {t : TypeId} {α β : Type} (d : Dec P t α) (f : α → β) (ds : β → List D) (wf : Nat → β → Prop) (up : ∀ (m n : Nat) (x : β), m ≤ n → wf m x → wf n x) (hd : ∀ a, d.ds a = ds (f a)) (hw : ∀ N a, d.wf N a → wf N (f a)) : Dec P t β where
  ds := ds
  wf := wf
  up := up
  ok h := by
    obtain ⟨x, h1, h2⟩ := d.ok h
    exact ⟨f x, hd x ▸ h1, hw _ _ h2⟩
theorem choose_list {α : Type} {Q : Nat → α → Prop} : ∀ (n : Nat), (∀ i, i < n → ∃ x, Q i x) → ∃ xs : List α, xs.length = n ∧ ∀ i x, xs[i]? = some x → Q i x
  | 0, _ => ⟨[], rfl, fun i x h => by simp at h⟩
  | n + 1, h => by
    obtain ⟨xs, h1, h2⟩ := choose_list n (fun i hi => h i (by omega))
    obtain ⟨x, hx⟩ := h n (by omega)
    refine ⟨xs ++ [x], by simp [h1], fun i y hy => ?_⟩
    by_cases hi : i < xs.length
    · rw [List.getElem?_append_left hi] at hy; exact h2 i y hy
    · rw [List.getElem?_append_right (by omega)] at hy
      have e : i = n := by
        apply Decidable.byContradiction; intro hne
        rw [List.getElem?_eq_none (by simp; omega)] at hy; cases hy
      subst e
      rw [h1] at hy
      simp at hy; subst hy; exact hx
theorem cells_at {w : World} {a : Addr} {n : Nat} {cs : List Value} (h : w.cells? 0 a n = some cs) : cs.length = n ∧ ∀ j, j < n → w.cell? (a.add j) = cs[j]? := by
  unfold World.cells? at h
  rw [if_pos (Nat.zero_le _)] at h
  have hl := mapM_len h
  simp at hl
  refine ⟨hl, fun j hj => ?_⟩
  obtain ⟨b, h1, h2⟩ := Lib.mapM_at h j j (by simp [hj])
  rw [h1, h2]
theorem spot_none {w : World} {a : Addr} {v : Value} (h : w.cell? a = some v) : a.spot = none := by
  unfold World.cell? at h
  split at h
  · split at h
    · cases h
    · rename_i hs; simpa using hs
  · cases h
theorem bulk_mem {H : Type} {x : DataW H} : ∀ {l : List (DataW H)}, x ∈ l → Rows.uptoBulk x ≤ Rows.uptoBulkAll l
  | [], h => by cases h
  | a :: l, h => by
    simp only [Rows.uptoBulkAll]
    rcases List.mem_cons.1 h with rfl | h
    · omega
    · have := bulk_mem h; omega
theorem bulk_pos {H : Type} (d : DataW H) : 1 ≤ Rows.uptoBulk d := by
  cases d with
  | lit l => cases l <;> simp [Rows.uptoBulk]
  | _ => simp [Rows.uptoBulk]
theorem bulk_len {H : Type} : ∀ (l : List (DataW H)), l.length ≤ Rows.uptoBulkAll l
  | [] => by simp
  | a :: l => by
    have h1 := bulk_pos a
    have h2 := bulk_len l
    simp only [Rows.uptoBulkAll, List.length_cons]; omega
def Dec.slice {P : Program} {t e : TypeId} {sz : Nat} {α : Type} (ht : P.underlying t = some (.slice e)) (hc : P.cellsOf e = sz) (h0 : 0 < sz) (de : Dec P e α) : Dec P t (List α) where
  ds xs := [.vec sz (xs.map de.ds)]
  wf N xs := xs.length < N ∧ ∀ x ∈ xs, de.wf N x
  up m n xs h hx := ⟨by omega, fun x hm => de.up m n x h (hx.2 x hm)⟩
  ok {H enc w fuel cs d ps} h := by
    rcases DataW.trod_slice ht h with h1 | ⟨a, len, cap, elems, rest, n, _, rfl, hx, hb, hl, hm, hlen, hel, hsp, hns⟩
    · obtain ⟨rfl, h2⟩ := h1
      cases h2
      exact ⟨[], .one (.empty _ _ _), by simp [Rows.uptoBulk], by simp⟩
    · have key : ∀ i, i < len → ∃ x, ∃ cs' : List Value, ∃ y, elems[i]? = some y ∧ w.cells? 0 (a.add (i * sz)) sz = some cs' ∧ RDs w cs' (de.ds x) ∧ de.wf (Rows.uptoBulk y.1) x := fun i hi => by
        have h1 := hel i hi
        have h2 : elems[i]? = some (elems[i]'(by omega)) := List.getElem?_eq_getElem _
        rw [h2, hc, Option.bind_eq_some_iff] at h1
        obtain ⟨cs', h3, h4⟩ := h1
        obtain ⟨x, h5, h6⟩ := de.ok (d := (elems[i]'(by omega)).1) (ps := (elems[i]'(by omega)).2) h4
        exact ⟨x, cs', _, h2, h3, h5, h6⟩
      obtain ⟨xs, hxl, hxs⟩ := choose_list len key
      cases hx
      refine ⟨xs, .one ?_, ?_, fun x hx => ?_⟩
      · by_cases hne : xs = []
        · subst hne
          simp at hxl
          rw [← hxl]
          exact .empty _ _ _
        · have hpos : 0 < len := by
            cases xs with
            | nil => exact absurd rfl hne
            | cons x l => rw [← hxl]; simp
          have hs : a.spot = none := by
            obtain ⟨x, cs', y, _, h3, _⟩ := key 0 hpos
            obtain ⟨h4, h5⟩ := cells_at h3
            have h6 := h5 0 h0
            have h7 : cs'[0]? = some (cs'[0]'(by omega)) := List.getElem?_eq_getElem _
            rw [h7] at h6
            simp only [Addr.add, Nat.zero_mul, if_true] at h6
            exact spot_none h6
          have hadd : ∀ i j, (a.add (i * sz)).add j = ⟨a.block, a.off + i * sz + j, none⟩ := fun i j => by
            cases a with
            | mk b o s =>
              simp only at hs; subst hs
              unfold Addr.add
              by_cases h1 : i * sz = 0 <;> by_cases h2 : j = 0 <;> simp [h1, h2]
          have hat : ∀ (i j : Nat) (x : List D) (d : D), (xs.map de.ds)[i]? = some x → x[j]? = some d → ∃ v, w.cell? ⟨a.block, a.off + i * sz + j, none⟩ = some v ∧ RD (fun b => b < w.heap.size) w d v := fun i j x d h1 h2 => by
            simp only [List.getElem?_map, Option.map_eq_some_iff] at h1
            obtain ⟨x', h1, rfl⟩ := h1
            obtain ⟨cs', y, _, h3, h4, _⟩ := hxs i x' h1
            obtain ⟨h5, h6⟩ := cells_at h3
            have hj : j < sz := by
              have := (List.getElem?_eq_some_iff.1 h2).1
              rw [← h4.1, h5] at this; exact this
            have h7 : cs'[j]? = some (cs'[j]'(by omega)) := List.getElem?_eq_getElem _
            have h8 := h6 j hj
            rw [hadd, h7] at h8
            exact ⟨_, h8, h4.2 j _ d h7 h2⟩
          have hal : a = ⟨a.block, a.off, none⟩ := by cases a; simp only at hs; subst hs; rfl
          have hlen' : len = (xs.map de.ds).length := by simp [hxl]
          rw [hal, hlen']
          refine RD.vec sz (xs.map de.ds) a.block a.off cap (fun i j => (w.cell? ⟨a.block, a.off + i * sz + j, none⟩).getD undef) (by simpa using hne) (by rw [← hlen']; exact hl) ?_ ?_ ?_ ?_
          · obtain ⟨x, cs', y, _, h3, _⟩ := key 0 hpos
            obtain ⟨h4, h5⟩ := cells_at h3
            have h6 := h5 0 h0
            have h7 : cs'[0]? = some (cs'[0]'(by omega)) := List.getElem?_eq_getElem _
            rw [h7, hadd] at h6
            apply Decidable.byContradiction; intro hn
            unfold World.cell? at h6
            rw [Array.getElem?_eq_none (by simp only at hn ⊢; omega)] at h6
            cases h6
          · intro x hx
            simp only [List.mem_map] at hx
            obtain ⟨x', hx', rfl⟩ := hx
            obtain ⟨i, hi⟩ := List.getElem?_of_mem hx'
            obtain ⟨cs', y, _, h3, h4, _⟩ := hxs i x' hi
            rw [← h4.1]; exact (cells_at h3).1
          · intro i j x d h1 h2
            obtain ⟨v, h3, _⟩ := hat i j x d h1 h2
            rw [h3]; rfl
          · intro i j x d h1 h2
            obtain ⟨v, h3, h4⟩ := hat i j x d h1 h2
            simp only [h3, Option.getD_some]; exact h4
      · have h1 := bulk_len (elems.map (·.1))
        simp only [Rows.uptoBulk, List.length_map] at h1 ⊢; omega
      · obtain ⟨i, hi⟩ := List.getElem?_of_mem hx
        obtain ⟨cs', y, h2, _, _, h4⟩ := hxs i x hi
        refine de.up _ _ _ ?_ h4
        have := bulk_mem (x := y.1) (l := elems.map (·.1)) (List.mem_map.2 ⟨y, List.mem_of_getElem? h2, rfl⟩)
        simp only [Rows.uptoBulk]; omega
end Go.Proofs.YtnphejkeflngcaaGreatDoor

/- From a pure call to a row's statement. -/
set_option linter.unusedVariables false
set_option linter.unusedSimpArgs false
namespace Go.Proofs.YtnphejkeflngcaaGreatDoor
open Go Go.RowKit Go.ChangeShapes Go.WideShapes Go.ChangeAt
theorem Below.trodAll {H : Type} {enc : TypeId × Value → H} {P : Program} (hl : laidOutB P = true) {W W' : World} (hb : Below W.heap.size W W') : ∀ {ts : List TypeId} {vs : List Value} {ds : List (DataW H)} {ps : List MemPlace},
    ts.all (fun t => P.readableRec t && decide (t < P.types.size)) = true → DataW.TrodAll enc P W 0 (fun _ => true) true ts vs ds ps → (∀ x ∈ ps, x.block < W.heap.size) → DataW.TrodAll enc P W' 0 (fun b => decide (b < W.heap.size)) true ts vs ds ps
  | [], [], [], _, _, h, _ => h
  | [], [], _ :: _, _, _, h, _ => h.elim
  | [], _ :: _, _, _, _, h, _ => h.elim
  | _ :: _, [], _, _, _, h, _ => h.elim
  | _ :: _, _ :: _, [], _, _, h, _ => h.elim
  | t :: ts, v :: vs, d :: ds, ps, ha, h, hp => by
    simp only [List.all_cons, Bool.and_eq_true, decide_eq_true_eq] at ha
    obtain ⟨p, q, h1, h2, rfl⟩ := h
    exact ⟨p, q, Below.trod hl ha.1.1 ha.1.2 h1 hb (fun x hx => hp x (List.mem_append.2 (.inl hx))), Below.trodAll hl hb (by simpa using ha.2) h2 (fun x hx => hp x (List.mem_append.2 (.inr hx))), rfl⟩
theorem law_post {P : Program} {J : Inv} {f : FuncId} {fn : Func} {s : ChangeSpec} {tb : TypeId} (hl : laidOutB P = true) (hts : fn.params.toList.all (fun t => P.readableRec t && decide (t < P.types.size)) = true)
    (hv : s.vars = []) (hres : fn.resultTypes = #[tb]) (htb : P.underlying tb = some .bool) {H : Type} {enc : TypeId × Value → H} {W : World} {args : Array Value} {ds gs : List (DataW H)} {before : List MemPlace}
    (hW : DataW.Whole enc P fn.params.toList s.vars false W args.toList ds gs before) (hs : (s.fn H (ds ++ gs)).results = [.lit (.bool true)] ∧ (s.fn H (ds ++ gs)).args = ds ∧ (s.fn H (ds ++ gs)).vars = [])
    {us : List V} (pc : PureCall P J f us (.one (.d (.bool true)))) (hJ : J.I W) (hn : args.size = us.length) (hx : ∀ (i : Nat) (u : V) (v : Value), us[i]? = some u → args[i]? = some v → RV (noGh fun b => b < W.heap.size) noSh W u v) :
    Calls P f args W fun e W' => ∃ v, e = .returned v ∧ s.post enc P fn false true false false W args v W' := by
  have h := pc.calls (fun b => b < W.heap.size) W args.toList hJ (fun b hb => hb) (by simpa using hn) (fun i u v h1 h2 => hx i u v h1 (by simpa using h2))
  have h' : Calls P f args W _ := h
  refine h'.mono fun e W' ⟨v, im', he, hB, _, _, _, hr⟩ => ⟨v, he, ?_⟩
  obtain rfl : v = .bool true := by
    cases hr with | one _ _ h => cases h with | d _ _ h => cases h with | bool => rfl
  have hlt : ∀ x ∈ before, x.block < W.heap.size := fun x hx => by simpa using hW.lt x hx
  have hW' := hW
  obtain ⟨p, q, hA, hV, rfl, _, _⟩ := hW
  rw [hv] at hV
  have hgs : gs = [] ∧ q = [] := by
    cases gs with
    | nil => exact ⟨rfl, hV⟩
    | cons g gs => exact hV.elim
  obtain ⟨rfl, rfl⟩ := hgs
  refine ⟨ds, [], p ++ [], [], p, [], hW', ?_, ?_, ?_, hB.frame _, fun h => by cases h⟩
  · rw [hs.1, hres]
    exact trodAll_cons_mk (shut_bool htb true) trodAll_mk0
  · rw [hs.2.1]
    exact Below.trodAll hl hB hts hA (fun x hx => hlt x (by simp [hx]))
  · rw [hs.2.2, hv]; rfl
/-- An argument that is a struct or an array; one that is not. -/
theorem arg_agg {P : Program} {t : TypeId} {α : Type} (de : Dec P t α) {W : World} {r : Reach} {base : Nat} {v : Value} (ht : (match P.underlying t with | some (.struct _) | some (.array _ _) => true | _ => false) = true) (hv : Value.okWide P W r base t v)
    {H : Type} {enc : TypeId × Value → H} {d : DataW H} {ps : List MemPlace} (h : DataW.Trod enc P W 0 (fun _ => true) true t v d ps) : ∃ x : α, RV (noGh fun b => b < W.heap.size) noSh W (.agg ((de.ds x).map .d)) v ∧ de.wf (Rows.uptoBulk d) x := by
  obtain ⟨fuel, h⟩ := h
  obtain ⟨x, h1, h2⟩ := de.ok h
  refine ⟨x, ?_, h2⟩
  have hc : ∃ cs, v = .agg cs := by
    unfold Value.okWide at hv
    split at hv
    · exact ⟨_, hv.choose_spec.1⟩
    · exact ⟨_, hv.choose_spec.1⟩
    · rename_i h3 h4
      split at ht
      · rename_i fs h5; exact absurd h5 (h3 _)
      · rename_i n e h5; exact absurd h5 (h4 _ _)
      · cases ht
  obtain ⟨cs, rfl⟩ := hc
  have h3 : RDs W cs.toList (de.ds x) := h1
  have := RV.agg (g := noGh fun b => b < W.heap.size) (h := noSh) (w := W) ((de.ds x).map .d) cs.toList (by simp [h3.1]) (fun i c v hc hv => by
    simp only [List.getElem?_map, Option.map_eq_some_iff] at hc
    obtain ⟨d, hd, rfl⟩ := hc
    exact .d _ _ (h3.2 i v d hv hd))
  simpa using this
theorem arg_one {P : Program} {t : TypeId} {α : Type} (de : Dec P t α) {W : World} {r : Reach} {base : Nat} {v : Value} (ht : (match P.underlying t with | some .bool | some (.int _) | some .string | some (.slice _) | some (.pointer _) | some (.map _ _) => true | _ => false) = true) (hv : Value.okWide P W r base t v)
    {H : Type} {enc : TypeId × Value → H} {d : DataW H} {ps : List MemPlace} (h : DataW.Trod enc P W 0 (fun _ => true) true t v d ps) : ∃ x : α, (∀ e, de.ds x = [e] → RV (noGh fun b => b < W.heap.size) noSh W (.one (.d e)) v) ∧ de.wf (Rows.uptoBulk d) x := by
  obtain ⟨fuel, h⟩ := h
  obtain ⟨x, h1, h2⟩ := de.ok h
  refine ⟨x, fun e he => ?_, h2⟩
  have hc : v.cells.toList = [v] := by
    cases v with
    | agg cs =>
      exfalso
      unfold Value.okWide Cell.okWide Cell.ok at hv
      split at ht <;> simp_all
    | _ => rfl
  rw [hc, he] at h1
  exact .one _ _ (.d _ _ (h1.2 0 v e rfl rfl))
end Go.Proofs.YtnphejkeflngcaaGreatDoor

/- The world in which a row's call begins: what the listed variables give; a world for the witness. -/
set_option linter.unusedVariables false
set_option linter.unusedSimpArgs false
set_option maxRecDepth 100000
namespace Go.Proofs.YtnphejkeflngcaaGreatDoor
open Go Go.RowKit Go.ChangeShapes Go.WideShapes Go.ChangeAt
theorem trod_iface {H : Type} {enc : TypeId × Value → H} {P : Program} {w : World} {fuel : Nat} {t : TypeId} {cs : List Value} {nm : String} {x : DataW H} {p : List MemPlace} {ms : Array (String × TypeId)} (ht : P.underlying t = some (.interface ms))
    (h : DataW.trod enc P w 0 (fun _ => true) false fuel t cs = some (.iface nm x, p)) : ∃ u v, cs = [.iface u v] := by
  cases fuel with
  | zero => simp [DataW.trod] at h
  | succ fuel =>
    unfold DataW.trod at h
    rw [ht] at h
    split at h <;> first
      | exact ⟨_, _, rfl⟩
      | (simp_all; done)
theorem err_of {P : Program} {W : World} {n : String} {nm : String} {d : DataW Unit} {g : Nat} {t : TypeId} {ms : Array (String × TypeId)} (hg : P.globalNamed n = some g) (hty : (P.globals[g]?).map (·.type) = some t) (ht : P.underlying t = some (.interface ms))
    (h : Lib.VarReads P W n (.iface nm d)) : ∃ t p, W.var? P n = some #[.iface t p] := by
  obtain ⟨g', t', cs, fuel, p, hg', ht', hvar, hd⟩ := h
  obtain rfl := Option.some.inj (hg.symm.trans hg')
  obtain rfl := Option.some.inj (hty.symm.trans ht')
  obtain ⟨u, v, hc⟩ := trod_iface ht hd
  exact ⟨u, v, by rw [hvar]; congr 1; exact Array.ext' (by simpa using hc)⟩
theorem pow_of {W : World} (h : Lib.VarReads Tryz.prog W "internal/strconv.uint64pow10" Rows.laid_internal_strconv_uint64pow10) : Lib.TabIs Tryz.prog W "internal/strconv.uint64pow10" .u64 Lib.pow10Tab := by
  obtain ⟨g', t', cs, fuel, p, hg', ht', hvar, hd⟩ := h
  obtain rfl := Option.some.inj ((show Tryz.prog.globalNamed "internal/strconv.uint64pow10" = some 3 by kernel_rfl).symm.trans hg')
  obtain rfl := Option.some.inj ((show (Tryz.prog.globals[3]?).map (·.type) = some 310 by kernel_rfl).symm.trans ht')
  unfold Lib.TabIs
  rw [hvar, ← Lib.cells_of_tab (k := .u64) (zs := Lib.pow10Tab) Tryz.underlying310 Tryz.underlying252 (by kernel_rfl) (by kernel_rfl) hd]
theorem base_of {W : World} {l : List (String × DataW Unit)} (hl : laidMet Tryz.prog l W) (h1 : ("internal/strconv.uint64pow10", Rows.laid_internal_strconv_uint64pow10) ∈ l) (h2 : ("strconv.ErrSyntax", Rows.laid_strconv_ErrSyntax) ∈ l)
    (h3 : ("strconv.ErrRange", Rows.laid_strconv_ErrRange) ∈ l) (hS : W.ShapedOpen Tryz.prog) : J.I W where
  max := cell_of_shapedOpen_int (t := 3) (zero := #[.int .i64 0]) hS (of_decide_eq_true (by kernel_rfl)) (by kernel_rfl) rfl (by kernel_rfl) (by kernel_rfl) Tryz.underlying3
  pow := pow_of (Lib.laidMet.reads hl h1)
  esyn := err_of (g := 1) (by kernel_rfl) (by kernel_rfl) Tryz.underlying138 (Lib.laidMet.reads hl h2)
  eran := err_of (g := 2) (by kernel_rfl) (by kernel_rfl) Tryz.underlying138 (Lib.laidMet.reads hl h3)
mutual
def dcells : DataW Unit → List Value
  | .lit (.int k n) => [.int k n]
  | .agg ds => dcellsL ds
  | _ => []
def dcellsL : List (DataW Unit) → List Value
  | [] => []
  | d :: ds => dcells d ++ dcellsL ds
end
def putCs (cs : List Value) : Obj → Obj
  | .cells _ t fr => .cells cs.toArray t fr
  | o => o
def errText : DataW Unit → ByteArray
  | .iface _ (.ptr (.agg [.lit (.string s)])) => ⟨s.toArray⟩
  | _ => ByteArray.empty
def errCell (b : Nat) : List Value := [.iface 301 (.pointer (some ⟨b, 0, none⟩))]
/-- The settled world, the listed variables holding what their initialisers lay. -/
noncomputable def laidWorld (os : Os) : World :=
  { World.holding Tryz.prog os ⟨#[], #[], []⟩ with heap :=
    let h := (World.holding Tryz.prog os ⟨#[], #[], []⟩).heap
    let h := h.modify 3 (putCs (dcells Rows.laid_internal_strconv_uint64pow10))
    let h := h.modify 4 (putCs (dcells Rows.laid_unicode_utf8_first))
    let h := h.modify 5 (putCs (dcells Rows.laid_unicode_utf8_acceptRanges))
    let h := h.modify 6 (putCs (dcells Rows.laid_math_bits_deBruijn32tab))
    let h := h.modify 7 (putCs (dcells Rows.laid_math_bits_deBruijn64tab))
    let n := h.size
    let h := h.modify 1 (putCs (errCell n))
    let h := h.modify 2 (putCs (errCell (n + 1)))
    (h.push (.cells #[.string (errText Rows.laid_strconv_ErrSyntax)] 303 (0, 0))).push (.cells #[.string (errText Rows.laid_strconv_ErrRange)] 303 (0, 0)) }
end Go.Proofs.YtnphejkeflngcaaGreatDoor

/- Decoders of the seat's types. -/
set_option linter.unusedVariables false
namespace Go.Proofs.YtnphejkeflngcaaGreatDoor
open Go Go.RowKit
def decVer : Dec Tryz.prog 43 Ver :=
  Dec.iso (Dec.struct Tryz.underlying43 (tot := 4) (by kernel_rfl)
    (DecF.cons (Dec.int .i64 Tryz.underlying3) rfl (n := 1) (by kernel_rfl) (DecF.cons (Dec.int .i64 Tryz.underlying3) rfl (n := 1) (by kernel_rfl) (DecF.cons (Dec.int .i64 Tryz.underlying3) rfl (n := 1) (by kernel_rfl) (DecF.cons (Dec.str Tryz.underlying9) rfl (n := 1) (by kernel_rfl) (DecF.nil 4))))))
    (fun x => (⟨x.1, x.2.1, x.2.2.1, x.2.2.2.1⟩ : Ver)) verD (fun N v => VerOk v ∧ v.e.length < N) (fun m n v h hv => ⟨hv.1, Nat.lt_of_lt_of_le hv.2 h⟩) (fun _ => rfl)
    (fun N x hx => by
      obtain ⟨h1, h2, h3, h4, _⟩ := hx
      have b1 := bounds_i64 h1
      have b2 := bounds_i64 h2
      have b3 := bounds_i64 h3
      exact ⟨⟨b1.1, b1.2, b2.1, b2.2, b3.1, b3.2⟩, h4⟩)
end Go.Proofs.YtnphejkeflngcaaGreatDoor

/- Decoders of spans and ranges. -/
set_option linter.unusedVariables false
namespace Go.Proofs.YtnphejkeflngcaaGreatDoor
open Go Go.RowKit
def decSp : Dec Tryz.prog 81 Sp :=
  Dec.iso (Dec.struct Tryz.underlying81 (tot := 10) (by kernel_rfl)
    (DecF.cons (Dec.bool Tryz.underlying4) rfl (n := 1) (by kernel_rfl) (DecF.cons (Dec.bool Tryz.underlying4) rfl (n := 1) (by kernel_rfl) (DecF.cons decVer rfl (n := 4) (by kernel_rfl) (DecF.cons decVer rfl (n := 4) (by kernel_rfl) (DecF.nil 10))))))
    (fun x => (⟨x.1, x.2.1, x.2.2.1, x.2.2.2.1⟩ : Sp)) spD (fun N s => SpOk s ∧ s.f.e.length < N ∧ s.t.e.length < N) (fun m n s h hs => ⟨hs.1, Nat.lt_of_lt_of_le hs.2.1 h, Nat.lt_of_lt_of_le hs.2.2 h⟩) (fun _ => rfl)
    (fun N x hx => ⟨⟨hx.2.2.1.1, hx.2.2.2.1.1⟩, hx.2.2.1.2, hx.2.2.2.1.2⟩)
def decRg : Dec Tryz.prog 24 (List Sp) :=
  Dec.iso (Dec.struct Tryz.underlying24 (tot := 1) (by kernel_rfl) (DecF.cons (Dec.slice Tryz.underlying22 (sz := 10) (by kernel_rfl) (by decide) decSp) rfl (n := 1) (by kernel_rfl) (DecF.nil 1)))
    (fun x => x.1) (fun ss => [.vec 10 (ss.map spD)]) (fun N ss => ss.length < N ∧ ∀ s ∈ ss, SpOk s ∧ s.f.e.length < N ∧ s.t.e.length < N)
    (fun m n ss h hs => ⟨Nat.lt_of_lt_of_le hs.1 h, fun s hm => ⟨(hs.2 s hm).1, Nat.lt_of_lt_of_le (hs.2 s hm).2.1 h, Nat.lt_of_lt_of_le (hs.2 s hm).2.2 h⟩⟩) (fun _ => rfl) (fun N x hx => hx.1)
end Go.Proofs.YtnphejkeflngcaaGreatDoor

/- RangesMatch: the contract of its row. -/
set_option linter.unusedVariables false
set_option linter.unusedSimpArgs false
set_option maxRecDepth 100000
set_option maxHeartbeats 4000000
namespace Go.Proofs.YtnphejkeflngcaaGreatDoor.fnRangesMatch
open Go Go.RowKit Go.ChangeShapes Go.WideShapes Go.ChangeAt
theorem contract (H : Type) (enc : TypeId × Value → H) (W : World) (base : Nat) (args : Array Value) (ds gs : List (DataW H)) (before : List MemPlace)
    (hval : ∀ (j : Nat) t v, Tryz.f5.params[j]? = some t → args[j]? = some v → Value.okWide Tryz.prog W .any base t v)
    (hW : DataW.Whole enc Tryz.prog Tryz.f5.params.toList Rows.rangesMatchSpec.vars false W args.toList ds gs before) (hc : Rows.uptoSmall H (ds ++ gs) = true)
    (hL : laidMetH Tryz.prog Rows.rangesMatchUptoRow.laid W) (hS : W.ShapedOpen Tryz.prog) :
    Calls Tryz.prog 5 args W fun e W' => ∃ v, e = .returned v ∧ Rows.rangesMatchSpec.post enc Tryz.prog Tryz.f5 false true false false W args v W' := by
  have hW' := hW
  obtain ⟨p, q, hA0, hV, rfl, hfz, hnd⟩ := hW
  have hA : DataW.TrodAll enc Tryz.prog W 0 (fun _ => true) true Tryz.f5.params.toList args.toList ds p := hA0
  rw [Tryz.params5] at hA hval
  obtain ⟨v0, vs0, d0, ds0, p0, q0, hargs, rfl, rfl, h0, r0⟩ := trodAll_cons hA
  obtain ⟨v1, vs1, d1, ds1, p1, q1, rfl, rfl, rfl, h1, r1⟩ := trodAll_cons r0
  obtain ⟨v2, vs2, d2, ds2, p2, q2, rfl, rfl, rfl, h2, r2⟩ := trodAll_cons r1
  obtain ⟨v3, vs3, d3, ds3, p3, q3, rfl, rfl, rfl, h3, r3⟩ := trodAll_cons r2
  obtain ⟨rfl, rfl, rfl⟩ := trodAll_nil r3
  obtain rfl : args = #[v0, v1, v2, v3] := Array.ext' (by simpa using hargs)
  obtain ⟨rfl, rfl⟩ := trodVars_none hV
  obtain ⟨ys, e0, w0⟩ := arg_agg decRg (by kernel_rfl) (hval 0 24 v0 rfl rfl) h0
  obtain ⟨zs, e1, w1⟩ := arg_agg decRg (by kernel_rfl) (hval 1 24 v1 rfl rfl) h1
  obtain ⟨v, e2, w2⟩ := arg_agg decVer (by kernel_rfl) (hval 2 43 v2 rfl rfl) h2
  obtain ⟨l, e3, w3⟩ := arg_one (Dec.slice Tryz.underlying44 (sz := 4) (by kernel_rfl) (by decide) decVer) (by kernel_rfl) (hval 3 44 v3 rfl rfl) h3
  have hbulk : Rows.uptoBulkAll ([d0, d1, d2, d3] ++ []) ≤ 1048576 := of_decide_eq_true hc
  simp only [List.append_nil, Rows.uptoBulkAll] at hbulk
  have h0 : ys.length < Rows.uptoBulk d0 ∧ ∀ u ∈ ys, SpOk u ∧ u.f.e.length < Rows.uptoBulk d0 ∧ u.t.e.length < Rows.uptoBulk d0 := w0
  have h1 : zs.length < Rows.uptoBulk d1 ∧ ∀ u ∈ zs, SpOk u ∧ u.f.e.length < Rows.uptoBulk d1 ∧ u.t.e.length < Rows.uptoBulk d1 := w1
  have h2 : VerOk v ∧ v.e.length < Rows.uptoBulk d2 := w2
  have h3 : l.length < Rows.uptoBulk d3 ∧ ∀ w ∈ l, VerOk w ∧ w.e.length < Rows.uptoBulk d3 := w3
  have pc := pc_outlaw2_RangesMatch ys zs v l (by omega) (by omega) (fun u hu => by have := h0.2 u hu; unfold SpLen; omega) (fun u hu => by have := h1.2 u hu; unfold SpLen; omega) (by omega) (by omega) (fun w hw => by have := h3.2 w hw; omega)
  refine law_post (by kernel_rfl) (by kernel_rfl) rfl rfl Tryz.underlying4 hW' ⟨rfl, rfl, rfl⟩ pc (base_of (l := Rows.rangesMatchUptoRow.laid) hL (.tail _ (.tail _ (.head _))) (.tail _ (.tail _ (.tail _ (.tail _ (.tail _ (.head _)))))) (.tail _ (.tail _ (.tail _ (.tail _ (.head _))))) hS) rfl (fun i u v hu hv => ?_)
  match i with
  | 0 => simp at hu hv; subst hu; subst hv; exact e0
  | 1 => simp at hu hv; subst hu; subst hv; exact e1
  | 2 => simp at hu hv; subst hu; subst hv; exact e2
  | 3 => simp at hu hv; subst hu; subst hv; exact e3 _ rfl
  | i + 4 => simp at hu
end Go.Proofs.YtnphejkeflngcaaGreatDoor.fnRangesMatch

/- RangesMatch: where what it reads is of bulk at most 1048576, it returns true, and what it was given reads as it did. -/
set_option linter.unusedVariables false
set_option linter.unusedSimpArgs false
namespace Go.Proofs.YtnphejkeflngcaaGreatDoor.fnRangesMatch
open Go Go.RowKit Go.ChangeShapes Go.WideShapes Go.ChangeAt
def zargs : Array Value := #[.agg #[.slice none 0 0], .agg #[.slice none 0 0], .agg #[.int .i64 0, .int .i64 0, .int .i64 0, .string ⟨#[]⟩], .slice none 0 0]
set_option maxRecDepth 100000 in
theorem laid_met (os : Os) : laidMet Tryz.prog Rows.rangesMatchUptoRow.laid ((laidWorld os).forCall (fun _ _ => 0) ⟨#[], zargs, []⟩).memory :=
  laidMet_of_run' 8 (by kernel_rfl) (by kernel_rfl)
set_option maxRecDepth 100000 in
theorem reads (os : Os) {H : Type} (enc : TypeId × Value → H) : ∃ ds places, DataW.whole enc Tryz.prog ((laidWorld os).forCall (fun _ _ => 0) ⟨#[], zargs, []⟩).memory Tryz.f5.params.toList Rows.rangesMatchSpec.vars false zargs.toList 8 = some (ds, [], places) ∧ Rows.uptoSmall H (ds ++ []) = true :=
  ⟨[.agg [.nil], .agg [.nil], .agg [.lit (.int .i64 0), .lit (.int .i64 0), .lit (.int .i64 0), .lit (.string [])], .nil], [], by kernel_rfl, by kernel_rfl⟩
theorem own : ownKnob Tryz.prog.godebug = none := by kernel_rfl
set_option maxRecDepth 100000 in
theorem liftedUpto (os : Os) (started : os.Started) (H : Type) (enc : TypeId × Value → H) (F : Stop.Interp) :
    ReturnsInHanded {} Tryz.checked os 5 .any ((Rows.OpenSpec.upto Rows.rangesMatchSpec).preRow enc Tryz.prog Tryz.f5 Rows.rangesMatchUptoRow.domain false Rows.rangesMatchUptoRow.laid) (((Rows.OpenSpec.upto Rows.rangesMatchSpec).at F).post enc Tryz.prog Tryz.f5 false true false false) := by
  obtain ⟨ds, places, hx, hsm⟩ := reads os enc
  refine returnsInHanded_of_row (C := Tryz.checked) (s := Rows.OpenSpec.upto Rows.rangesMatchSpec) own started (by kernel_rfl) Tryz.func5
    (witness_row_at (enc := enc) (C := Tryz.checked) false (laidWorld os) zargs rfl (by kernel_rfl) (by kernel_rfl) (by kernel_rfl)
      (OpenSpec.preRow_of_cond 8 hx (by kernel_rfl) (fun k hk => by cases hk; exact hsm) (by kernel_rfl) (laid_met os))) ?_
  intro W base args ds gs before hval hW _ hcond _ hL hS _
  exact contract H enc W base args ds gs before hval hW (hcond _ rfl) hL hS
theorem band {a b : Bool} (ha : a = true) (hb : b = true) : (a && b) = true := by rw [ha, hb]; rfl
set_option maxRecDepth 100000 in
theorem closed : joinedFacts Tryz.pinned.checked.prog 5 Tryz.f5 (Rows.OpenSpec.upto Rows.rangesMatchSpec).bare Rows.rangesMatchUptoRow = true := by
  unfold joinedFacts
  refine band (band (band (band (band (band (band (band (band (band (band (band (band (band (band (band (band (band (band (band (band (band (band (band (band (band (band (band (band (band (band ?_ ?_) ?_) ?_) ?_) ?_) ?_) ?_) ?_) ?_) ?_) ?_) ?_) ?_) ?_) ?_) ?_) ?_) ?_) ?_) ?_) ?_) ?_) ?_) ?_) ?_) ?_) ?_) ?_) ?_) ?_) ?_
  all_goals (as_aux_lemma => kernel_rfl)
theorem saidUpto : Rows.RangesMatchUptoSaid :=
  OpenClaim.holds_of_cond 5 Tryz.f5 rfl rfl rfl rfl rfl rfl rfl ⟨rfl, rfl, rfl, rfl, rfl⟩ rfl rfl rfl rfl rfl (by as_aux_lemma => kernel_rfl) Tryz.func5 closed
    (of_decide_eq_true (by kernel_rfl)) (by unfold Func.isWrapper; first | (rw [if_pos (by decide +kernel)]; kernel_rfl) | (rw [if_neg (by decide +kernel)]; exact ⟨rfl, rfl⟩))
    (fun os started H enc _ F => by rw [OpenClaim.pre_eq_preRow]; exact liftedUpto os started H enc F)
theorem plain (f : FuncId) (fn : Func) (hf : Tryz.pinned.checked.prog.funcNamed "outfitter/outlaw2.RangesMatch" = some f) (hfn : Tryz.pinned.checked.prog.funcs[f]? = some fn) :
    true = Tryz.pinned.checked.prog.looks [] ∧ ∀ (j : Nat) t, fn.params[j]? = some t → Tryz.pinned.checked.prog.wantsStandIn t = false := by
  obtain rfl : f = 5 := Option.some.inj ((show Tryz.prog.funcNamed "outfitter/outlaw2.RangesMatch" = some 5 by kernel_rfl).symm.trans hf) |>.symm
  obtain rfl : fn = Tryz.f5 := (Option.some.inj (Tryz.func5.symm.trans hfn)).symm
  refine ⟨by kernel_rfl, fun j t ht => ?_⟩
  rw [Tryz.params5] at ht
  have hm : t = 44 ∨ t = 24 ∨ t = 43 := by
    have h1 := Array.mem_of_getElem? ht
    have h2 : t = 24 ∨ t = 24 ∨ t = 43 ∨ t = 44 := by simpa using h1
    rcases h2 with h | h | h | h <;> rw [h] <;> simp
  rcases hm with rfl | rfl | rfl
  · exact (show Tryz.prog.wantsStandIn 44 = false by kernel_rfl)
  · exact (show Tryz.prog.wantsStandIn 24 = false by kernel_rfl)
  · exact (show Tryz.prog.wantsStandIn 43 = false by kernel_rfl)
theorem cardUpto : Rows.RangesMatchUptoCardSaid :=
  Claim7.holds_tied_plain_at .later [] _ _ _ _ saidUpto (fun _ h => by cases h) (by kernel_rfl) (fun _ h => by cases h) rangesMatchUpto_row_tie rfl ⟨rfl, rfl⟩ (by kernel_rfl) rfl plain (by kernel_rfl)
end Go.Proofs.YtnphejkeflngcaaGreatDoor.fnRangesMatch
