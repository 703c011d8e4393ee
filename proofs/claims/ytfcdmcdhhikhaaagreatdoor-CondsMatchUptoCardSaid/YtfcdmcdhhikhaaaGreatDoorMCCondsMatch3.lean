/- Part 3 of a proof: V7, W8, V8, W9, V9, W10, W11, V10, V11, V12, V13, V14, V15, V16, V21, W30, V20, W31, V60, V61, V62, V63, V64, V65, V66, V68, V69, V86, W89, W13, W14, W15, W16, W80, V22, V23, V80, W81. -/
import Derived.Sort.Walk0
import Derived.Lib.Bytealg
import Derived.Test.YtfcdmcdhhikhaaaGreatDoorMCCondsMatch2
set_option linter.unusedVariables false
set_option linter.unusedSimpArgs false
set_option maxRecDepth 100000
set_option maxHeartbeats 4000000
namespace Go.Proofs.YtfcdmcdhhikhaaaGreatDoor
section
open Go
theorem cmpInt_neg (x y : Int) : Lib.compareInt y x = -Lib.compareInt x y := by
 unfold Lib.compareInt
 by_cases h1 : x < y
 ·skip
  rw [if_pos h1, if_neg (by omega), if_pos h1]; rfl
 ·skip
  by_cases h2 : y < x
  ·skip
   rw [if_pos h2, if_neg h1, if_pos h2]
  ·skip
   rw [if_neg h2, if_neg h1, if_neg h1, if_neg h2]; rfl
theorem cmpBytes_neg : ∀ (a b : List UInt8), Lib.compareBytes b a = -Lib.compareBytes a b
  | [], [] => rfl
  | [], _ :: _ => rfl
  | _ :: _, [] => rfl
  | a :: l, b :: m => by
    have ih := cmpBytes_neg l m
    by_cases h1 : a < b
    · have h2 : ¬ b < a := by
        have h1' : a.toNat < b.toNat := h1
        show ¬ b.toNat < a.toNat
        omega
      simp only [Lib.compareBytes, h1, h2, if_true, if_false]; rfl
    · by_cases h2 : b < a
      · simp only [Lib.compareBytes, h1, h2, if_true, if_false]
      · simp only [Lib.compareBytes, h1, h2, if_false]; exact ih
theorem cwB_neg (a b : List UInt8) : cwB b a = -cwB a b := by
 unfold cwB
 cases ha : numeralB a <;> cases hb : numeralB b <;> simp only [Bool.and_true, Bool.and_false, Bool.false_and, Bool.true_and, if_true, if_false, Bool.false_eq_true]
 ·skip
  exact cmpBytes_neg a b
 ·skip
  rfl
 ·skip
  by_cases h : a.length = b.length
  ·skip
   rw [if_neg (by simp [h]), if_neg (by simp [h])]; exact cmpBytes_neg a b
  ·skip
   rw [if_pos (by simp; omega), if_pos (by simp; omega)]; exact cmpInt_neg _ _
theorem firstNe_neg (l : List Int) : firstNe (l.map fun x => -x) = -firstNe l := by
  induction l with
  | nil => rfl
  | cons a l ih =>
    unfold firstNe at ih ⊢
    by_cases h : a = 0
    · subst h; simpa using ih
    · have h' : ¬ -a = 0 := by omega
      simp [List.find?_cons, bne_iff_ne, h, h']
theorem zip_neg : ∀ (xs ys : List (List UInt8)), List.zipWith cwB ys xs = (List.zipWith cwB xs ys).map fun x => -x
 | [], ys => by cases ys <;> rfl
 | x :: xs, [] => rfl
 | x :: xs, y :: ys => by simp only [List.zipWith_cons_cons, List.map_cons, zip_neg xs ys, cwB_neg x y]
theorem rowsB_neg (xs ys : List (List UInt8)) : rowsB ys xs = -rowsB xs ys := by
  unfold rowsB
  rw [zip_neg, firstNe_neg]
  by_cases h : firstNe (List.zipWith cwB xs ys) = 0
  · rw [h]; exact cmpInt_neg _ _
  · have h' : ¬ -firstNe (List.zipWith cwB xs ys) = 0 := by omega
    rw [if_pos (by simpa using h), if_pos (by simpa using h')]
theorem ceB_neg (a b : List UInt8) : ceB b a = -ceB a b := by
  unfold ceB
  by_cases h : a = b
  · subst h; simp
  · have h1 : (a == b) = false := by simpa using h
    have h2 : (b == a) = false := by rw [beq_eq_false_iff_ne]; exact fun e => h e.symm
    rw [h1, h2]
    cases ha : (a == []) <;> cases hb : (b == [])
    · exact rowsB_neg _ _
    · rfl
    · rfl
    · exact absurd ((by simpa using ha : a = []).trans (by simpa using hb : b = []).symm) h
theorem orderB_neg (v w : Ver) : orderB w v = -orderB v w := by
 unfold orderB
 rw [← firstNe_neg]
 simp only [List.map_cons, List.map_nil, cmpInt_neg v.a w.a, cmpInt_neg v.b w.b, cmpInt_neg v.c w.c, ceB_neg v.e w.e]
theorem check_z : Ver.z.check = 0 := by decide
theorem form_f {s : Sp} (h : ((!(s.f.eqb Ver.z) && !s.hf) || (!(s.t.eqb Ver.z) && !s.ht)) = false) : (s.hf = false → s.f = Ver.z) ∧ (s.ht = false → s.t = Ver.z) := by
 rw [Bool.or_eq_false_iff] at h
 constructor
 ·skip
  intro hf
  have := h.1
  rw [hf] at this
  simp at this
  exact Ver.eqb_iff.1 this
 ·skip
  intro ht
  have := h.2
  rw [ht] at this
  simp at this
  exact Ver.eqb_iff.1 this
def formR (s : Sp) : Bool := (!s.hf && !(s.f.eqb Ver.z)) || (!s.ht && !(s.t.eqb Ver.z))
theorem formR_eq (s : Sp) : formR s = ((!(s.f.eqb Ver.z) && !s.hf) || (!(s.t.eqb Ver.z) && !s.ht)) := by
 unfold formR; rw [Bool.and_comm, Bool.and_comm (!s.ht)]
theorem spanR_form {s : Sp} (h : formR s = true) : spanE s = 2 := spE_form (by rw [← formR_eq]; exact h)
theorem spanR_ver {s : Sp} (h : formR s = false) (h2 : (firstB s.f.check s.t.check != 0) = true) : spanE s = firstB s.f.check s.t.check := by
  rw [formR_eq] at h
  obtain ⟨hf, ht⟩ := form_f h
  unfold firstB at h2 ⊢
  by_cases hc : s.f.check = 0
  · simp only [hc, bne_self_eq_false, Bool.false_eq_true, if_false] at h2 ⊢
    have h3 : s.ht = true := by
      cases hh : s.ht with
      | true => rfl
      | false => rw [ht hh, check_z] at h2; cases h2
    exact spE_t h (by simp [hc]) (by rw [h3]; simpa using h2)
  · rw [if_pos (by simpa using hc)]
    have h3 : s.hf = true := by
      cases hh : s.hf with
      | true => rfl
      | false => rw [hf hh] at hc; exact absurd check_z hc
    exact spE_f h (by rw [h3]; simpa using hc)
theorem checks_0 {s : Sp} (h2 : (firstB s.f.check s.t.check != 0) = false) : s.f.check = 0 ∧ s.t.check = 0 := by
 unfold firstB at h2
 by_cases hc : s.f.check = 0
 ·skip
  exact ⟨hc, by simpa [hc] using h2⟩
 ·skip
  simp [hc] at h2
theorem spanR_order {s : Sp} (h : formR s = false) (h2 : (firstB s.f.check s.t.check != 0) = false) (h3 : ((s.hf && s.ht) && decide (compareR s.f s.t ≥ 0)) = true) : spanE s = 7 := by
 rw [formR_eq] at h
 obtain ⟨c1, c2⟩ := checks_0 h2
 rw [compare_eq c1 c2] at h3
 exact spE_o h (by simp [c1]) (by simp [c2]) h3
theorem spanR_ok {s : Sp} (h : formR s = false) (h2 : (firstB s.f.check s.t.check != 0) = false) (h3 : ((s.hf && s.ht) && decide (compareR s.f s.t ≥ 0)) = false) : spanE s = 0 := by
 rw [formR_eq] at h
 obtain ⟨c1, c2⟩ := checks_0 h2
 rw [compare_eq c1 c2] at h3
 exact spE_ok h (by simp [c1]) (by simp [c2]) h3
theorem span_checks {s : Sp} (h : spanE s = 0) : s.f.check = 0 ∧ s.t.check = 0 := by
 have hform : ((!(s.f.eqb Ver.z) && !s.hf) || (!(s.t.eqb Ver.z) && !s.ht)) = false := by
  cases hh : ((!(s.f.eqb Ver.z) && !s.hf) || (!(s.t.eqb Ver.z) && !s.ht)) with
  | false => rfl
  | true => rw [spE_form hh] at h; cases h
 obtain ⟨hf, ht⟩ := form_f hform
 have h1 : s.f.check = 0 := by
  apply Decidable.byContradiction; intro hc
  have hh : s.hf = true := by
   cases hh : s.hf with
   | true => rfl
   | false => rw [hf hh] at hc; exact absurd check_z hc
  rw [spE_f hform (by rw [hh]; simpa using hc)] at h
  exact hc h
 refine ⟨h1, ?_⟩
 apply Decidable.byContradiction; intro hc
 have hh : s.ht = true := by
  cases hh : s.ht with
  | true => rfl
  | false => rw [ht hh] at hc; exact absurd check_z hc
 rw [spE_t hform (by simp [h1]) (by rw [hh]; simpa using hc)] at h
 exact hc h
theorem prev_ok {ss : List Sp} {i : Nat} (hi : i < ss.length) (h0 : 0 < i) (ht : (((List.range ss.length).map (spAt ss)).take i).all (· == 0) = true) : spanE (ss.getD (i - 1) Sp.z) = 0 := by
 have h1 : spAt ss (i - 1) = 0 := by
  have h2 := List.all_eq_true.1 ht (spAt ss (i - 1)) (by
   rw [List.mem_iff_getElem?]
   refine ⟨i - 1, ?_⟩
   rw [List.getElem?_take, if_pos (by omega)]
   have : i - 1 < ss.length := by omega
   simp [this])
  simpa using h2
 apply Decidable.byContradiction; intro hne
 rw [spAt_own (by simpa using hne)] at h1
 exact hne h1
theorem behindR {p s : Sp} (hp : p.t.check = 0) (hs : s.f.check = 0) : decide (compareR p.t s.f ≥ 0) = decide (orderB s.f p.t ≤ 0) := by
 rw [compare_eq hp hs, orderB_neg s.f p.t]
 simp only [decide_eq_decide]; omega
theorem spAt_form {ss : List Sp} {i : Nat} (h : formR (ss.getD i Sp.z) = true) : spAt ss i = 2 := (spAt_own (by rw [spanR_form h]; rfl)).trans (spanR_form h)
theorem spAt_ver {ss : List Sp} {i : Nat} (h : formR (ss.getD i Sp.z) = false) (h2 : (firstB (ss.getD i Sp.z).f.check (ss.getD i Sp.z).t.check != 0) = true) : spAt ss i = firstB (ss.getD i Sp.z).f.check (ss.getD i Sp.z).t.check :=
 (spAt_own (by rw [spanR_ver h h2]; exact h2)).trans (spanR_ver h h2)
theorem spAt_ord {ss : List Sp} {i : Nat} (h : formR (ss.getD i Sp.z) = false) (h2 : (firstB (ss.getD i Sp.z).f.check (ss.getD i Sp.z).t.check != 0) = false)
  (h3 : (((ss.getD i Sp.z).hf && (ss.getD i Sp.z).ht) && decide (compareR (ss.getD i Sp.z).f (ss.getD i Sp.z).t ≥ 0)) = true) : spAt ss i = 7 := (spAt_own (by rw [spanR_order h h2 h3]; rfl)).trans (spanR_order h h2 h3)
section
variable {ss : List Sp} {i : Nat} (hi : i < ss.length) (ht : (((List.range ss.length).map (spAt ss)).take i).all (· == 0) = true) (h : formR (ss.getD i Sp.z) = false) (h2 : (firstB (ss.getD i Sp.z).f.check (ss.getD i Sp.z).t.check != 0) = false)
  (h3 : (((ss.getD i Sp.z).hf && (ss.getD i Sp.z).ht) && decide (compareR (ss.getD i Sp.z).f (ss.getD i Sp.z).t ≥ 0)) = false)
include hi ht h h2 h3
theorem spAt_r7 (h6 : (decide ((i : Int) > 0) && ((!(ss.getD (i - 1) Sp.z).ht || !(ss.getD i Sp.z).hf) || decide (compareR (ss.getD (i - 1) Sp.z).t (ss.getD i Sp.z).f ≥ 0))) = true) : spAt ss i = 7 := by
 rw [Bool.and_eq_true] at h6
 have h0 : 0 < i := by have := of_decide_eq_true h6.1; omega
 have hp := (span_checks (prev_ok hi h0 ht)).2
 rw [behindR hp (checks_0 h2).1] at h6
 exact spAt_bad (by rw [spanR_ok h h2 h3]; rfl) (by simp; omega) h6.2
theorem spAt_r0 (h6 : (decide ((i : Int) > 0) && ((!(ss.getD (i - 1) Sp.z).ht || !(ss.getD i Sp.z).hf) || decide (compareR (ss.getD (i - 1) Sp.z).t (ss.getD i Sp.z).f ≥ 0))) = false) : spAt ss i = 0 := by
 by_cases h0 : 0 < i
 ·skip
  have hp := (span_checks (prev_ok hi h0 ht)).2
  rw [show decide ((i : Int) > 0) = true from decide_eq_true (by omega), Bool.true_and, behindR hp (checks_0 h2).1] at h6
  exact spAt_ok (by rw [spanR_ok h h2 h3]; rfl) (by simp; omega) h6
 ·skip
  exact spAt_first (by rw [spanR_ok h h2 h3]; rfl) (by simp; omega)
end
end
section
open Go
open Go.RowKit
attribute [local irreducible] thenK blockK W
theorem pc_verr2 (v w : Ver) (hv : v.e.length < 4294967281) (hw : w.e.length < 4294967281) : PureCall Tryz.prog J 107 [.one (.d (.vec 4 [verD v, verD w]))] (.one (.d (.int .i64 (firstB v.check w.check)))) := by
 have h := pc_outref2_VersionError [v, w] (by simp) (by intro u hu; simp at hu; rcases hu with rfl | rfl <;> assumption)
 rw [show firstNe ([v, w].map Ver.check) = firstB v.check w.check from first2 _ _] at h
 exact h
theorem pc_outref2_RangeError (ss : List Sp) (hl : ss.length ≤ 1000000000) (hv : ∀ s ∈ ss, SpLen s) :
  PureCall Tryz.prog J 110 [rgV ss] (.one (.d (.int .i64 (rangeE ss)))) := by
 refine PureCall.of_body tOk (fn := Tryz.f110) Tryz.func110 (by kernel_rfl) rfl (Nat.le_of_ble_eq_true rfl) (fun E => ?_)
 iterate 11 first|refine Yp rfl ?_|refine S.box rfl rfl rfl rfl ?_|apply Y1|apply Yn|apply Ys
 refine W.cond rfl (fun c1=>?_) fun c1=>?_
 ·skip
  apply Y1
  refine Yp rfl ?_
  apply Yn
  apply Yt
  apply Yu
  exact ⟨_, rfl, rfl, LeV.of_eq (congrArg (fun x => V.one (C.d (D.int .i64 x))) (rangeE_large (by simpa using c1)).symm)⟩
 have hlen := rangeE_list (ss := ss) (by simpa using c1)
 iterate 9 first|refine Yp rfl ?_|apply Yk|apply Y1|apply Yn|apply Ys
 apply Yb
 refine W.loop (fun k st => ∃ i : Nat, i ≤ ss.length ∧ (((List.range ss.length).map (spAt ss)).take i).all (· == 0) = true ∧ k = ss.length - i ∧ ∃ t b2 r2 m2, st = ⟨t, [[.d (.vec 10 (ss.map spD))]] ++ b2, [] ++ r2, [] ++ m2⟩ ∧ holdsL t [(1, .one (.ptr 0 0)), (11, .one (.d (.vec 10 (ss.map spD)))), (12, .one (.d (.int .i64 ((ss.map spD).length : Int)))), (13, .one (.d (.int .i64 (i : Int))))]) (ss.length) ⟨0, Nat.zero_le _, by simp, rfl, _, _, _, _, rfl, rfl, rfl, rfl, rfl, trivial⟩ ?_
 rintro k0 _ ⟨i, f0_0, f0_1, rfl, t0, bb0, rr0, mm0, rfl, hh0⟩
 refine W.keepR _ _ _ _ _ _ _ hh0 rfl ?_
 apply Y1
 refine Yp rfl ?_
 apply Yn
 apply Ys
 refine W.cond rfl (fun c2=>?_) fun c2=>?_
 ·skip
  have hi := row_lt c2
  have hs := sp_at hv hi
  have hi1 : i - 1 < ss.length := by omega
  have hs1 := sp_at hv hi1
  apply Yk
  apply Yn
  apply Ys
  apply Yb
  apply Y1
  refine Yp rfl ?_
  refine YE rfl (row_ok hi) (row_at Sp.z hi) rfl ?_
  iterate 26 first|refine S.pickAndG tOk zOk rfl rfl rfl tg tg ?_|refine S.pickAnd tOk zOk rfl rfl tg ?_|refine Yg rfl rfl tg ?_|refine Yp rfl ?_|refine S.store tOk rfl rfl rfl rfl rfl rfl rfl rfl ?_|refine S.alloc tOk rfl rfl rfl rfl ?_|apply Y1|apply Ys|apply Yn
  refine S.pickOr tOk zOk rfl rfl tg ?_
  apply Yn
  refine W.cond rfl (fun c3=>?_) fun c3=>?_
  ·skip
   iterate 10 first|apply Yu|apply Yv|apply Yt|refine Yp rfl ?_|apply Y1|apply Yn
   exact ⟨_, rfl, rfl, LeV.of_eq (congrArg (fun x => V.one (C.d (D.int .i64 x))) (hlen.trans (spAt_hit hi f0_1 (spAt_form c3) (by decide))).symm)⟩
  iterate 8 first|refine Yp rfl ?_|apply Yk|apply Y1|apply Ys|apply Yn
  refine S.slice tOk rfl rfl ?_
  refine S.call rfl rfl rfl rfl rfl (pc_verr2 (ss.getD i Sp.z).f (ss.getD i Sp.z).t hs.1 hs.2) ?_
  iterate 5 first|refine Yp rfl ?_|apply Y3|apply Yn
  refine W.cond rfl (fun c4=>?_) fun c4=>?_
  ·skip
   iterate 11 first|apply Yu|apply Yv|refine Yp rfl ?_|apply Yt|apply Y1|apply Yn
   exact ⟨_, rfl, rfl, LeV.of_eq (congrArg (fun x => V.one (C.d (D.int .i64 x))) (hlen.trans (spAt_hit hi f0_1 (spAt_ver c3 c4) (by simpa using c4))).symm)⟩
  iterate 15 first|refine S.pickAnd tOk zOk rfl rfl tg ?_|refine Yg rfl rfl tg ?_|refine Yp rfl ?_|apply Yk|apply Y1|apply Ys|apply Yn
  refine S.callG rfl rfl rfl rfl tg rfl rfl (fun _ => pc_outref2_CompareOf (ss.getD i Sp.z).f (ss.getD i Sp.z).t hs.1 hs.2) ?_
  refine Yg rfl rfl tg ?_
  refine S.pickAnd tOk zOk rfl rfl tg ?_
  apply Yn
  refine W.cond rfl (fun c5=>?_) fun c5=>?_
  ·skip
   iterate 10 first|apply Yu|apply Yv|apply Yt|refine Yp rfl ?_|apply Y1|apply Yn
   exact ⟨_, rfl, rfl, LeV.of_eq (congrArg (fun x => V.one (C.d (D.int .i64 x))) (hlen.trans (spAt_hit hi f0_1 (spAt_ord c3 c4 c5) (by decide))).symm)⟩
  apply Yk
  apply Yn
  apply Ys
  refine W.regionD mixed (by kernel_rfl) ?_
  iterate 7 first|refine Yy rfl rfl rfl tg ?_|refine Ym rfl rfl ?_
  refine D.pureEG tOk zOk rfl rfl rfl tg (fun h => pred_ok h hi (by omega)) (row_pred Sp.z hi (by omega)) rfl ?_
  iterate 7 refine Yy rfl rfl rfl tg ?_
  refine D.pickOrG tOk zOk rfl rfl rfl tg tg ?_
  iterate 5 refine Yy rfl rfl rfl tg ?_
  refine D.pureEG tOk zOk rfl rfl rfl tg (fun h => pred_ok (andl h) hi (by omega)) (row_pred Sp.z hi (by omega)) rfl ?_
  iterate 4 refine Yy rfl rfl rfl tg ?_
  refine D.callG rfl rfl rfl rfl tg rfl rfl (fun _ => pc_outref2_CompareOf (ss.getD (i - 1) Sp.z).t (ss.getD i Sp.z).f hs1.2 hs.1) ?_
  refine Yy rfl rfl rfl tg ?_
  refine D.pickOrG tOk zOk rfl rfl rfl tg tg ?_
  refine D.pickAnd tOk zOk rfl rfl tg ?_
  apply Yn
  refine W.cond rfl (fun c6=>?_) fun c6=>?_
  ·skip
   iterate 9 first|apply Yu|apply Yv|apply Yt|refine Yp rfl ?_|apply Y1|apply Yn
   exact ⟨_, rfl, rfl, LeV.of_eq (congrArg (fun x => V.one (C.d (D.int .i64 x))) (hlen.trans (spAt_hit hi f0_1 (spAt_r7 hi f0_1 c3 c4 c5 c6) (by decide))).symm)⟩
  apply Yk
  apply Yw
  apply Y4
  iterate 2 refine Yp rfl ?_
  refine loop_n (ss.length - (i + 1)) (by omega) ⟨i + 1, hi, all_take_succ (d := 0) (by simpa using hi) f0_1 (spAt_go hi (spAt_r0 hi f0_1 c3 c4 c5 c6)), rfl, _, _, _, _, rfl, rfl, rfl, rfl, inc_i64 (by omega), trivial⟩
 have hi := row_ge c2
 apply Yq
 apply Ye
 apply Ye
 apply Yx
 apply Y3
 refine Yp rfl ?_
 apply Yn
 apply Yt
 exact ⟨_, rfl, rfl, LeV.of_eq (congrArg (fun x => V.one (C.d (D.int .i64 x))) (hlen.trans (firstNe_none (by simpa using hi) f0_1)).symm)⟩
end
end Go.Proofs.YtfcdmcdhhikhaaaGreatDoor
namespace Go.Proofs.YtfcdmcdhhikhaaaGreatDoor
section
open Go
def itemB (s : List UInt8) : It × Bool :=
  if s == [42] then (⟨42, [], []⟩, true)
  else if Lib.hasPrefix s [62, 61] then
    (if (Lib.cut (Lib.trimPrefix s [62, 61]) [32]).2.2 then
      (⟨98, (Lib.cut (Lib.trimPrefix s [62, 61]) [32]).1, Lib.trimPrefix (Lib.cut (Lib.trimPrefix s [62, 61]) [32]).2.1 [60]⟩,
        (Lib.hasPrefix (Lib.cut (Lib.trimPrefix s [62, 61]) [32]).2.1 [60] && rowB (Lib.cut (Lib.trimPrefix s [62, 61]) [32]).1) && rowB (Lib.trimPrefix (Lib.cut (Lib.trimPrefix s [62, 61]) [32]).2.1 [60]))
     else (⟨62, Lib.trimPrefix s [62, 61], []⟩, rowB (Lib.trimPrefix s [62, 61])))
  else if !(s == []) && decide (Lib.indexByte [60, 61, 94, 126] (bI (s.getD 0 0)).toNat.toUInt8 ≥ 0) then (⟨bI (s.getD 0 0), s.drop 1, []⟩, rowB (s.drop 1))
  else (⟨94, s, []⟩, rowB s)
def behindB (v : Ver) (g : Int) : Ver × Int :=
 if g == 61 && !(v.e == []) then (⟨v.a, v.b, v.c, v.e ++ [46, 48]⟩, checkB v.a v.b v.c (v.e ++ [46, 48]))
 else if g == 61 then (⟨(nextB v 2).1.a, (nextB v 2).1.b, (nextB v 2).1.c, [48]⟩, (nextB v 2).2)
 else if g == 94 && !(v.a == 0) then nextB v 0 else nextB v 1
def spanB (it : It) : Sp × Int :=
 if it.sign == 42 then (Sp.z, 0)
 else if (parseB it.first).2 != 0 then (Sp.z, (parseB it.first).2)
 else if it.sign == 62 then (⟨true, false, (parseB it.first).1, Ver.z⟩, 0)
 else if it.sign == 60 then (⟨false, true, Ver.z, (parseB it.first).1⟩, 0)
 else if it.sign == 98 then (⟨true, true, (parseB it.first).1, (parseB it.last).1⟩, (parseB it.last).2)
 else (⟨true, true, (parseB it.first).1, (behindB (parseB it.first).1 it.sign).1⟩, (behindB (parseB it.first).1 it.sign).2)
def badB (t : List UInt8) : Bool := (!(itemB t).2 || (!((itemB t).1.sign == 42) && wrongB (itemB t).1.first)) || ((itemB t).1.sign == 98 && wrongB (itemB t).1.last)
abbrev partsR (s : List UInt8) : List (List UInt8) := Lib.split s [44, 32]
def rangeB (s : List UInt8) : List Sp × Int :=
 if decide ((s.length : Int) > 1000) then ([], 4) else if s == [110, 111, 110, 101] then ([], 0)
 else if (partsR s).any badB then ([], 8)
 else if firstNe ((partsR s).map fun t => (spanB (itemB t).1).2) != 0 then ([], firstNe ((partsR s).map fun t => (spanB (itemB t).1).2))
 else if rangeE ((partsR s).map fun t => (spanB (itemB t).1).1) != 0 then ([], rangeE ((partsR s).map fun t => (spanB (itemB t).1).1))
 else ((partsR s).map fun t => (spanB (itemB t).1).1, 0)
theorem trim_le (s p : List UInt8) : (Lib.trimPrefix s p).length ≤ s.length := by
 unfold Lib.trimPrefix
 split <;> simp
theorem cut3_le (s p : List UInt8) : (Lib.trimPrefix (Lib.cut s p).2.1 [60]).length ≤ s.length := Nat.le_trans (trim_le _ _) (cut_le s p).2
theorem checkB_ver (v : Ver) : checkB v.a v.b v.c v.e = v.check := rfl
theorem item_le (s : List UInt8) : (itemB s).1.first.length ≤ s.length ∧ (itemB s).1.last.length ≤ s.length := by
 unfold itemB
 have h1 := trim_le s [62, 61]
 have h2 := cut_le (Lib.trimPrefix s [62, 61]) [32]
 have h3 := cut3_le (Lib.trimPrefix s [62, 61]) [32]
 split
 ·skip
  simp
 ·skip
  split
  ·skip
   split
   ·skip
    exact ⟨by simp only; omega, by simp only; omega⟩
   ·skip
    exact ⟨h1, by simp⟩
  ·skip
   split
   ·skip
    simp
   ·skip
    simp
theorem parse_e (s : List UInt8) : (parseB s).1.e.length ≤ s.length := by
 have hc := cut_le s [45]
 unfold parseB parseW
 split
 ·skip
  simp [Ver.z]
 ·skip
  split
  ·skip
   unfold threeB
   split
   ·skip
    simp [Ver.z]
   ·skip
    split
    ·skip
     simp [Ver.z]
    ·skip
     split
     ·skip
      simp [Ver.z]
     ·skip
      split
      ·skip
       simp [Ver.z]
      ·skip
       exact hc.2
  ·skip
   simp [Ver.z]
theorem next_e (v : Ver) (p : Int) : (nextB v p).1.e = [] := by
 have h : ∀ x y z, (nextOk x y z).1.e = [] := fun x y z => by unfold nextOk; split <;> rfl
 unfold nextB
 split
 ·skip
  rfl
 ·skip
  split
  ·skip
   exact h _ _ _
  ·skip
   split
   ·skip
    exact h _ _ _
   ·skip
    split
    ·skip
     exact h _ _ _
    ·skip
     split
     ·skip
      rfl
     ·skip
      exact h _ _ _
theorem behind_e (v : Ver) (g : Int) : (behindB v g).1.e.length ≤ v.e.length + 2 := by
 unfold behindB
 split
 ·skip
  simp
 ·skip
  split
  ·skip
   simp
  ·skip
   split
   ·skip
    rw [next_e]; simp
   ·skip
    rw [next_e]; simp
theorem span_e (t : List UInt8) : (spanB (itemB t).1).1.f.e.length ≤ t.length + 2 ∧ (spanB (itemB t).1).1.t.e.length ≤ t.length + 2 := by
 have h := item_le t
 have h1 := parse_e (itemB t).1.first
 have h2 := parse_e (itemB t).1.last
 have h3 := behind_e (parseB (itemB t).1.first).1 (itemB t).1.sign
 unfold spanB
 split
 ·skip
  simp [Sp.z, Ver.z]
 ·skip
  split
  ·skip
   simp [Sp.z, Ver.z]
  ·skip
   split
   ·skip
    exact ⟨by simp only; omega, by simp [Ver.z]⟩
   ·skip
    split
    ·skip
     exact ⟨by simp [Ver.z], by simp only; omega⟩
    ·skip
     split
     ·skip
      exact ⟨by simp only; omega, by simp only; omega⟩
     ·skip
      exact ⟨by simp only; omega, by simp only; omega⟩
theorem parts_many (s : List UInt8) : (partsR s).length ≤ s.length + 2 := split_le s _
def spRes (t : List UInt8) : Sp := (spanB (itemB t).1).1
theorem any_take {α : Type} {xs : List α} {p : α → Bool} {i : Nat} {d : α} (hi : i < xs.length) (h : (xs.take i).any p = false) (hp : p (xs.getD i d) = false) : (xs.take (i + 1)).any p = false := by
 rw [List.take_add_one, List.any_append, h]
 simp only [List.getD_eq_getElem?_getD, List.getElem?_eq_getElem hi, Option.getD_some] at hp
 simp [List.getElem?_eq_getElem hi, hp]
theorem any_hit {α : Type} {xs : List α} {p : α → Bool} {i : Nat} {d : α} (hi : i < xs.length) (hp : p (xs.getD i d) = true) : xs.any p = true := by
 simp only [List.getD_eq_getElem?_getD, List.getElem?_eq_getElem hi, Option.getD_some] at hp
 exact List.any_eq_true.2 ⟨_, List.getElem_mem hi, hp⟩
theorem any_end {α : Type} {xs : List α} {p : α → Bool} {i : Nat} (hi : xs.length ≤ i) (h : (xs.take i).any p = false) : xs.any p = false := by rwa [List.take_of_length_le hi] at h
section
variable {s : List UInt8}
theorem rB_large (h : decide ((s.length : Int) > 1000) = true) : rangeB s = ([], 4) := if_pos h
theorem rB_none (h : decide ((s.length : Int) > 1000) = false) (h2 : (s == [110, 111, 110, 101]) = true) : rangeB s = ([], 0) := by
 rw [rangeB, if_neg (Bool.eq_false_iff.1 h), if_pos h2]
theorem rB_bad (h : decide ((s.length : Int) > 1000) = false) (h2 : (s == [110, 111, 110, 101]) = false) (h3 : (partsR s).any badB = true) : rangeB s = ([], 8) := by
 rw [rangeB, if_neg (Bool.eq_false_iff.1 h), if_neg (Bool.eq_false_iff.1 h2), if_pos h3]
theorem rB_err {n : Int} (h : decide ((s.length : Int) > 1000) = false) (h2 : (s == [110, 111, 110, 101]) = false) (h3 : (partsR s).any badB = false) (h4 : firstNe ((partsR s).map fun t => (spanB (itemB t).1).2) = n) (hn : n ≠ 0) : rangeB s = ([], n) := by
 rw [rangeB, if_neg (Bool.eq_false_iff.1 h), if_neg (Bool.eq_false_iff.1 h2), if_neg (Bool.eq_false_iff.1 h3), h4, if_pos (by simpa using hn)]
theorem rB_range (h : decide ((s.length : Int) > 1000) = false) (h2 : (s == [110, 111, 110, 101]) = false) (h3 : (partsR s).any badB = false) (h4 : firstNe ((partsR s).map fun t => (spanB (itemB t).1).2) = 0)
  (h5 : (rangeE ((partsR s).map spRes) != 0) = true) : rangeB s = ([], rangeE ((partsR s).map spRes)) := by
 rw [rangeB, if_neg (Bool.eq_false_iff.1 h), if_neg (Bool.eq_false_iff.1 h2), if_neg (Bool.eq_false_iff.1 h3), h4, if_neg (by simp)]
 exact if_pos h5
theorem rB_ok (h : decide ((s.length : Int) > 1000) = false) (h2 : (s == [110, 111, 110, 101]) = false) (h3 : (partsR s).any badB = false) (h4 : firstNe ((partsR s).map fun t => (spanB (itemB t).1).2) = 0)
  (h5 : (rangeE ((partsR s).map spRes) != 0) = false) : rangeB s = ((partsR s).map spRes, 0) := by
 rw [rangeB, if_neg (Bool.eq_false_iff.1 h), if_neg (Bool.eq_false_iff.1 h2), if_neg (Bool.eq_false_iff.1 h3), h4, if_neg (by simp)]
 exact if_neg (Bool.eq_false_iff.1 h5)
end
theorem code_at {ts : List (List UInt8)} {i : Nat} {f : List UInt8 → Int} (hi : i < ts.length) : (ts.map f).getD i 0 = f (ts.getD i []) := by
 simp [List.getD_eq_getElem?_getD, hi]
theorem code_go {ts : List (List UInt8)} {i : Nat} {f : List UInt8 → Int} (hi : i < ts.length) (h : (f (ts.getD i []) != 0) = false) : ((ts.map f).getD i 0 == 0) = true := by
 rw [code_at hi]; simpa using h
theorem code_hit {ts : List (List UInt8)} {i : Nat} {f : List UInt8 → Int} (hi : i < ts.length) (ht : ((ts.map f).take i).all (· == 0) = true) (h : (f (ts.getD i []) != 0) = true) : firstNe (ts.map f) = f (ts.getD i []) := by
 rw [firstNe_hit (by simpa using hi) ht (by rw [code_at hi]; simpa using h), code_at hi]
theorem code_end {ts : List (List UInt8)} {i : Nat} {f : List UInt8 → Int} (hi : ts.length ≤ i) (ht : ((ts.map f).take i).all (· == 0) = true) : firstNe (ts.map f) = 0 := firstNe_none (by simpa using hi) ht
def behindR' (v : Ver) (g : Int) : Ver × Int :=
 if g == 61 && !(v.e == []) then (⟨v.a, v.b, v.c, v.e ++ [46, 48]⟩, checkB v.a v.b v.c (v.e ++ [46, 48]))
 else if g == 61 then (⟨(nextB v 2).1.a, (nextB v 2).1.b, (nextB v 2).1.c, [48]⟩, (nextB v 2).2)
 else if g == 94 && decide (v.a > 0) then nextB v 0 else nextB v 1
def shortV (k : Int) (w : List UInt8) : Sp × Int :=
 if (parseB w).2 != 0 then (Sp.z, (parseB w).2)
 else if k == 61 && !((parseB w).1.e == []) then (⟨true, true, (parseB w).1, ⟨(parseB w).1.a, (parseB w).1.b, (parseB w).1.c, (parseB w).1.e ++ [46, 48]⟩⟩, checkB (parseB w).1.a (parseB w).1.b (parseB w).1.c ((parseB w).1.e ++ [46, 48]))
 else if k == 61 then (⟨true, true, (parseB w).1, ⟨(nextB (parseB w).1 2).1.a, (nextB (parseB w).1 2).1.b, (nextB (parseB w).1 2).1.c, [48]⟩⟩, (nextB (parseB w).1 2).2)
 else if k == 94 && decide ((parseB w).1.a > 0) then (⟨true, true, (parseB w).1, (nextB (parseB w).1 0).1⟩, (nextB (parseB w).1 0).2) else (⟨true, true, (parseB w).1, (nextB (parseB w).1 1).1⟩, (nextB (parseB w).1 1).2)
theorem shortV_def (k : Int) (w : List UInt8) : shortV k w = if (parseB w).2 != 0 then (Sp.z, (parseB w).2) else (⟨true, true, (parseB w).1, (behindR' (parseB w).1 k).1⟩, (behindR' (parseB w).1 k).2) := by
 unfold shortV behindR'
 split
 ·skip
  rfl
 ·skip
  split
  ·skip
   rfl
  ·skip
   split
   ·skip
    rfl
   ·skip
    split <;> rfl
def shortB (w : List UInt8) : Sp × Int :=
 if w == [42] then (Sp.z, 0)
 else if !(w == []) && decide (Lib.indexByte [61, 94, 126] (bI (w.getD 0 0)).toNat.toUInt8 ≥ 0) then shortV (bI (w.getD 0 0)) (w.drop 1) else shortV 94 w
abbrev wordsR (t : List UInt8) : List (List UInt8) := Lib.split t [32]
def tokW (ws : List (List UInt8)) (f l : List UInt8) : Sp × Int :=
 if (ws.length : Int) == 1 && Lib.hasPrefix f [62, 61] then (⟨true, false, (parseB (Lib.trimPrefix f [62, 61])).1, Ver.z⟩, (parseB (Lib.trimPrefix f [62, 61])).2)
 else if (ws.length : Int) == 1 && Lib.hasPrefix l [60] then (⟨false, true, Ver.z, (parseB (Lib.trimPrefix l [60])).1⟩, (parseB (Lib.trimPrefix l [60])).2)
 else if (ws.length : Int) == 1 then shortB f
 else if ((ws.length : Int) == 2 && Lib.hasPrefix f [62, 61]) && Lib.hasPrefix l [60] then
  (⟨true, true, (parseB (Lib.trimPrefix f [62, 61])).1, (parseB (Lib.trimPrefix l [60])).1⟩,
   if (parseB (Lib.trimPrefix f [62, 61])).2 == 8 || (parseB (Lib.trimPrefix l [60])).2 == 8 then 8 else firstB (parseB (Lib.trimPrefix f [62, 61])).2 (parseB (Lib.trimPrefix l [60])).2)
 else (Sp.z, 8)
def tokR (t : List UInt8) : Sp × Int := tokW (wordsR t) ((wordsR t).getD 0 []) ((wordsR t).getD ((wordsR t).length - 1) [])
def tokS (t : List UInt8) : Sp := (tokR t).1
def tokE (t : List UInt8) : Int := (tokR t).2
def rangeR (s : List UInt8) : List Sp × Int :=
 if decide ((s.length : Int) > 1000) then ([], 4) else if s == [110, 111, 110, 101] then ([], 0)
 else if (partsR s).any (fun t => tokE t == 8) then ([], 8)
 else if firstB (firstNe ((partsR s).map tokE)) (rangeE ((partsR s).map tokS)) != 0 then ([], firstB (firstNe ((partsR s).map tokE)) (rangeE ((partsR s).map tokS)))
 else ((partsR s).map tokS, 0)
theorem firstNe_snoc (l : List Int) (x : Int) : firstNe (l ++ [x]) = firstB (firstNe l) x := by
 induction l with
 | nil => by_cases h : x = 0 <;> simp [firstNe, firstB, h]
 | cons a l ih =>
  simp only [List.cons_append, firstNe] at ih ⊢
  by_cases h : a = 0
  ·skip
   subst h; simpa using ih
  ·skip
   simp [h, firstB]
theorem tok_acc {ts : List (List UInt8)} {i : Nat} (hi : i < ts.length) : firstB (firstNe ((ts.take i).map tokE)) (tokE (ts.getD i [])) = firstNe ((ts.take (i + 1)).map tokE) := by
 rw [List.take_add_one, List.getElem?_eq_getElem hi, List.map_append]
 simp only [Option.toList_some, List.map_cons, List.map_nil]
 rw [firstNe_snoc]
 simp [List.getD_eq_getElem?_getD, List.getElem?_eq_getElem hi]
theorem short_e (w : List UInt8) : (shortB w).1.f.e.length ≤ w.length + 2 ∧ (shortB w).1.t.e.length ≤ w.length + 2 := by
 have hb : ∀ (v : Ver) (g : Int), (behindR' v g).1.e.length ≤ v.e.length + 2 := fun v g => by
  unfold behindR'
  split
  ·skip
   simp
  ·skip
   split
   ·skip
    simp
   ·skip
    split
    ·skip
     rw [next_e]; simp
    ·skip
     rw [next_e]; simp
 have hv : ∀ (k : Int) (w : List UInt8), (shortV k w).1.f.e.length ≤ w.length + 2 ∧ (shortV k w).1.t.e.length ≤ w.length + 2 := fun k w => by
  have h1 := parse_e w
  have h2 := hb (parseB w).1 k
  rw [shortV_def]
  split
  ·skip
   simp [Sp.z, Ver.z]
  ·skip
   exact ⟨by simp only; omega, by simp only; omega⟩
 unfold shortB
 split
 ·skip
  simp [Sp.z, Ver.z]
 ·skip
  split
  ·skip
   have := hv (bI (w.getD 0 0)) (w.drop 1)
   simp only [List.length_drop] at this
   omega
  ·skip
   exact hv 94 w
theorem tok_e (t : List UInt8) : (tokS t).f.e.length ≤ t.length + 2 ∧ (tokS t).t.e.length ≤ t.length + 2 := by
 have hf : ((wordsR t).getD 0 []).length ≤ t.length := split_at
 have hl : ((wordsR t).getD ((wordsR t).length - 1) []).length ≤ t.length := split_at
 have t1 := trim_le ((wordsR t).getD 0 []) [62, 61]
 have t2 := trim_le ((wordsR t).getD ((wordsR t).length - 1) []) [60]
 have p1 := parse_e (Lib.trimPrefix ((wordsR t).getD 0 []) [62, 61])
 have p2 := parse_e (Lib.trimPrefix ((wordsR t).getD ((wordsR t).length - 1) []) [60])
 have hs := short_e ((wordsR t).getD 0 [])
 unfold tokS tokR tokW
 split
 ·skip
  exact ⟨by simp only; omega, by simp [Ver.z]⟩
 ·skip
  split
  ·skip
   exact ⟨by simp [Ver.z], by simp only; omega⟩
  ·skip
   split
   ·skip
    omega
   ·skip
    split
    ·skip
     exact ⟨by simp only; omega, by simp only; omega⟩
    ·skip
     simp [Sp.z, Ver.z]
theorem split_pos (s sep : List UInt8) : 0 < (Lib.split s sep).length := by
 unfold Lib.split
 cases Lib.count s sep with
 | zero => simp [Lib.splitK]
 | succ k => unfold Lib.splitK; split <;> simp
section
variable {t : List UInt8}
theorem tok_1 (h : (((wordsR t).length : Int) == 1 && Lib.hasPrefix ((wordsR t).getD 0 []) [62, 61]) = true) : tokR t = (⟨true, false, (parseB (Lib.trimPrefix ((wordsR t).getD 0 []) [62, 61])).1, Ver.z⟩, (parseB (Lib.trimPrefix ((wordsR t).getD 0 []) [62, 61])).2) := if_pos h
theorem tok_2 (h : (((wordsR t).length : Int) == 1 && Lib.hasPrefix ((wordsR t).getD 0 []) [62, 61]) = false) (h2 : (((wordsR t).length : Int) == 1 && Lib.hasPrefix ((wordsR t).getD ((wordsR t).length - 1) []) [60]) = true) :
  tokR t = (⟨false, true, Ver.z, (parseB (Lib.trimPrefix ((wordsR t).getD ((wordsR t).length - 1) []) [60])).1⟩, (parseB (Lib.trimPrefix ((wordsR t).getD ((wordsR t).length - 1) []) [60])).2) := by
 rw [tokR, tokW, if_neg (Bool.eq_false_iff.1 h), if_pos h2]
theorem tok_3 (h : (((wordsR t).length : Int) == 1 && Lib.hasPrefix ((wordsR t).getD 0 []) [62, 61]) = false) (h2 : (((wordsR t).length : Int) == 1 && Lib.hasPrefix ((wordsR t).getD ((wordsR t).length - 1) []) [60]) = false) (h3 : (((wordsR t).length : Int) == 1) = true) :
  tokR t = shortB ((wordsR t).getD 0 []) := by
 rw [tokR, tokW, if_neg (Bool.eq_false_iff.1 h), if_neg (Bool.eq_false_iff.1 h2), if_pos h3]
theorem tok_4 (h : (((wordsR t).length : Int) == 1 && Lib.hasPrefix ((wordsR t).getD 0 []) [62, 61]) = false) (h2 : (((wordsR t).length : Int) == 1 && Lib.hasPrefix ((wordsR t).getD ((wordsR t).length - 1) []) [60]) = false) (h3 : (((wordsR t).length : Int) == 1) = false)
  (h4 : ((((wordsR t).length : Int) == 2 && Lib.hasPrefix ((wordsR t).getD 0 []) [62, 61]) && Lib.hasPrefix ((wordsR t).getD ((wordsR t).length - 1) []) [60]) = true) :
  tokR t = (⟨true, true, (parseB (Lib.trimPrefix ((wordsR t).getD 0 []) [62, 61])).1, (parseB (Lib.trimPrefix ((wordsR t).getD ((wordsR t).length - 1) []) [60])).1⟩,
   if (parseB (Lib.trimPrefix ((wordsR t).getD 0 []) [62, 61])).2 == 8 || (parseB (Lib.trimPrefix ((wordsR t).getD ((wordsR t).length - 1) []) [60])).2 == 8 then 8 else firstB (parseB (Lib.trimPrefix ((wordsR t).getD 0 []) [62, 61])).2 (parseB (Lib.trimPrefix ((wordsR t).getD ((wordsR t).length - 1) []) [60])).2) := by
 rw [tokR, tokW, if_neg (Bool.eq_false_iff.1 h), if_neg (Bool.eq_false_iff.1 h2), if_neg (Bool.eq_false_iff.1 h3), if_pos h4]
theorem tok_5 (h : (((wordsR t).length : Int) == 1 && Lib.hasPrefix ((wordsR t).getD 0 []) [62, 61]) = false) (h2 : (((wordsR t).length : Int) == 1 && Lib.hasPrefix ((wordsR t).getD ((wordsR t).length - 1) []) [60]) = false) (h3 : (((wordsR t).length : Int) == 1) = false)
  (h4 : ((((wordsR t).length : Int) == 2 && Lib.hasPrefix ((wordsR t).getD 0 []) [62, 61]) && Lib.hasPrefix ((wordsR t).getD ((wordsR t).length - 1) []) [60]) = false) : tokR t = (Sp.z, 8) := by
 rw [tokR, tokW, if_neg (Bool.eq_false_iff.1 h), if_neg (Bool.eq_false_iff.1 h2), if_neg (Bool.eq_false_iff.1 h3), if_neg (Bool.eq_false_iff.1 h4)]
end
section
variable {s : List UInt8}
theorem rR_large (h : decide ((s.length : Int) > 1000) = true) : rangeR s = ([], 4) := if_pos h
theorem rR_none (h : decide ((s.length : Int) > 1000) = false) (h2 : (s == [110, 111, 110, 101]) = true) : rangeR s = ([], 0) := by
 rw [rangeR, if_neg (Bool.eq_false_iff.1 h), if_pos h2]
theorem rR_bad {i : Nat} (h : decide ((s.length : Int) > 1000) = false) (h2 : (s == [110, 111, 110, 101]) = false) (hi : i < (partsR s).length) (h3 : tokE ((partsR s).getD i []) = 8) : rangeR s = ([], 8) := by
 rw [rangeR, if_neg (Bool.eq_false_iff.1 h), if_neg (Bool.eq_false_iff.1 h2), if_pos (any_hit (d := []) hi (by simpa using h3))]
theorem rR_err (h : decide ((s.length : Int) > 1000) = false) (h2 : (s == [110, 111, 110, 101]) = false) (h3 : (partsR s).any (fun t => tokE t == 8) = false)
  (h4 : (firstB (firstNe ((partsR s).map tokE)) (rangeE ((partsR s).map tokS)) != 0) = true) : rangeR s = ([], firstB (firstNe ((partsR s).map tokE)) (rangeE ((partsR s).map tokS))) := by
 rw [rangeR, if_neg (Bool.eq_false_iff.1 h), if_neg (Bool.eq_false_iff.1 h2), if_neg (Bool.eq_false_iff.1 h3), if_pos h4]
theorem rR_ok (h : decide ((s.length : Int) > 1000) = false) (h2 : (s == [110, 111, 110, 101]) = false) (h3 : (partsR s).any (fun t => tokE t == 8) = false)
  (h4 : (firstB (firstNe ((partsR s).map tokE)) (rangeE ((partsR s).map tokS)) != 0) = false) : rangeR s = ((partsR s).map tokS, 0) := by
 rw [rangeR, if_neg (Bool.eq_false_iff.1 h), if_neg (Bool.eq_false_iff.1 h2), if_neg (Bool.eq_false_iff.1 h3), if_neg (Bool.eq_false_iff.1 h4)]
end
end
section
open Go
open Go.RowKit
attribute [local irreducible] thenK blockK W
def itV (it : It) : V := .agg [.d (.int .u8 it.sign), .d (.str it.first), .d (.str it.last)]
def itD (t : List UInt8) : List D := [.int .u8 (itemB t).1.sign, .str (itemB t).1.first, .str (itemB t).1.last]
theorem sl_tail (s : List UInt8) : V.one (.d (.str ((s.take ((s.length : Int)).toNat).drop (1 : Int).toNat))) = V.one (.d (.str (s.drop 1))) := by simp
theorem le_rgNil {n : Int} {x : List Sp × Int} (h : x = ([], n)) : LeV (.tup [.agg [.d .nilsl], .one (.d (.int .i64 n))]) (.tup [rgV x.1, .one (.d (.int .i64 x.2))]) := by
 subst h; exact LeV.tup2 (LeV.aggNil 10) (LeV.refl _)
theorem le_rg {ss : List Sp} {n : Int} {x : List Sp × Int} (h : x = (ss, n)) : LeV (.tup [.agg [.d (.vec 10 (ss.map spD))], .one (.d (.int .i64 n))]) (.tup [rgV x.1, .one (.d (.int .i64 x.2))]) := by
 subst h; exact LeV.refl _
theorem len_pos {s : List UInt8} {b : Bool} (h : (!(s == []) && b) = true) : (1 : Int) ≤ (s.length : Int) := by
 cases s with
 | nil => simp at h
 | cons a l => simp only [List.length_cons]; omega
theorem pc_ver_itemOf (s : List UInt8) (hs : s.length < 4294967281) :
  PureCall Tryz.prog J 119 [.one (.d (.str s))] (.tup [itV (itemB s).1, .one (.d (.bool (itemB s).2))]) := by
 have h1 := trim_le s [62, 61]
 have h2 := cut_le (Lib.trimPrefix s [62, 61]) [32]
 have h3 := cut3_le (Lib.trimPrefix s [62, 61]) [32]
 refine PureCall.of_body tOk (fn := Tryz.f119) Tryz.func119 (by kernel_rfl) rfl (Nat.le_of_ble_eq_true rfl) (fun E => ?_)
 iterate 9 first|refine Yp rfl ?_|refine S.alloc tOk rfl rfl rfl rfl ?_|apply Y1|apply Yn|apply Ys
 refine W.cond rfl (fun c1=>?_) fun c1=>?_
 ·skip
  iterate 7 first|refine Yp rfl ?_|apply Yu|apply Yt|refine S.store tOk rfl rfl rfl rfl rfl rfl rfl rfl ?_|apply Y1|apply Yn
  exact Yz rfl rfl rfl (congrArg (fun x : It × Bool => V.tup [itV x.1, .one (.d (.bool x.2))]) ((if_pos c1) : itemB s = _)).symm
 apply Yk
 iterate 9 first|refine Yp rfl ?_|refine S.store tOk rfl rfl rfl rfl rfl rfl rfl rfl ?_|refine S.alloc tOk rfl rfl rfl rfl ?_|apply Y1|apply Y3|apply Ys|apply Yn
 refine S.call rfl rfl rfl rfl rfl (pc_CutPrefix s [62, 61]) ?_
 iterate 8 first|refine Yp rfl ?_|apply Y3|apply Yn
 refine W.cond rfl (fun c2=>?_) fun c2=>?_
 ·skip
  iterate 6 first|refine Yp rfl ?_|refine S.store tOk rfl rfl rfl rfl rfl rfl rfl rfl ?_|apply Y3|apply Y1
  refine S.call rfl rfl rfl rfl rfl (pc_Cut (Lib.trimPrefix s [62, 61]) [32] (by omega)) ?_
  iterate 10 first|refine Yp rfl ?_|apply Y3|apply Yn
  refine W.cond rfl (fun c3=>?_) fun c3=>?_
  ·skip
   apply Y1
   refine Yp rfl ?_
   refine S.call rfl rfl rfl rfl rfl (pc_CutPrefix (Lib.cut (Lib.trimPrefix s [62, 61]) [32]).2.1 [60]) ?_
   iterate 12 first|refine Yp rfl ?_|refine Yg rfl rfl tg ?_|apply Y3
   refine S.callG rfl rfl rfl rfl tg rfl rfl (fun _ => pc_ver_isRow _ (by first | omega | (simp; omega))) ?_
   refine S.pickAnd tOk zOk rfl rfl tg ?_
   refine Yp rfl ?_
   refine Yg rfl rfl tg ?_
   refine S.callG rfl rfl rfl rfl tg rfl rfl (fun _ => pc_ver_isRow _ (by first | omega | (simp; omega))) ?_
   refine S.pickAnd tOk zOk rfl rfl tg ?_
   refine S.store tOk rfl rfl rfl rfl rfl rfl rfl rfl ?_
   refine Yp rfl ?_
   apply Yn
   apply Yt
   apply Yu
   exact Yz rfl rfl rfl (congrArg (fun x : It × Bool => V.tup [itV x.1, .one (.d (.bool x.2))]) (((if_neg (Bool.eq_false_iff.1 c1)).trans ((if_pos c2).trans (if_pos c3))) : itemB s = _)).symm
  apply Yk
  apply Yn
  apply Ys
  refine W.regionD mixed (by kernel_rfl) ?_
  iterate 3 refine Ym rfl rfl ?_
  refine D.call rfl rfl rfl rfl rfl (pc_ver_isRow _ (by first | omega | (simp; omega))) ?_
  refine D.store tOk rfl rfl rfl rfl rfl rfl rfl rfl ?_
  refine Ym rfl rfl ?_
  apply Yn
  apply Yt
  exact Yz rfl rfl rfl (congrArg (fun x : It × Bool => V.tup [itV x.1, .one (.d (.bool x.2))]) (((if_neg (Bool.eq_false_iff.1 c1)).trans ((if_pos c2).trans (if_neg (Bool.eq_false_iff.1 c3)))) : itemB s = _)).symm
 apply Y1
 iterate 3 refine Yp rfl ?_
 refine Yg rfl rfl tg ?_
 refine YG rfl rfl tg (fun h => idx_ok (Int.le_refl _) (by have := len_pos (b := true) (by simpa using h); omega)) rfl ?_
 refine S.callG rfl rfl rfl rfl tg rfl rfl (fun _ => pc_IndexByte _ _) ?_
 refine Yg rfl rfl tg ?_
 refine S.pickAnd tOk zOk rfl rfl tg ?_
 apply Yn
 refine W.cond rfl (fun c4=>?_) fun c4=>?_
 ·skip
  refine W.regionD mixed (by kernel_rfl) ?_
  refine Ym rfl rfl ?_
  refine D.pure tOk zOk rfl rfl (idx_ok (Int.le_refl _) (by have := len_pos c4; omega)) rfl ?_
  refine Ym rfl rfl ?_
  refine D.pureE tOk zOk rfl rfl (sl_ok (l := 1) (h := (s.length : Int)) (n := (s.length : Int)) (by decide) (len_pos c4) (Int.le_refl _)) (sl_tail s) rfl ?_
  refine Ym rfl rfl ?_
  refine D.store tOk rfl rfl rfl rfl rfl rfl rfl rfl ?_
  apply Yn
  apply Ys
  refine W.regionD mixed (by kernel_rfl) ?_
  iterate 3 refine Ym rfl rfl ?_
  refine D.call rfl rfl rfl rfl rfl (pc_ver_isRow _ (by first | omega | (simp; omega))) ?_
  refine D.store tOk rfl rfl rfl rfl rfl rfl rfl rfl ?_
  refine Ym rfl rfl ?_
  apply Yn
  apply Yt
  exact Yz rfl rfl rfl (congrArg (fun x : It × Bool => V.tup [itV x.1, .one (.d (.bool x.2))]) (((if_neg (Bool.eq_false_iff.1 c1)).trans ((if_neg (Bool.eq_false_iff.1 c2)).trans (if_pos c4))) : itemB s = _)).symm
 apply Yk
 apply Yn
 apply Ys
 refine W.regionD mixed (by kernel_rfl) ?_
 iterate 3 refine Ym rfl rfl ?_
 refine D.call rfl rfl rfl rfl rfl (pc_ver_isRow _ (by first | omega | (simp; omega))) ?_
 refine D.store tOk rfl rfl rfl rfl rfl rfl rfl rfl ?_
 refine Ym rfl rfl ?_
 apply Yn
 apply Yt
 exact Yz rfl rfl rfl (congrArg (fun x : It × Bool => V.tup [itV x.1, .one (.d (.bool x.2))]) (((if_neg (Bool.eq_false_iff.1 c1)).trans ((if_neg (Bool.eq_false_iff.1 c2)).trans (if_neg (Bool.eq_false_iff.1 c4)))) : itemB s = _)).symm
theorem pc_ver_behind (v : Ver) (he : v.e.length < 4294967000) (g : Int) :
  PureCall Tryz.prog J 161 [verV v, .one (.d (.int .u8 g))] (.tup [verV (behindB v g).1, .one (.d (.int .i64 (behindB v g).2))]) := by
 refine PureCall.of_body tOk (fn := Tryz.f161) Tryz.func161 (by kernel_rfl) rfl (Nat.le_of_ble_eq_true rfl) (fun E => ?_)
 iterate 17 first|refine S.pickAnd tOk zOk rfl rfl tg ?_|refine Yp rfl ?_|refine Yg rfl rfl tg ?_|apply Yb|refine S.alloc tOk rfl rfl rfl rfl ?_|refine S.box rfl rfl rfl rfl ?_|apply Y1|apply Yn|apply Ys
 refine W.cond rfl (fun c1=>?_) fun c1=>?_
 ·skip
  apply Y1
  iterate 2 refine Yp rfl ?_
  refine YP rfl (cat_ok (by simp [-List.getD_eq_getElem?_getD]; omega)) rfl ?_
  refine Yp rfl ?_
  refine S.store tOk rfl rfl rfl rfl rfl rfl rfl rfl ?_
  apply Yn
  apply Ys
  refine W.regionD mixed (by kernel_rfl) ?_
  iterate 2 refine Ym rfl rfl ?_
  refine D.call rfl rfl rfl rfl rfl (pc_ver_Check ⟨v.a, v.b, v.c, v.e ++ [46, 48]⟩ (by simp; omega)) ?_
  refine D.store tOk rfl rfl rfl rfl rfl rfl rfl rfl ?_
  refine Ym rfl rfl ?_
  apply Yn
  apply Yt
  apply Yv
  apply Yu
  exact Yz rfl rfl rfl (congrArg (fun x : Ver × Int => V.tup [verV x.1, .one (.d (.int .i64 x.2))]) ((if_pos c1) : behindB v g = _)).symm
 apply Y1
 iterate 3 refine Yp rfl ?_
 apply Yn
 refine W.cond rfl (fun c2=>?_) fun c2=>?_
 ·skip
  apply Y1
  refine Yp rfl ?_
  refine S.call rfl rfl rfl rfl rfl (pc_ver_Next v (by omega) 2) ?_
  iterate 18 first|refine Yp rfl ?_|refine S.store tOk rfl rfl rfl rfl rfl rfl rfl rfl ?_|apply Yu|apply Yv|apply Yt|refine S.alloc tOk rfl rfl rfl rfl ?_|apply Y3|apply Yn
  exact Yz rfl rfl rfl (congrArg (fun x : Ver × Int => V.tup [verV x.1, .one (.d (.int .i64 x.2))]) (((if_neg (Bool.eq_false_iff.1 c1)).trans (if_pos c2)) : behindB v g = _)).symm
 iterate 9 first|refine S.pickAnd tOk zOk rfl rfl tg ?_|refine Yp rfl ?_|refine Yg rfl rfl tg ?_|apply Y1
 apply Yn
 refine W.cond rfl (fun c3=>?_) fun c3=>?_
 ·skip
  apply Y1
  refine Yp rfl ?_
  refine S.call rfl rfl rfl rfl rfl (pc_ver_Next v (by omega) 0) ?_
  iterate 8 first|refine Yp rfl ?_|apply Yu|apply Yv|apply Yt|refine S.store tOk rfl rfl rfl rfl rfl rfl rfl rfl ?_|apply Yn
  exact Yz rfl rfl rfl (congrArg (fun x : Ver × Int => V.tup [verV x.1, .one (.d (.int .i64 x.2))]) (((if_neg (Bool.eq_false_iff.1 c1)).trans ((if_neg (Bool.eq_false_iff.1 c2)).trans (if_pos c3))) : behindB v g = _)).symm
 apply Yk
 apply Yw
 apply Y3
 refine Yp rfl ?_
 refine S.call rfl rfl rfl rfl rfl (pc_ver_Next v (by omega) 1) ?_
 iterate 6 first|refine Yp rfl ?_|apply Yt|refine S.store tOk rfl rfl rfl rfl rfl rfl rfl rfl ?_|apply Yn
 exact Yz rfl rfl rfl (congrArg (fun x : Ver × Int => V.tup [verV x.1, .one (.d (.int .i64 x.2))]) (((if_neg (Bool.eq_false_iff.1 c1)).trans ((if_neg (Bool.eq_false_iff.1 c2)).trans (if_neg (Bool.eq_false_iff.1 c3)))) : behindB v g = _)).symm
theorem pc_ver_spanOf (it : It) (h1 : it.first.length < 4294967000) (h2 : it.last.length < 4294967000) :
  PureCall Tryz.prog J 121 [itV it] (.tup [spV (spanB it).1, .one (.d (.int .i64 (spanB it).2))]) := by
 have h3 := parse_e it.first
 refine PureCall.of_body tOk (fn := Tryz.f121) Tryz.func121 (by kernel_rfl) rfl (Nat.le_of_ble_eq_true rfl) (fun E => ?_)
 iterate 11 first|refine Yp rfl ?_|refine S.alloc tOk rfl rfl rfl rfl ?_|refine S.box rfl rfl rfl rfl ?_|apply Y1|apply Yn|apply Ys
 refine W.cond rfl (fun c1=>?_) fun c1=>?_
 ·skip
  iterate 7 first|refine Yp rfl ?_|apply Yu|apply Yt|refine S.store tOk rfl rfl rfl rfl rfl rfl rfl rfl ?_|apply Y1|apply Yn
  exact Yz rfl rfl rfl (congrArg (fun x : Sp × Int => V.tup [spV x.1, .one (.d (.int .i64 x.2))]) ((if_pos c1) : spanB it = _)).symm
 apply Yk
 apply Y3
 iterate 2 refine Yp rfl ?_
 refine S.call rfl rfl rfl rfl rfl (pc_ver_Parse it.first (by omega)) ?_
 iterate 12 first|refine Yp rfl ?_|refine S.store tOk rfl rfl rfl rfl rfl rfl rfl rfl ?_|refine S.alloc tOk rfl rfl rfl rfl ?_|apply Y1|apply Yn|apply Ys
 refine W.cond rfl (fun c2=>?_) fun c2=>?_
 ·skip
  iterate 8 first|refine Yp rfl ?_|apply Yu|apply Yt|refine S.store tOk rfl rfl rfl rfl rfl rfl rfl rfl ?_|apply Y1|apply Yn
  exact Yz rfl rfl rfl (congrArg (fun x : Sp × Int => V.tup [spV x.1, .one (.d (.int .i64 x.2))]) (((if_neg (Bool.eq_false_iff.1 c1)).trans (if_pos c2)) : spanB it = _)).symm
 iterate 12 first|refine Yp rfl ?_|apply Yb|apply Yk|apply Y1|apply Yn|apply Ys
 refine W.cond rfl (fun c3=>?_) fun c3=>?_
 ·skip
  iterate 9 first|refine Yp rfl ?_|apply Yu|apply Yv|apply Yt|refine S.store tOk rfl rfl rfl rfl rfl rfl rfl rfl ?_|apply Y1|apply Yn
  exact Yz rfl rfl rfl (congrArg (fun x : Sp × Int => V.tup [spV x.1, .one (.d (.int .i64 x.2))]) (((if_neg (Bool.eq_false_iff.1 c1)).trans ((if_neg (Bool.eq_false_iff.1 c2)).trans (if_pos c3))) : spanB it = _)).symm
 apply Y1
 iterate 2 refine Yp rfl ?_
 apply Yn
 refine W.cond rfl (fun c4=>?_) fun c4=>?_
 ·skip
  iterate 9 first|refine Yp rfl ?_|apply Yu|apply Yv|apply Yt|refine S.store tOk rfl rfl rfl rfl rfl rfl rfl rfl ?_|apply Y1|apply Yn
  exact Yz rfl rfl rfl (congrArg (fun x : Sp × Int => V.tup [spV x.1, .one (.d (.int .i64 x.2))]) (((if_neg (Bool.eq_false_iff.1 c1)).trans ((if_neg (Bool.eq_false_iff.1 c2)).trans ((if_neg (Bool.eq_false_iff.1 c3)).trans (if_pos c4)))) : spanB it = _)).symm
 apply Y1
 iterate 2 refine Yp rfl ?_
 apply Yn
 refine W.cond rfl (fun c5=>?_) fun c5=>?_
 ·skip
  apply Y1
  iterate 2 refine Yp rfl ?_
  refine S.call rfl rfl rfl rfl rfl (pc_ver_Parse it.last (by omega)) ?_
  iterate 17 first|refine Yp rfl ?_|refine S.store tOk rfl rfl rfl rfl rfl rfl rfl rfl ?_|apply Yu|apply Yv|apply Yt|refine S.alloc tOk rfl rfl rfl rfl ?_|apply Y3|apply Yn
  exact Yz rfl rfl rfl (congrArg (fun x : Sp × Int => V.tup [spV x.1, .one (.d (.int .i64 x.2))]) (((if_neg (Bool.eq_false_iff.1 c1)).trans ((if_neg (Bool.eq_false_iff.1 c2)).trans ((if_neg (Bool.eq_false_iff.1 c3)).trans ((if_neg (Bool.eq_false_iff.1 c4)).trans (if_pos c5))))) : spanB it = _)).symm
 apply Yk
 apply Yw
 apply Y3
 iterate 3 refine Yp rfl ?_
 refine S.call rfl rfl rfl rfl rfl (pc_ver_behind (parseB it.first).1 (by omega) it.sign) ?_
 iterate 15 first|refine Yp rfl ?_|refine S.store tOk rfl rfl rfl rfl rfl rfl rfl rfl ?_|apply Yt|refine S.alloc tOk rfl rfl rfl rfl ?_|apply Y3|apply Yn
 exact Yz rfl rfl rfl (congrArg (fun x : Sp × Int => V.tup [spV x.1, .one (.d (.int .i64 x.2))]) (((if_neg (Bool.eq_false_iff.1 c1)).trans ((if_neg (Bool.eq_false_iff.1 c2)).trans ((if_neg (Bool.eq_false_iff.1 c3)).trans ((if_neg (Bool.eq_false_iff.1 c4)).trans (if_neg (Bool.eq_false_iff.1 c5)))))) : spanB it = _)).symm
theorem pc_ver_ParseRange (s : List UInt8) (hs : s.length < 4294967000) :
  PureCall Tryz.prog J 75 [.one (.d (.str s))] (.tup [rgV (rangeB s).1, .one (.d (.int .i64 (rangeB s).2))]) := by
 have hmany := split_le s [44, 32]
 have hm := fun i => @split_at s [44, 32] i
 refine PureCall.of_body tOk (fn := Tryz.f75) Tryz.func75 (by kernel_rfl) rfl (Nat.le_of_ble_eq_true rfl) (fun E => ?_)
 iterate 10 first|refine Yp rfl ?_|refine S.alloc tOk rfl rfl rfl rfl ?_|apply Y1|apply Yn|apply Ys
 refine W.cond rfl (fun c1=>?_) fun c1=>?_
 ·skip
  iterate 7 first|refine Yp rfl ?_|apply Yu|apply Yt|refine S.store tOk rfl rfl rfl rfl rfl rfl rfl rfl ?_|apply Y1|apply Yn
  exact ⟨_, rfl, rfl, le_rgNil (rB_large c1)⟩
 iterate 7 first|refine Yp rfl ?_|apply Yk|apply Y1|apply Yn|apply Ys
 refine W.cond rfl (fun c2=>?_) fun c2=>?_
 ·skip
  iterate 7 first|refine Yp rfl ?_|apply Yu|apply Yt|refine S.store tOk rfl rfl rfl rfl rfl rfl rfl rfl ?_|apply Y1|apply Yn
  exact ⟨_, rfl, rfl, le_rgNil (rB_none c1 c2)⟩
 apply Yk
 apply Y3
 refine Yp rfl ?_
 apply Yn
 apply Ys
 apply Ys
 refine W.newRow 4 3 158 rfl ?_
 apply Yr
 refine Yp rfl ?_
 refine S.call rfl rfl rfl rfl rfl (pc_Split s [44, 32] (by omega) (by decide)) ?_
 iterate 2 refine Yp rfl ?_
 apply Yn
 apply Yb
 refine W.loop (fun k st => ∃ i : Nat, ∃ v : Nat, ∃ al : Bool, i ≤ (Lib.split s [44, 32]).length ∧ ((Lib.split s [44, 32]).take i).any badB = false ∧ k = (Lib.split s [44, 32]).length - i ∧ ∃ t b2 r2 m2, st = ⟨t, [[.d .nilsl]] ++ b2, [some ⟨al, v, 3, 158, (((Lib.split s [44, 32]).take i).map itD)⟩] ++ r2, [] ++ m2⟩ ∧ holdsL t [(2, .one (.ptr 0 0)), (4, .one (.row 0 v 0 (((Lib.split s [44, 32]).take i).map itD).length)), (23, .one (.d (.vec 1 ((Lib.split s [44, 32]).map fun x => [.str x])))), (24, .one (.d (.int .i64 (((Lib.split s [44, 32]).map fun x => ([.str x] : List D)).length : Int)))), (25, .one (.d (.int .i64 (i : Int))))]) ((Lib.split s [44, 32]).length) ⟨0, 0, false, Nat.zero_le _, by simp, rfl, _, _, _, _, rfl, rfl, rfl, rfl, rfl, rfl, trivial⟩ ?_
 rintro k0 _ ⟨i, v, al, f0_0, f0_1, rfl, t0, bb0, rr0, mm0, rfl, hh0⟩
 refine W.keepR _ _ _ _ _ _ _ hh0 rfl ?_
 apply Y1
 refine Yp rfl ?_
 apply Yn
 apply Ys
 refine W.cond rfl (fun c3=>?_) fun c3=>?_
 ·skip
  have hi := row_lt c3
  apply Yk
  apply Yn
  apply Ys
  apply Yb
  apply Y1
  refine YE rfl (row_ok hi) (row_at [] hi) rfl ?_
  iterate 4 first|refine Yp rfl ?_|apply Y3
  refine S.call rfl rfl rfl rfl rfl (pc_ver_itemOf ((Lib.split s [44, 32]).getD i []) (by have := hm i; omega)) ?_
  iterate 18 first|refine Yp rfl ?_|refine Yg rfl rfl tg ?_|refine S.store tOk rfl rfl rfl rfl rfl rfl rfl rfl ?_|refine S.alloc tOk rfl rfl rfl rfl ?_|apply Y1|apply Ys|apply Yn
  refine S.callG rfl rfl rfl rfl tg rfl rfl (fun _ => pc_ver_wrong (itemB ((Lib.split s [44, 32]).getD i [])).1.first (by have := hm i; have := item_le ((Lib.split s [44, 32]).getD i []); omega)) ?_
  refine S.pickAndG tOk zOk rfl rfl rfl tg tg ?_
  refine S.pickOr tOk zOk rfl rfl tg ?_
  refine Yp rfl ?_
  iterate 6 refine Yg rfl rfl tg ?_
  refine S.callG rfl rfl rfl rfl tg rfl rfl (fun _ => pc_ver_wrong (itemB ((Lib.split s [44, 32]).getD i [])).1.last (by have := hm i; have := item_le ((Lib.split s [44, 32]).getD i []); omega)) ?_
  refine S.pickAndG tOk zOk rfl rfl rfl tg tg ?_
  refine S.pickOr tOk zOk rfl rfl tg ?_
  apply Yn
  refine W.cond rfl (fun c4=>?_) fun c4=>?_
  ·skip
   iterate 12 first|apply Yu|apply Yv|refine Yp rfl ?_|apply Yt|refine S.store tOk rfl rfl rfl rfl rfl rfl rfl rfl ?_|apply Y1|apply Yn
   exact ⟨_, rfl, rfl, le_rgNil (rB_bad c1 c2 (any_hit (d := []) hi c4))⟩
  apply Yk
  apply Y4
  iterate 2 refine Yp rfl ?_
  refine S.slice tOk rfl rfl ?_
  refine S.append tOk rfl rfl rfl rfl rfl rfl rfl rfl rfl rfl rfl rfl (by show _ + 1 ≤ _; simp; omega) rfl (take_snoc [] hi) rfl ?_
  iterate 5 first|refine Yp rfl ?_|apply Yw|apply Y4
  refine loop_n ((Lib.split s [44, 32]).length - (i + 1)) (by omega) ⟨i + 1, _, _, hi, any_take (d := []) hi f0_1 c4, rfl, _, _, _, _, rfl, rfl, rfl, rfl, rfl, inc_i64 (by omega), trivial⟩
 have hi := row_ge c3
 apply Yq
 apply Ye
 apply Ye
 apply Yx
 apply Yn
 apply Ys
 refine W.freeze (q := ⟨_, _, _, _, _⟩) [4] rfl (by intro k hk; simp at hk; subst hk; rfl) ?_
 have hall := any_end hi f0_1
 have hts : (Lib.split s [44, 32]).take i = (Lib.split s [44, 32]) := List.take_of_length_le hi
 rw [hts]
 apply Yr
 refine Yp rfl ?_
 refine S.alloc tOk rfl rfl rfl rfl ?_
 refine S.store tOk rfl rfl rfl rfl rfl rfl rfl rfl ?_
 apply Yn
 apply Ys
 apply Ys
 refine W.newRowB 1 0 10 145 rfl rfl rfl ?_
 apply Yr
 iterate 3 refine Yp rfl ?_
 apply Yn
 apply Yb
 refine W.loop (fun k st => ∃ i : Nat, ∃ v : Nat, ∃ al : Bool, i ≤ (Lib.split s [44, 32]).length ∧ (((Lib.split s [44, 32]).map fun t => (spanB (itemB t).1).2).take i).all (· == 0) = true ∧ k = (Lib.split s [44, 32]).length - i ∧ ∃ t b2 r2 m2, st = ⟨t, [[.d .nilsl], [.row 1 v 0 ((((Lib.split s [44, 32]).take i).map spRes).map spD).length]] ++ b2, [none, some ⟨al, v, 10, 145, ((((Lib.split s [44, 32]).take i).map spRes).map spD)⟩] ++ r2, [] ++ m2⟩ ∧ holdsL t [(2, .one (.ptr 0 0)), (9, .one (.ptr 1 0)), (63, .one (.d (.vec 3 ((Lib.split s [44, 32]).map itD)))), (64, .one (.d (.int .i64 (((Lib.split s [44, 32]).map itD).length : Int)))), (65, .one (.d (.int .i64 (i : Int))))]) ((Lib.split s [44, 32]).length) ⟨0, 0, false, Nat.zero_le _, by simp, rfl, _, _, _, _, rfl, rfl, rfl, rfl, rfl, rfl, trivial⟩ ?_
 rintro k2 _ ⟨i, v, al, f2_0, f2_1, rfl, t2, bb2, rr2, mm2, rfl, hh2⟩
 refine W.keepR _ _ _ _ _ _ _ hh2 rfl ?_
 apply Y1
 refine Yp rfl ?_
 apply Yn
 apply Ys
 refine W.cond rfl (fun c5=>?_) fun c5=>?_
 ·skip
  have hi := row_lt c5
  apply Yk
  apply Yn
  apply Ys
  apply Yb
  apply Y1
  refine YE rfl (row_ok hi) (row_at [] hi) rfl ?_
  iterate 5 first|refine Yp rfl ?_|refine S.store tOk rfl rfl rfl rfl rfl rfl rfl rfl ?_|refine S.alloc tOk rfl rfl rfl rfl ?_|apply Y3
  refine S.call rfl rfl rfl rfl rfl (pc_ver_spanOf (itemB ((Lib.split s [44, 32]).getD i [])).1 (by have := hm i; have := item_le ((Lib.split s [44, 32]).getD i []); omega) (by have := hm i; have := item_le ((Lib.split s [44, 32]).getD i []); omega)) ?_
  iterate 12 first|refine Yp rfl ?_|refine S.store tOk rfl rfl rfl rfl rfl rfl rfl rfl ?_|refine S.alloc tOk rfl rfl rfl rfl ?_|apply Y1|apply Yn|apply Ys
  refine W.cond rfl (fun c6=>?_) fun c6=>?_
  ·skip
   iterate 13 first|apply Yu|refine Yp rfl ?_|apply Yv|apply Yt|refine S.store tOk rfl rfl rfl rfl rfl rfl rfl rfl ?_|apply Y1|apply Yn
   exact ⟨_, rfl, rfl, le_rgNil (rB_err c1 c2 hall (code_hit hi f2_1 c6) (by simpa using c6))⟩
  apply Yk
  apply Y4
  iterate 3 refine Yp rfl ?_
  refine S.slice tOk rfl rfl ?_
  refine S.append tOk rfl rfl rfl rfl rfl rfl rfl rfl rfl rfl rfl rfl (by show _ + 1 ≤ _; simp; omega) rfl (take_snoc2 [] hi) rfl ?_
  iterate 6 first|refine Yp rfl ?_|apply Yw|refine S.store tOk rfl rfl rfl rfl rfl rfl rfl rfl ?_|apply Y4
  refine loop_n ((Lib.split s [44, 32]).length - (i + 1)) (by omega) ⟨i + 1, _, _, hi, all_take_succ (d := 0) (by simpa using hi) f2_1 (code_go hi c6), rfl, _, _, _, _, rfl, rfl, rfl, rfl, rfl, inc_i64 (by omega), trivial⟩
 have hi := row_ge c5
 iterate 7 first|apply Ye|apply Yx|apply Yq|apply Ys|apply Yn
 refine W.freezeB (ri := 1) (q := ⟨_, _, _, _, _⟩) 1 0 rfl rfl rfl rfl ?_
 have hcode := code_end hi f2_1
 have hts2 : (Lib.split s [44, 32]).take i = (Lib.split s [44, 32]) := List.take_of_length_le hi
 rw [hts2]
 have hsp : ∀ u ∈ (Lib.split s [44, 32]).map spRes, SpLen u := fun u hu => by
  obtain ⟨x, hx, rfl⟩ := List.mem_map.1 hu
  have h1 := span_e x
  have h2 : x.length ≤ s.length := split_mem hx
  unfold spRes SpLen; omega
 apply Yr
 refine Yp rfl ?_
 refine S.call rfl rfl rfl rfl rfl (pc_ver_CheckRange ((Lib.split s [44, 32]).map spRes) (by have := c1; simp at this ⊢; omega) hsp) ?_
 iterate 5 first|refine Yp rfl ?_|apply Y3|apply Yn
 refine W.cond rfl (fun c7=>?_) fun c7=>?_
 ·skip
  iterate 8 first|refine Yp rfl ?_|apply Yu|apply Yt|refine S.store tOk rfl rfl rfl rfl rfl rfl rfl rfl ?_|apply Y1|apply Yn
  exact ⟨_, rfl, rfl, le_rgNil (rB_range c1 c2 hall hcode c7)⟩
 iterate 7 first|refine Yp rfl ?_|apply Yt|refine S.store tOk rfl rfl rfl rfl rfl rfl rfl rfl ?_|apply Yk|apply Y3|apply Yn
 exact ⟨_, rfl, rfl, le_rg (rB_ok c1 c2 hall hcode c7)⟩
end
section
open Go
open Go.RowKit
attribute [local irreducible] thenK blockK W
attribute [local irreducible] parseB nextB Lib.split Lib.trimPrefix Lib.hasPrefix
theorem row_last {α : Type} {f : α → List D} {l : List α} (d : α) (h : 0 < l.length) (hl : l.length ≤ 4611686018427387904) : V.one (.eptr ((l.map f).getD (IntKind.i64.wrap (((l.map f).length : Int) - 1)).toNat [])) = V.one (.eptr (f (l.getD (l.length - 1) d))) := by
 rw [show ((l.map f).length : Int) = (l.length : Int) by simp, pred_nat hl]
 simp [List.getD_eq_getElem?_getD, show l.length - 1 < l.length by omega]
theorem last_ok {α : Type} {f : α → List D} {l : List α} (h : 0 < l.length) (hl : l.length ≤ 4611686018427387904) :
  (decide (0 ≤ IntKind.i64.wrap (((l.map f).length : Int) - 1)) && decide (IntKind.i64.wrap (((l.map f).length : Int) - 1) < ((l.map f).length : Int))) = true := by
 have e : IntKind.i64.wrap (((l.map f).length : Int) - 1) = (l.length : Int) - 1 := by rw [show ((l.map f).length : Int) = (l.length : Int) by simp]; exact wrap_i64 (by omega) (by omega)
 rw [e]; simp; omega
theorem pc_outref2_upTo (v w : Ver) :
  PureCall Tryz.prog J 156 [verV v, verV w] (.agg [.d (.bool true), .d (.bool true), .d (.int .i64 v.a), .d (.int .i64 v.b), .d (.int .i64 v.c), .d (.str v.e), .d (.int .i64 w.a), .d (.int .i64 w.b), .d (.int .i64 w.c), .d (.str w.e)]) := by
 refine PureCall.of_body tOk (fn := Tryz.f156) Tryz.func156 (by kernel_rfl) rfl (Nat.le_of_ble_eq_true rfl) (fun E => ?_)
 iterate 11 first|refine Yp rfl ?_|refine S.box rfl rfl rfl rfl ?_|apply Yt|refine S.store tOk rfl rfl rfl rfl rfl rfl rfl rfl ?_|refine S.alloc tOk rfl rfl rfl rfl ?_|apply Y3|apply Y1|apply Yn
 exact ⟨_, rfl, rfl, LeV.refl _⟩
theorem pc_outref2_shortSpan (s : List UInt8) (hs : s.length < 4294967000) :
  PureCall Tryz.prog J 109 [.one (.d (.str s))] (.tup [spV (shortB s).1, .one (.d (.int .i64 (shortB s).2))]) := by
 have h1 := parse_e s
 have h2 := parse_e (s.drop 1)
 simp only [List.length_drop] at h2
 refine PureCall.of_body tOk (fn := Tryz.f109) Tryz.func109 (by kernel_rfl) rfl (Nat.le_of_ble_eq_true rfl) (fun E => ?_)
 iterate 9 first|refine Yp rfl ?_|refine S.alloc tOk rfl rfl rfl rfl ?_|apply Y1|apply Yn|apply Ys
 refine W.cond rfl (fun c1=>?_) fun c1=>?_
 ·skip
  iterate 7 first|refine Yp rfl ?_|apply Yu|apply Yt|refine S.store tOk rfl rfl rfl rfl rfl rfl rfl rfl ?_|apply Y1|apply Yn
  exact Yz rfl rfl rfl (congrArg (fun x : Sp × Int => V.tup [spV x.1, .one (.d (.int .i64 x.2))]) ((if_pos c1) : shortB s = _)).symm
 iterate 9 first|refine Yp rfl ?_|apply Yk|apply Y1|apply Y3|apply Ys|apply Yn
 refine Yg rfl rfl tg ?_
 refine YG rfl rfl tg (fun h => idx_ok (Int.le_refl _) (by have := len_pos (b := true) (by simpa using h); omega)) rfl ?_
 refine S.callG rfl rfl rfl rfl tg rfl rfl (fun _ => pc_IndexByte _ _) ?_
 refine Yg rfl rfl tg ?_
 refine S.pickAnd tOk zOk rfl rfl tg ?_
 apply Yn
 refine W.cond rfl (fun c2=>?_) fun c2=>?_
 ·skip
  refine W.regionD mixed (by kernel_rfl) ?_
  refine Ym rfl rfl ?_
  refine D.pure tOk zOk rfl rfl (idx_ok (Int.le_refl _) (by have := len_pos c2; omega)) rfl ?_
  refine Ym rfl rfl ?_
  refine D.pureE tOk zOk rfl rfl (sl_ok (l := 1) (h := (s.length : Int)) (n := (s.length : Int)) (by decide) (len_pos c2) (Int.le_refl _)) (sl_tail s) rfl ?_
  iterate 2 refine Ym rfl rfl ?_
  apply Y3
  refine Yp rfl ?_
  refine S.call rfl rfl rfl rfl rfl (pc_outref2_ReadVersion (s.drop 1) (by simp; omega)) ?_
  iterate 12 first|refine Yp rfl ?_|refine S.store tOk rfl rfl rfl rfl rfl rfl rfl rfl ?_|refine S.alloc tOk rfl rfl rfl rfl ?_|apply Y1|apply Yn|apply Ys
  refine W.cond rfl (fun c3=>?_) fun c3=>?_
  ·skip
   iterate 8 first|refine Yp rfl ?_|apply Yu|apply Yt|refine S.store tOk rfl rfl rfl rfl rfl rfl rfl rfl ?_|apply Y1|apply Yn
   exact Yz rfl rfl rfl (congrArg (fun x : Sp × Int => V.tup [spV x.1, .one (.d (.int .i64 x.2))]) (((if_neg (Bool.eq_false_iff.1 c1)).trans ((if_pos c2).trans (if_pos c3))) : shortB s = _)).symm
  apply Yk
  apply Y3
  iterate 16 first|refine S.pickAnd tOk zOk rfl rfl tg ?_|refine Yp rfl ?_|refine Yg rfl rfl tg ?_|apply Yb|refine S.store tOk rfl rfl rfl rfl rfl rfl rfl rfl ?_|refine S.alloc tOk rfl rfl rfl rfl ?_|apply Y1|apply Yn|apply Ys
  refine W.cond rfl (fun c4=>?_) fun c4=>?_
  ·skip
   apply Y1
   iterate 2 refine Yp rfl ?_
   refine YP rfl (cat_ok (by simp [-List.getD_eq_getElem?_getD, -List.drop_one]; omega)) rfl ?_
   refine Yp rfl ?_
   refine S.store tOk rfl rfl rfl rfl rfl rfl rfl rfl ?_
   apply Yn
   apply Ys
   refine W.regionD mixed (by kernel_rfl) ?_
   iterate 2 refine Ym rfl rfl ?_
   refine D.call rfl rfl rfl rfl rfl (pc_outref2_upTo (parseB (s.drop 1)).1 ⟨(parseB (s.drop 1)).1.a, (parseB (s.drop 1)).1.b, (parseB (s.drop 1)).1.c, (parseB (s.drop 1)).1.e ++ [46, 48]⟩) ?_
   refine Ym rfl rfl ?_
   refine D.slice tOk rfl rfl ?_
   refine D.call rfl rfl rfl rfl rfl (pc_verr1 ⟨(parseB (s.drop 1)).1.a, (parseB (s.drop 1)).1.b, (parseB (s.drop 1)).1.c, (parseB (s.drop 1)).1.e ++ [46, 48]⟩ (by simp [-List.drop_one]; omega)) ?_
   refine D.store tOk rfl rfl rfl rfl rfl rfl rfl rfl ?_
   refine Ym rfl rfl ?_
   apply Yn
   apply Yt
   apply Yv
   apply Yu
   exact Yz rfl rfl rfl (congrArg (fun x : Sp × Int => V.tup [spV x.1, .one (.d (.int .i64 x.2))]) (((if_neg (Bool.eq_false_iff.1 c1)).trans ((if_pos c2).trans ((if_neg (Bool.eq_false_iff.1 c3)).trans (if_pos c4)))) : shortB s = _)).symm
  apply Y1
  iterate 3 refine Yp rfl ?_
  apply Yn
  refine W.cond rfl (fun c5=>?_) fun c5=>?_
  ·skip
   apply Y1
   refine Yp rfl ?_
   refine S.call rfl rfl rfl rfl rfl (pc_outref2_NextOf (parseB (s.drop 1)).1 (by omega) 2) ?_
   iterate 12 first|refine Yp rfl ?_|refine S.store tOk rfl rfl rfl rfl rfl rfl rfl rfl ?_|apply Yw|apply Y3|apply Y4
   refine S.call rfl rfl rfl rfl rfl (pc_outref2_upTo (parseB (s.drop 1)).1 ⟨(nextB (parseB (s.drop 1)).1 2).1.a, (nextB (parseB (s.drop 1)).1 2).1.b, (nextB (parseB (s.drop 1)).1 2).1.c, [48]⟩) ?_
   iterate 5 first|refine Yp rfl ?_|apply Yt|refine S.store tOk rfl rfl rfl rfl rfl rfl rfl rfl ?_|apply Yn
   exact Yz rfl rfl rfl (congrArg (fun x : Sp × Int => V.tup [spV x.1, .one (.d (.int .i64 x.2))]) (((if_neg (Bool.eq_false_iff.1 c1)).trans ((if_pos c2).trans ((if_neg (Bool.eq_false_iff.1 c3)).trans ((if_neg (Bool.eq_false_iff.1 c4)).trans (if_pos c5))))) : shortB s = _)).symm
  iterate 10 first|refine S.pickAnd tOk zOk rfl rfl tg ?_|refine Yp rfl ?_|refine Yg rfl rfl tg ?_|apply Y1|apply Yn
  refine W.cond rfl (fun c6=>?_) fun c6=>?_
  ·skip
   apply Yr
   refine Yp rfl ?_
   refine S.call rfl rfl rfl rfl rfl (pc_outref2_NextOf (parseB (s.drop 1)).1 (by omega) 0) ?_
   iterate 9 first|refine Yp rfl ?_|apply Yw|refine S.store tOk rfl rfl rfl rfl rfl rfl rfl rfl ?_|apply Y3
   refine S.call rfl rfl rfl rfl rfl (pc_outref2_upTo (parseB (s.drop 1)).1 (nextB (parseB (s.drop 1)).1 0).1) ?_
   iterate 5 first|refine Yp rfl ?_|apply Yt|refine S.store tOk rfl rfl rfl rfl rfl rfl rfl rfl ?_|apply Yn
   exact Yz rfl rfl rfl (congrArg (fun x : Sp × Int => V.tup [spV x.1, .one (.d (.int .i64 x.2))]) (((if_neg (Bool.eq_false_iff.1 c1)).trans ((if_pos c2).trans ((if_neg (Bool.eq_false_iff.1 c3)).trans ((if_neg (Bool.eq_false_iff.1 c4)).trans ((if_neg (Bool.eq_false_iff.1 c5)).trans (if_pos c6)))))) : shortB s = _)).symm
  apply Yr
  refine Yp rfl ?_
  refine S.call rfl rfl rfl rfl rfl (pc_outref2_NextOf (parseB (s.drop 1)).1 (by omega) 1) ?_
  iterate 9 first|refine Yp rfl ?_|apply Yw|refine S.store tOk rfl rfl rfl rfl rfl rfl rfl rfl ?_|apply Y3
  refine S.call rfl rfl rfl rfl rfl (pc_outref2_upTo (parseB (s.drop 1)).1 (nextB (parseB (s.drop 1)).1 1).1) ?_
  iterate 5 first|refine Yp rfl ?_|apply Yt|refine S.store tOk rfl rfl rfl rfl rfl rfl rfl rfl ?_|apply Yn
  exact Yz rfl rfl rfl (congrArg (fun x : Sp × Int => V.tup [spV x.1, .one (.d (.int .i64 x.2))]) (((if_neg (Bool.eq_false_iff.1 c1)).trans ((if_pos c2).trans ((if_neg (Bool.eq_false_iff.1 c3)).trans ((if_neg (Bool.eq_false_iff.1 c4)).trans ((if_neg (Bool.eq_false_iff.1 c5)).trans (if_neg (Bool.eq_false_iff.1 c6))))))) : shortB s = _)).symm
 apply Yk
 apply Y3
 refine Yp rfl ?_
 refine S.call rfl rfl rfl rfl rfl (pc_outref2_ReadVersion s (by omega)) ?_
 iterate 12 first|refine Yp rfl ?_|refine S.store tOk rfl rfl rfl rfl rfl rfl rfl rfl ?_|refine S.alloc tOk rfl rfl rfl rfl ?_|apply Y1|apply Yn|apply Ys
 refine W.cond rfl (fun c7=>?_) fun c7=>?_
 ·skip
  iterate 8 first|refine Yp rfl ?_|apply Yu|apply Yt|refine S.store tOk rfl rfl rfl rfl rfl rfl rfl rfl ?_|apply Y1|apply Yn
  exact Yz rfl rfl rfl (congrArg (fun x : Sp × Int => V.tup [spV x.1, .one (.d (.int .i64 x.2))]) (((if_neg (Bool.eq_false_iff.1 c1)).trans ((if_neg (Bool.eq_false_iff.1 c2)).trans (if_pos c7))) : shortB s = _)).symm
 apply Yk
 apply Y3
 iterate 16 first|refine S.pickAnd tOk zOk rfl rfl tg ?_|refine Yp rfl ?_|refine Yg rfl rfl tg ?_|apply Yb|refine S.store tOk rfl rfl rfl rfl rfl rfl rfl rfl ?_|refine S.alloc tOk rfl rfl rfl rfl ?_|apply Y1|apply Yn|apply Ys
 refine W.cond rfl (fun c8=>?_) fun c8=>?_
 ·skip
  apply Y1
  iterate 2 refine Yp rfl ?_
  refine YP rfl (cat_ok (by simp [-List.getD_eq_getElem?_getD, -List.drop_one]; omega)) rfl ?_
  refine Yp rfl ?_
  refine S.store tOk rfl rfl rfl rfl rfl rfl rfl rfl ?_
  apply Yn
  apply Ys
  refine W.regionD mixed (by kernel_rfl) ?_
  iterate 2 refine Ym rfl rfl ?_
  refine D.call rfl rfl rfl rfl rfl (pc_outref2_upTo (parseB s).1 ⟨(parseB s).1.a, (parseB s).1.b, (parseB s).1.c, (parseB s).1.e ++ [46, 48]⟩) ?_
  refine Ym rfl rfl ?_
  refine D.slice tOk rfl rfl ?_
  refine D.call rfl rfl rfl rfl rfl (pc_verr1 ⟨(parseB s).1.a, (parseB s).1.b, (parseB s).1.c, (parseB s).1.e ++ [46, 48]⟩ (by simp [-List.drop_one]; omega)) ?_
  refine D.store tOk rfl rfl rfl rfl rfl rfl rfl rfl ?_
  refine Ym rfl rfl ?_
  apply Yn
  apply Yt
  apply Yv
  apply Yu
  exact Yz rfl rfl rfl (congrArg (fun x : Sp × Int => V.tup [spV x.1, .one (.d (.int .i64 x.2))]) (((if_neg (Bool.eq_false_iff.1 c1)).trans ((if_neg (Bool.eq_false_iff.1 c2)).trans ((if_neg (Bool.eq_false_iff.1 c7)).trans (if_pos c8)))) : shortB s = _)).symm
 apply Y1
 iterate 3 refine Yp rfl ?_
 apply Yn
 refine W.cond rfl (fun c9=>?_) fun c9=>?_
 ·skip
  apply Y1
  refine Yp rfl ?_
  refine S.call rfl rfl rfl rfl rfl (pc_outref2_NextOf (parseB s).1 (by omega) 2) ?_
  iterate 12 first|refine Yp rfl ?_|refine S.store tOk rfl rfl rfl rfl rfl rfl rfl rfl ?_|apply Yw|apply Y3|apply Y4
  refine S.call rfl rfl rfl rfl rfl (pc_outref2_upTo (parseB s).1 ⟨(nextB (parseB s).1 2).1.a, (nextB (parseB s).1 2).1.b, (nextB (parseB s).1 2).1.c, [48]⟩) ?_
  iterate 5 first|refine Yp rfl ?_|apply Yt|refine S.store tOk rfl rfl rfl rfl rfl rfl rfl rfl ?_|apply Yn
  exact Yz rfl rfl rfl (congrArg (fun x : Sp × Int => V.tup [spV x.1, .one (.d (.int .i64 x.2))]) (((if_neg (Bool.eq_false_iff.1 c1)).trans ((if_neg (Bool.eq_false_iff.1 c2)).trans ((if_neg (Bool.eq_false_iff.1 c7)).trans ((if_neg (Bool.eq_false_iff.1 c8)).trans (if_pos c9))))) : shortB s = _)).symm
 iterate 9 first|refine S.pickAnd tOk zOk rfl rfl tg ?_|refine Yp rfl ?_|refine Yg rfl rfl tg ?_|apply Y1
 apply Yn
 refine W.cond rfl (fun c10=>?_) fun c10=>?_
 ·skip
  apply Yr
  refine Yp rfl ?_
  refine S.call rfl rfl rfl rfl rfl (pc_outref2_NextOf (parseB s).1 (by omega) 0) ?_
  iterate 9 first|refine Yp rfl ?_|apply Yw|refine S.store tOk rfl rfl rfl rfl rfl rfl rfl rfl ?_|apply Y3
  refine S.call rfl rfl rfl rfl rfl (pc_outref2_upTo (parseB s).1 (nextB (parseB s).1 0).1) ?_
  iterate 5 first|refine Yp rfl ?_|apply Yt|refine S.store tOk rfl rfl rfl rfl rfl rfl rfl rfl ?_|apply Yn
  exact Yz rfl rfl rfl (congrArg (fun x : Sp × Int => V.tup [spV x.1, .one (.d (.int .i64 x.2))]) (((if_neg (Bool.eq_false_iff.1 c1)).trans ((if_neg (Bool.eq_false_iff.1 c2)).trans ((if_neg (Bool.eq_false_iff.1 c7)).trans ((if_neg (Bool.eq_false_iff.1 c8)).trans ((if_neg (Bool.eq_false_iff.1 c9)).trans (if_pos c10)))))) : shortB s = _)).symm
 apply Yr
 refine Yp rfl ?_
 refine S.call rfl rfl rfl rfl rfl (pc_outref2_NextOf (parseB s).1 (by omega) 1) ?_
 iterate 9 first|refine Yp rfl ?_|apply Yw|refine S.store tOk rfl rfl rfl rfl rfl rfl rfl rfl ?_|apply Y3
 refine S.call rfl rfl rfl rfl rfl (pc_outref2_upTo (parseB s).1 (nextB (parseB s).1 1).1) ?_
 iterate 5 first|refine Yp rfl ?_|apply Yt|refine S.store tOk rfl rfl rfl rfl rfl rfl rfl rfl ?_|apply Yn
 exact Yz rfl rfl rfl (congrArg (fun x : Sp × Int => V.tup [spV x.1, .one (.d (.int .i64 x.2))]) (((if_neg (Bool.eq_false_iff.1 c1)).trans ((if_neg (Bool.eq_false_iff.1 c2)).trans ((if_neg (Bool.eq_false_iff.1 c7)).trans ((if_neg (Bool.eq_false_iff.1 c8)).trans ((if_neg (Bool.eq_false_iff.1 c9)).trans (if_neg (Bool.eq_false_iff.1 c10))))))) : shortB s = _)).symm
theorem pc_outref2_ReadRange (s : List UInt8) (hs : s.length < 4294967000) :
  PureCall Tryz.prog J 64 [.one (.d (.str s))] (.tup [rgV (rangeR s).1, .one (.d (.int .i64 (rangeR s).2))]) := by
 have hmany := split_le s [44, 32]
 have hm := fun i => @split_at s [44, 32] i
 refine PureCall.of_body tOk (fn := Tryz.f64) Tryz.func64 (by kernel_rfl) rfl (Nat.le_of_ble_eq_true rfl) (fun E => ?_)
 iterate 10 first|refine Yp rfl ?_|refine S.alloc tOk rfl rfl rfl rfl ?_|apply Y1|apply Yn|apply Ys
 refine W.cond rfl (fun c1=>?_) fun c1=>?_
 ·skip
  iterate 7 first|refine Yp rfl ?_|apply Yu|apply Yt|refine S.store tOk rfl rfl rfl rfl rfl rfl rfl rfl ?_|apply Y1|apply Yn
  exact ⟨_, rfl, rfl, le_rgNil (rR_large c1)⟩
 iterate 7 first|refine Yp rfl ?_|apply Yk|apply Y1|apply Yn|apply Ys
 refine W.cond rfl (fun c2=>?_) fun c2=>?_
 ·skip
  iterate 7 first|refine Yp rfl ?_|apply Yu|apply Yt|refine S.store tOk rfl rfl rfl rfl rfl rfl rfl rfl ?_|apply Y1|apply Yn
  exact ⟨_, rfl, rfl, le_rgNil (rR_none c1 c2)⟩
 iterate 8 first|refine Yp rfl ?_|refine S.alloc tOk rfl rfl rfl rfl ?_|apply Yk|apply Y3|apply Ys|apply Yn
 refine W.newRowB 1 0 10 145 rfl rfl rfl ?_
 apply Yr
 refine Yp rfl ?_
 refine S.call rfl rfl rfl rfl rfl (pc_Split s [44, 32] (by omega) (by decide)) ?_
 iterate 2 refine Yp rfl ?_
 apply Yn
 apply Yb
 refine W.loop (fun k st => ∃ i : Nat, ∃ v : Nat, ∃ al : Bool, i ≤ (Lib.split s [44, 32]).length ∧ ((Lib.split s [44, 32]).take i).any (fun t => tokE t == 8) = false ∧ k = (Lib.split s [44, 32]).length - i ∧ ∃ t b2 r2 m2, st = ⟨t, [[.d .nilsl], [.row 0 v 0 ((((Lib.split s [44, 32]).take i).map tokS).map spD).length]] ++ b2, [some ⟨al, v, 10, 145, ((((Lib.split s [44, 32]).take i).map tokS).map spD)⟩] ++ r2, [] ++ m2⟩ ∧ holdsL t [(2, .one (.ptr 0 0)), (4, .one (.ptr 1 0)), (5, .one (.d (.int .i64 (firstNe (((Lib.split s [44, 32]).take i).map tokE))))), (25, .one (.d (.vec 1 ((Lib.split s [44, 32]).map fun x => [.str x])))), (26, .one (.d (.int .i64 (((Lib.split s [44, 32]).map fun x => ([.str x] : List D)).length : Int)))), (27, .one (.d (.int .i64 (i : Int))))]) ((Lib.split s [44, 32]).length) ⟨0, 0, false, Nat.zero_le _, by simp, rfl, _, _, _, _, rfl, rfl, rfl, rfl, rfl, rfl, rfl, trivial⟩ ?_
 rintro k0 _ ⟨i, v, al, f0_0, f0_1, rfl, t0, bb0, rr0, mm0, rfl, hh0⟩
 refine W.keepR _ _ _ _ _ _ _ hh0 rfl ?_
 apply Y1
 refine Yp rfl ?_
 apply Yn
 apply Ys
 refine W.cond rfl (fun c3=>?_) fun c3=>?_
 ·skip
  have hi := row_lt c3
  have hti := hm i
  have hp := split_pos ((Lib.split s [44, 32]).getD i []) [32]
  have hml := split_le ((Lib.split s [44, 32]).getD i []) [32]
  have hfw : ((Lib.split ((Lib.split s [44, 32]).getD i []) [32]).getD 0 []).length ≤ ((Lib.split s [44, 32]).getD i []).length := split_at
  have hlw : ((Lib.split ((Lib.split s [44, 32]).getD i []) [32]).getD ((Lib.split ((Lib.split s [44, 32]).getD i []) [32]).length - 1) []).length ≤ ((Lib.split s [44, 32]).getD i []).length := split_at
  have ht1 := trim_le ((Lib.split ((Lib.split s [44, 32]).getD i []) [32]).getD 0 []) [62, 61]
  have ht2 := trim_le ((Lib.split ((Lib.split s [44, 32]).getD i []) [32]).getD ((Lib.split ((Lib.split s [44, 32]).getD i []) [32]).length - 1) []) [60]
  apply Yk
  apply Yn
  apply Ys
  apply Yb
  apply Y1
  refine YE rfl (row_ok hi) (row_at [] hi) rfl ?_
  iterate 4 first|refine Yp rfl ?_|apply Y3
  refine S.call rfl rfl rfl rfl rfl (pc_Split ((Lib.split s [44, 32]).getD i []) [32] (by omega) (by decide)) ?_
  iterate 3 first|refine Yp rfl ?_|apply Y3
  refine YE rfl (row_ok (i := 0) hp) (row_at (i := 0) [] hp) rfl ?_
  refine Yp rfl ?_
  refine S.call rfl rfl rfl rfl rfl (pc_CutPrefix ((Lib.split ((Lib.split s [44, 32]).getD i []) [32]).getD 0 []) [62, 61]) ?_
  iterate 10 first|refine Yp rfl ?_|apply Y3
  refine YE rfl (last_ok hp (by omega)) (row_last [] hp (by omega)) rfl ?_
  refine Yp rfl ?_
  refine S.call rfl rfl rfl rfl rfl (pc_CutPrefix ((Lib.split ((Lib.split s [44, 32]).getD i []) [32]).getD ((Lib.split ((Lib.split s [44, 32]).getD i []) [32]).length - 1) []) [60]) ?_
  iterate 21 first|refine S.pickAnd tOk zOk rfl rfl tg ?_|refine Yp rfl ?_|refine Yg rfl rfl tg ?_|apply Yb|refine S.alloc tOk rfl rfl rfl rfl ?_|apply Y3|apply Y1|apply Yn|apply Ys
  refine W.cond rfl (fun c4=>?_) fun c4=>?_
  ·skip
   have htok := tok_1 (t := ((Lib.split s [44, 32]).getD i [])) (by have h := c4; rw [List.length_map] at h; exact h)
   iterate 5 first|refine Yp rfl ?_|refine S.store tOk rfl rfl rfl rfl rfl rfl rfl rfl ?_|apply Y4|apply Y1
   refine S.call rfl rfl rfl rfl rfl (pc_outref2_ReadVersion (Lib.trimPrefix ((Lib.split ((Lib.split s [44, 32]).getD i []) [32]).getD 0 []) [62, 61]) (by omega)) ?_
   iterate 13 first|refine Yp rfl ?_|apply Yw|refine S.store tOk rfl rfl rfl rfl rfl rfl rfl rfl ?_|apply Y1|apply Yn|apply Ys
   refine W.cond rfl (fun c5=>?_) fun c5=>?_
   ·skip
    iterate 13 first|apply Yu|refine Yp rfl ?_|apply Yv|apply Yt|refine S.store tOk rfl rfl rfl rfl rfl rfl rfl rfl ?_|apply Y1|apply Yn
    exact ⟨_, rfl, rfl, le_rgNil ((rR_bad c1 c2 hi (by rw [tokE, htok]; exact (eq_of_beq c5))).trans (congrArg (Prod.mk []) (eq_of_beq c5).symm))⟩
   have hx : (⟨true, false, (parseB (Lib.trimPrefix ((Lib.split ((Lib.split s [44, 32]).getD i []) [32]).getD 0 []) [62, 61])).1, Ver.z⟩ : Sp) = tokS ((Lib.split s [44, 32]).getD i []) := by rw [tokS, htok]
   apply Yk
   apply Y3
   iterate 2 refine Yp rfl ?_
   refine S.slice tOk rfl rfl ?_
   refine S.call rfl rfl rfl rfl rfl (pc_first2 (firstNe (((Lib.split s [44, 32]).take i).map tokE)) (parseB (Lib.trimPrefix ((Lib.split ((Lib.split s [44, 32]).getD i []) [32]).getD 0 []) [62, 61])).2) ?_
   iterate 5 first|refine Yp rfl ?_|apply Y4
   refine S.slice tOk rfl rfl ?_
   refine S.append tOk rfl rfl rfl rfl rfl rfl rfl rfl rfl rfl rfl rfl (by show _ + 1 ≤ _; simp; omega) rfl (take_snoc3 (d := []) hx hi) rfl ?_
   iterate 6 first|refine Yp rfl ?_|apply Yw|refine S.store tOk rfl rfl rfl rfl rfl rfl rfl rfl ?_|apply Y4
   refine loop_n ((Lib.split s [44, 32]).length - (i + 1)) (by omega) ⟨i + 1, _, _, hi, any_take (d := []) hi f0_1 (by rw [tokE, htok]; exact c5), rfl, _, _, _, _, rfl, rfl, rfl, congrArg (fun x => V.one (C.d (D.int .i64 x))) (show firstB (firstNe (((Lib.split s [44, 32]).take i).map tokE)) (parseB (Lib.trimPrefix ((Lib.split ((Lib.split s [44, 32]).getD i []) [32]).getD 0 []) [62, 61])).2 = firstNe (((Lib.split s [44, 32]).take (i + 1)).map tokE) from by rw [← tok_acc hi, tokE, htok]), rfl, rfl, inc_i64 (by omega), trivial⟩
  iterate 9 first|refine S.pickAnd tOk zOk rfl rfl tg ?_|refine Yp rfl ?_|refine Yg rfl rfl tg ?_|apply Y1|apply Yn
  refine W.cond rfl (fun c6=>?_) fun c6=>?_
  ·skip
   have htok := tok_2 (t := ((Lib.split s [44, 32]).getD i [])) (by have h := c4; rw [List.length_map] at h; exact h) (by have h := c6; rw [List.length_map] at h; exact h)
   iterate 5 first|refine Yp rfl ?_|refine S.store tOk rfl rfl rfl rfl rfl rfl rfl rfl ?_|apply Y4|apply Y1
   refine S.call rfl rfl rfl rfl rfl (pc_outref2_ReadVersion (Lib.trimPrefix ((Lib.split ((Lib.split s [44, 32]).getD i []) [32]).getD ((Lib.split ((Lib.split s [44, 32]).getD i []) [32]).length - 1) []) [60]) (by omega)) ?_
   iterate 13 first|refine Yp rfl ?_|apply Yw|refine S.store tOk rfl rfl rfl rfl rfl rfl rfl rfl ?_|apply Y1|apply Yn|apply Ys
   refine W.cond rfl (fun c7=>?_) fun c7=>?_
   ·skip
    iterate 13 first|apply Yu|refine Yp rfl ?_|apply Yv|apply Yt|refine S.store tOk rfl rfl rfl rfl rfl rfl rfl rfl ?_|apply Y1|apply Yn
    exact ⟨_, rfl, rfl, le_rgNil ((rR_bad c1 c2 hi (by rw [tokE, htok]; exact (eq_of_beq c7))).trans (congrArg (Prod.mk []) (eq_of_beq c7).symm))⟩
   have hx : (⟨false, true, Ver.z, (parseB (Lib.trimPrefix ((Lib.split ((Lib.split s [44, 32]).getD i []) [32]).getD ((Lib.split ((Lib.split s [44, 32]).getD i []) [32]).length - 1) []) [60])).1⟩ : Sp) = tokS ((Lib.split s [44, 32]).getD i []) := by rw [tokS, htok]
   apply Yk
   apply Y3
   iterate 2 refine Yp rfl ?_
   refine S.slice tOk rfl rfl ?_
   refine S.call rfl rfl rfl rfl rfl (pc_first2 (firstNe (((Lib.split s [44, 32]).take i).map tokE)) (parseB (Lib.trimPrefix ((Lib.split ((Lib.split s [44, 32]).getD i []) [32]).getD ((Lib.split ((Lib.split s [44, 32]).getD i []) [32]).length - 1) []) [60])).2) ?_
   iterate 5 first|refine Yp rfl ?_|apply Y4
   refine S.slice tOk rfl rfl ?_
   refine S.append tOk rfl rfl rfl rfl rfl rfl rfl rfl rfl rfl rfl rfl (by show _ + 1 ≤ _; simp; omega) rfl (take_snoc3 (d := []) hx hi) rfl ?_
   iterate 6 first|refine Yp rfl ?_|apply Yw|refine S.store tOk rfl rfl rfl rfl rfl rfl rfl rfl ?_|apply Y4
   refine loop_n ((Lib.split s [44, 32]).length - (i + 1)) (by omega) ⟨i + 1, _, _, hi, any_take (d := []) hi f0_1 (by rw [tokE, htok]; exact c7), rfl, _, _, _, _, rfl, rfl, rfl, congrArg (fun x => V.one (C.d (D.int .i64 x))) (show firstB (firstNe (((Lib.split s [44, 32]).take i).map tokE)) (parseB (Lib.trimPrefix ((Lib.split ((Lib.split s [44, 32]).getD i []) [32]).getD ((Lib.split ((Lib.split s [44, 32]).getD i []) [32]).length - 1) []) [60])).2 = firstNe (((Lib.split s [44, 32]).take (i + 1)).map tokE) from by rw [← tok_acc hi, tokE, htok]), rfl, rfl, inc_i64 (by omega), trivial⟩
  apply Y1
  iterate 4 refine Yp rfl ?_
  apply Yn
  refine W.cond rfl (fun c8=>?_) fun c8=>?_
  ·skip
   have htok := tok_3 (t := ((Lib.split s [44, 32]).getD i [])) (by have h := c4; rw [List.length_map] at h; exact h) (by have h := c6; rw [List.length_map] at h; exact h) (by have h := c8; rw [List.length_map] at h; exact h)
   apply Yr
   refine Yp rfl ?_
   refine YE rfl (row_ok (i := 0) hp) (row_at (i := 0) [] hp) rfl ?_
   refine Yp rfl ?_
   refine S.call rfl rfl rfl rfl rfl (pc_outref2_shortSpan ((Lib.split ((Lib.split s [44, 32]).getD i []) [32]).getD 0 []) (by omega)) ?_
   iterate 12 first|refine Yp rfl ?_|apply Yw|refine S.store tOk rfl rfl rfl rfl rfl rfl rfl rfl ?_|apply Y1|apply Yn|apply Ys
   refine W.cond rfl (fun c9=>?_) fun c9=>?_
   ·skip
    iterate 13 first|apply Yu|refine Yp rfl ?_|apply Yv|apply Yt|refine S.store tOk rfl rfl rfl rfl rfl rfl rfl rfl ?_|apply Y1|apply Yn
    exact ⟨_, rfl, rfl, le_rgNil ((rR_bad c1 c2 hi (by rw [tokE, htok]; exact (eq_of_beq c9))).trans (congrArg (Prod.mk []) (eq_of_beq c9).symm))⟩
   have hx : ((shortB ((Lib.split ((Lib.split s [44, 32]).getD i []) [32]).getD 0 [])).1 : Sp) = tokS ((Lib.split s [44, 32]).getD i []) := by rw [tokS, htok]
   apply Yk
   apply Y3
   iterate 2 refine Yp rfl ?_
   refine S.slice tOk rfl rfl ?_
   refine S.call rfl rfl rfl rfl rfl (pc_first2 (firstNe (((Lib.split s [44, 32]).take i).map tokE)) (shortB ((Lib.split ((Lib.split s [44, 32]).getD i []) [32]).getD 0 [])).2) ?_
   iterate 5 first|refine Yp rfl ?_|apply Y4
   refine S.slice tOk rfl rfl ?_
   refine S.append tOk rfl rfl rfl rfl rfl rfl rfl rfl rfl rfl rfl rfl (by show _ + 1 ≤ _; simp; omega) rfl (take_snoc3 (d := []) hx hi) rfl ?_
   iterate 6 first|refine Yp rfl ?_|apply Yw|refine S.store tOk rfl rfl rfl rfl rfl rfl rfl rfl ?_|apply Y4
   refine loop_n ((Lib.split s [44, 32]).length - (i + 1)) (by omega) ⟨i + 1, _, _, hi, any_take (d := []) hi f0_1 (by rw [tokE, htok]; exact c9), rfl, _, _, _, _, rfl, rfl, rfl, congrArg (fun x => V.one (C.d (D.int .i64 x))) (show firstB (firstNe (((Lib.split s [44, 32]).take i).map tokE)) (shortB ((Lib.split ((Lib.split s [44, 32]).getD i []) [32]).getD 0 [])).2 = firstNe (((Lib.split s [44, 32]).take (i + 1)).map tokE) from by rw [← tok_acc hi, tokE, htok]), rfl, rfl, inc_i64 (by omega), trivial⟩
  iterate 12 first|refine S.pickAnd tOk zOk rfl rfl tg ?_|refine Yp rfl ?_|refine Yg rfl rfl tg ?_|apply Y1|apply Yn
  refine W.cond rfl (fun c10=>?_) fun c10=>?_
  ·skip
   have htok := tok_4 (t := ((Lib.split s [44, 32]).getD i [])) (by have h := c4; rw [List.length_map] at h; exact h) (by have h := c6; rw [List.length_map] at h; exact h) (by have h := c8; rw [List.length_map] at h; exact h) (by have h := c10; rw [List.length_map] at h; exact h)
   iterate 9 first|refine Yp rfl ?_|refine S.store tOk rfl rfl rfl rfl rfl rfl rfl rfl ?_|apply Y3|apply Y1
   refine S.call rfl rfl rfl rfl rfl (pc_outref2_ReadVersion (Lib.trimPrefix ((Lib.split ((Lib.split s [44, 32]).getD i []) [32]).getD 0 []) [62, 61]) (by omega)) ?_
   iterate 8 first|refine Yp rfl ?_|refine S.store tOk rfl rfl rfl rfl rfl rfl rfl rfl ?_|apply Y3
   refine S.call rfl rfl rfl rfl rfl (pc_outref2_ReadVersion (Lib.trimPrefix ((Lib.split ((Lib.split s [44, 32]).getD i []) [32]).getD ((Lib.split ((Lib.split s [44, 32]).getD i []) [32]).length - 1) []) [60]) (by omega)) ?_
   iterate 14 first|refine S.pickOr tOk zOk rfl rfl tg ?_|refine Yp rfl ?_|refine Yg rfl rfl tg ?_|refine S.store tOk rfl rfl rfl rfl rfl rfl rfl rfl ?_|apply Y3|apply Yn
   refine W.cond rfl (fun c11=>?_) fun c11=>?_
   ·skip
    iterate 9 first|refine Yp rfl ?_|apply Yw|apply Y1|apply Yn|apply Ys|apply Yr
    refine W.condT rfl rfl ?_
    iterate 13 first|apply Yu|refine Yp rfl ?_|apply Yv|apply Yt|refine S.store tOk rfl rfl rfl rfl rfl rfl rfl rfl ?_|apply Y1|apply Yn
    exact ⟨_, rfl, rfl, le_rgNil (rR_bad c1 c2 hi (by rw [tokE, htok]; exact if_pos c11))⟩
   apply Yr
   iterate 2 refine Yp rfl ?_
   refine S.slice tOk rfl rfl ?_
   refine S.call rfl rfl rfl rfl rfl (pc_first2 (parseB (Lib.trimPrefix ((Lib.split ((Lib.split s [44, 32]).getD i []) [32]).getD 0 []) [62, 61])).2 (parseB (Lib.trimPrefix ((Lib.split ((Lib.split s [44, 32]).getD i []) [32]).getD ((Lib.split ((Lib.split s [44, 32]).getD i []) [32]).length - 1) []) [60])).2) ?_
   iterate 8 first|refine Yp rfl ?_|apply Yw|apply Y1|apply Yn|apply Ys
   refine W.cond rfl (fun c13=>?_) fun c13=>?_
   ·skip
    iterate 13 first|apply Yu|refine Yp rfl ?_|apply Yv|apply Yt|refine S.store tOk rfl rfl rfl rfl rfl rfl rfl rfl ?_|apply Y1|apply Yn
    exact ⟨_, rfl, rfl, le_rgNil ((rR_bad c1 c2 hi (by rw [tokE, htok]; exact (if_neg (Bool.eq_false_iff.1 c11)).trans (eq_of_beq c13))).trans (congrArg (Prod.mk []) (eq_of_beq c13).symm))⟩
   have hx : (⟨true, true, (parseB (Lib.trimPrefix ((Lib.split ((Lib.split s [44, 32]).getD i []) [32]).getD 0 []) [62, 61])).1, (parseB (Lib.trimPrefix ((Lib.split ((Lib.split s [44, 32]).getD i []) [32]).getD ((Lib.split ((Lib.split s [44, 32]).getD i []) [32]).length - 1) []) [60])).1⟩ : Sp) = tokS ((Lib.split s [44, 32]).getD i []) := by rw [tokS, htok]
   apply Yk
   apply Y3
   iterate 2 refine Yp rfl ?_
   refine S.slice tOk rfl rfl ?_
   refine S.call rfl rfl rfl rfl rfl (pc_first2 (firstNe (((Lib.split s [44, 32]).take i).map tokE)) (firstB (parseB (Lib.trimPrefix ((Lib.split ((Lib.split s [44, 32]).getD i []) [32]).getD 0 []) [62, 61])).2 (parseB (Lib.trimPrefix ((Lib.split ((Lib.split s [44, 32]).getD i []) [32]).getD ((Lib.split ((Lib.split s [44, 32]).getD i []) [32]).length - 1) []) [60])).2)) ?_
   iterate 5 first|refine Yp rfl ?_|apply Y4
   refine S.slice tOk rfl rfl ?_
   refine S.append tOk rfl rfl rfl rfl rfl rfl rfl rfl rfl rfl rfl rfl (by show _ + 1 ≤ _; simp; omega) rfl (take_snoc3 (d := []) hx hi) rfl ?_
   iterate 6 first|refine Yp rfl ?_|apply Yw|refine S.store tOk rfl rfl rfl rfl rfl rfl rfl rfl ?_|apply Y4
   refine loop_n ((Lib.split s [44, 32]).length - (i + 1)) (by omega) ⟨i + 1, _, _, hi, any_take (d := []) hi f0_1 (by rw [tokE, htok]; simp only; rw [if_neg (Bool.eq_false_iff.1 c11)]; exact c13), rfl, _, _, _, _, rfl, rfl, rfl, congrArg (fun x => V.one (C.d (D.int .i64 x))) (show firstB (firstNe (((Lib.split s [44, 32]).take i).map tokE)) (firstB (parseB (Lib.trimPrefix ((Lib.split ((Lib.split s [44, 32]).getD i []) [32]).getD 0 []) [62, 61])).2 (parseB (Lib.trimPrefix ((Lib.split ((Lib.split s [44, 32]).getD i []) [32]).getD ((Lib.split ((Lib.split s [44, 32]).getD i []) [32]).length - 1) []) [60])).2) = firstNe (((Lib.split s [44, 32]).take (i + 1)).map tokE) from by rw [← tok_acc hi, tokE, htok]; simp only; rw [if_neg (Bool.eq_false_iff.1 c11)]), rfl, rfl, inc_i64 (by omega), trivial⟩
  have htok := tok_5 (t := ((Lib.split s [44, 32]).getD i [])) (by have h := c4; rw [List.length_map] at h; exact h) (by have h := c6; rw [List.length_map] at h; exact h) (by have h := c8; rw [List.length_map] at h; exact h) (by have h := c10; rw [List.length_map] at h; exact h)
  iterate 9 first|refine Yp rfl ?_|apply Yw|apply Y1|apply Yn|apply Ys|apply Yr
  refine W.condT rfl rfl ?_
  iterate 13 first|apply Yu|refine Yp rfl ?_|apply Yv|apply Yt|refine S.store tOk rfl rfl rfl rfl rfl rfl rfl rfl ?_|apply Y1|apply Yn
  exact ⟨_, rfl, rfl, le_rgNil (rR_bad c1 c2 hi (by rw [tokE, htok]))⟩
 have hi := row_ge c3
 iterate 7 first|apply Ye|apply Yx|apply Yq|apply Ys|apply Yn
 refine W.freezeB (ri := 0) (q := ⟨_, _, _, _, _⟩) 1 0 rfl rfl rfl rfl ?_
 have hall := any_end hi f0_1
 have hts2 : (Lib.split s [44, 32]).take i = (Lib.split s [44, 32]) := List.take_of_length_le hi
 rw [hts2]
 have hsp : ∀ u ∈ (Lib.split s [44, 32]).map tokS, SpLen u := fun u hu => by
  obtain ⟨x, hx, rfl⟩ := List.mem_map.1 hu
  have h1 := tok_e x
  have h2 : x.length ≤ s.length := split_mem hx
  unfold SpLen; omega
 apply Yr
 iterate 2 refine Yp rfl ?_
 refine S.call rfl rfl rfl rfl rfl (pc_outref2_RangeError ((Lib.split s [44, 32]).map tokS) (by have := c1; simp at this ⊢; omega) hsp) ?_
 refine S.slice tOk rfl rfl ?_
 refine S.call rfl rfl rfl rfl rfl (pc_first2 (firstNe ((Lib.split s [44, 32]).map tokE)) (rangeE ((Lib.split s [44, 32]).map tokS))) ?_
 iterate 5 first|refine Yp rfl ?_|apply Y3|apply Yn
 refine W.cond rfl (fun c15=>?_) fun c15=>?_
 ·skip
  iterate 8 first|refine Yp rfl ?_|apply Yu|apply Yt|refine S.store tOk rfl rfl rfl rfl rfl rfl rfl rfl ?_|apply Y1|apply Yn
  exact ⟨_, rfl, rfl, le_rgNil (rR_err c1 c2 hall c15)⟩
 iterate 7 first|refine Yp rfl ?_|apply Yt|refine S.store tOk rfl rfl rfl rfl rfl rfl rfl rfl ?_|apply Yk|apply Y3|apply Yn
 exact ⟨_, rfl, rfl, le_rg (rR_ok c1 c2 hall c15)⟩
end
section
open Go
theorem first_of {c : UInt8} {s : List UInt8} (h : c ∈ s) : ∃ x y, s = x ++ c :: y ∧ c ∉ x := by
  induction s with
  | nil => cases h
  | cons a s ih =>
    by_cases ha : a = c
    · subst ha; exact ⟨[], s, rfl, by simp⟩
    · have h' : c ∈ s := by rcases List.mem_cons.1 h with h | h; exact absurd h.symm ha; exact h
      obtain ⟨x, y, rfl, hx⟩ := ih h'
      exact ⟨a :: x, y, rfl, by simp [hx, Ne.symm ha]⟩
theorem contains_iff {c : UInt8} {s : List UInt8} : Lib.contains s [c] = decide (c ∈ s) := by
 unfold Lib.contains
 by_cases h : c ∈ s
 ·skip
  obtain ⟨x, y, rfl, hx⟩ := first_of h
  rw [index_at hx]; simp
 ·skip
  rw [index_none h]; simp [h]
theorem rowB_iff {s : List UInt8} : rowB s = decide ((32 : UInt8) ∉ s) := by rw [rowB, contains_iff]; simp
theorem parse_check {s : List UInt8} {v : Ver} (h : parseB s = (v, 0)) : v.check = 0 := by
 unfold parseB parseW at h
 split at h
 ·skip
  simp at h
 ·skip
  split at h
  ·skip
   unfold threeB at h
   split at h
   ·skip
    simp at h
   ·skip
    split at h
    ·skip
     simp at h
    ·skip
     split at h
     ·skip
      simp at h
     ·skip
      split at h
      ·skip
       rename_i hc
       simp only [Prod.mk.injEq] at h
       rw [h.2] at hc
       simp at hc
      ·skip
       rename_i hc
       simp only [Prod.mk.injEq, and_true] at h
       rw [← h]
       simpa [Ver.check] using hc
  ·skip
   simp at h
theorem check_codes (a b c : Int) (e : List UInt8) : checkB a b c e = 0 ∨ checkB a b c e = 2 ∨ checkB a b c e = 3 := by
 unfold checkB
 split
 ·skip
  simp
 ·skip
  split <;> simp
theorem nextOk_codes (x y z : Int) : (nextOk x y z).2 ≠ 8 := by
 unfold nextOk
 split <;> simp
theorem next_codes (v : Ver) (p : Int) : (nextB v p).2 ≠ 8 := by
 unfold nextB
 split
 ·skip
  have := check_codes v.a v.b v.c v.e
  simp only [Ver.check]; omega
 ·skip
  split
  ·skip
   exact nextOk_codes _ _ _
  ·skip
   split
   ·skip
    exact nextOk_codes _ _ _
   ·skip
    split
    ·skip
     exact nextOk_codes _ _ _
    ·skip
     split
     ·skip
      simp
     ·skip
      exact nextOk_codes _ _ _
theorem behind_codes (v : Ver) (g : Int) : (behindB v g).2 ≠ 8 := by
 unfold behindB
 split
 ·skip
  have := check_codes v.a v.b v.c (v.e ++ [46, 48])
  simp only; omega
 ·skip
  split
  ·skip
   exact next_codes _ _
  ·skip
   split <;> exact next_codes _ _
theorem check_a {v : Ver} (h : v.check = 0) : 0 ≤ v.a := by
 unfold Ver.check checkB at h
 split at h
 ·skip
  cases h
 ·skip
  rename_i h1
  simp [outsideN, outsideB] at h1
  omega
theorem behind_eq {v : Ver} (h : v.check = 0) (g : Int) : behindR' v g = behindB v g := by
  have ha := check_a h
  have e : decide (v.a > 0) = !(v.a == 0) := by
    by_cases h0 : v.a = 0
    · simp [h0]
    · have : v.a > 0 := by omega
      simp [h0, this]
  simp only [behindR', behindB, e]
theorem shortV_eq (k : Int) (w : List UInt8) (h42 : k ≠ 42) (h62 : k ≠ 62) (h60 : k ≠ 60) (h98 : k ≠ 98) : (shortV k w).2 = (spanB ⟨k, w, []⟩).2 ∧ ((shortV k w).2 = 0 → (shortV k w).1 = (spanB ⟨k, w, []⟩).1) ∧ ((shortV k w).2 = 8 ↔ (parseB w).2 = 8) := by
  rw [shortV_def]
  unfold spanB
  simp only [beq_iff_eq, h42, h62, h60, h98, if_false]
  by_cases hp : (parseB w).2 = 0
  · have hc := parse_check (s := w) (v := (parseB w).1) (by rw [← hp])
    simp only [hp, bne_self_eq_false, Bool.false_eq_true, if_false, behind_eq hc]
    refine ⟨?_, ?_, ?_⟩ <;> simp [behind_codes]
  · simp [hp]
theorem idx3 {c : UInt8} (h : Lib.indexByte [61, 94, 126] c ≥ 0) : c = 61 ∨ c = 94 ∨ c = 126 := by
 simp only [Lib.indexByte] at h
 by_cases h1 : (61 : UInt8) = c
 ·skip
  exact .inl h1.symm
 ·skip
  by_cases h2 : (94 : UInt8) = c
  ·skip
   exact .inr (.inl h2.symm)
  ·skip
   by_cases h3 : (126 : UInt8) = c
   ·skip
    exact .inr (.inr h3.symm)
   ·skip
    simp [h1, h2, h3] at h
theorem idx4 {c : UInt8} (h : c ≠ 60) : decide (Lib.indexByte [60, 61, 94, 126] c ≥ 0) = decide (Lib.indexByte [61, 94, 126] c ≥ 0) := by
 simp only [Lib.indexByte]
 by_cases h1 : (61 : UInt8) = c
 ·skip
  subst h1; decide
 ·skip
  by_cases h2 : (94 : UInt8) = c
  ·skip
   subst h2; decide
  ·skip
   by_cases h3 : (126 : UInt8) = c
   ·skip
    subst h3; decide
   ·skip
    simp [h1, h2, h3, Ne.symm h]
theorem byte_back (c : UInt8) : (bI c).toNat.toUInt8 = c := by simp [bI]
theorem pre2 {x : List UInt8} (h : Lib.hasPrefix x [62, 61] = true) : ∃ r, x = 62 :: 61 :: r := by
 unfold Lib.hasPrefix at h
 match x, h with
 | [], h => simp at h
 | [a], h => simp [List.isPrefixOf] at h
 | a :: b :: r, h =>
  simp [List.isPrefixOf] at h
  exact ⟨r, by rw [h.1, h.2]⟩
theorem pre1 {x : List UInt8} (h : Lib.hasPrefix x [60] = true) : ∃ r, x = 60 :: r := by
 unfold Lib.hasPrefix at h
 match x, h with
 | [], h => simp at h
 | a :: r, h =>
  simp [List.isPrefixOf] at h
  exact ⟨r, by rw [h]⟩
theorem trim2 (r : List UInt8) : Lib.trimPrefix (62 :: 61 :: r) [62, 61] = r := by simp [Lib.trimPrefix, Lib.hasPrefix, List.isPrefixOf]
theorem trim1 (r : List UInt8) : Lib.trimPrefix (60 :: r) [60] = r := by simp [Lib.trimPrefix, Lib.hasPrefix, List.isPrefixOf]
theorem has2 (r : List UInt8) : Lib.hasPrefix (62 :: 61 :: r) [62, 61] = true := by simp [Lib.hasPrefix, List.isPrefixOf]
theorem has1 (r : List UInt8) : Lib.hasPrefix (60 :: r) [60] = true := by simp [Lib.hasPrefix, List.isPrefixOf]
def Same (t : List UInt8) : Prop := badB t = (tokE t == 8) ∧ (badB t = false → (spanB (itemB t).1).2 = tokE t ∧ (tokE t = 0 → (spanB (itemB t).1).1 = tokS t))
theorem same_from {r : List UInt8} (h : (32 : UInt8) ∉ r) : Same (62 :: 61 :: r) := by
 have hw : wordsR (62 :: 61 :: r) = [62 :: 61 :: r] := split_none (by simp [h])
 have hi : itemB (62 :: 61 :: r) = (⟨62, r, []⟩, true) := by
  unfold itemB
  rw [if_neg (by simp), if_pos (has2 r), trim2, cut_none h, if_neg (by simp), rowB_iff]
  simp [h]
 have ht : tokR (62 :: 61 :: r) = (⟨true, false, (parseB r).1, Ver.z⟩, (parseB r).2) := by
  rw [tok_1 (by rw [hw]; simp [has2])]
  rw [hw]; simp [trim2]
 unfold Same badB tokE tokS
 rw [hi, ht]
 refine ⟨by simp [wrongB], fun _ => ?_⟩
 unfold spanB
 by_cases hp : (parseB r).2 = 0 <;> simp [hp]
theorem same_to {r : List UInt8} (h : (32 : UInt8) ∉ r) : Same (60 :: r) := by
 have hw : wordsR (60 :: r) = [60 :: r] := split_none (by simp [h])
 have hi : itemB (60 :: r) = (⟨60, r, []⟩, true) := by
  unfold itemB
  rw [if_neg (by simp), if_neg (by simp [Lib.hasPrefix, List.isPrefixOf]), if_pos (by simp [byte_back]; decide), rowB_iff]
  simp [h, bI]
 have ht : tokR (60 :: r) = (⟨false, true, Ver.z, (parseB r).1⟩, (parseB r).2) := by
  rw [tok_2 (by rw [hw]; simp [Lib.hasPrefix, List.isPrefixOf]) (by rw [hw]; simp [has1])]
  rw [hw]; simp [trim1]
 unfold Same badB tokE tokS
 rw [hi, ht]
 refine ⟨by simp [wrongB], fun _ => ?_⟩
 unfold spanB
 by_cases hp : (parseB r).2 = 0 <;> simp [hp]
theorem same_short {t : List UInt8} (h : (32 : UInt8) ∉ t) (h1 : Lib.hasPrefix t [62, 61] = false) (h2 : Lib.hasPrefix t [60] = false) : Same t := by
  have hw : wordsR t = [t] := split_none h
  have ht : tokR t = shortB t := by
    rw [tok_3 (by rw [hw]; simp [h1]) (by rw [hw]; simp [h2]) (by rw [hw]; simp)]
    rw [hw]; simp
  by_cases hs : t = [42]
  · subst hs
    have hi : itemB [42] = (⟨42, [], []⟩, true) := rfl
    have hq : shortB [42] = (Sp.z, 0) := rfl
    unfold Same badB tokE tokS
    rw [hi, ht, hq]
    exact ⟨by simp, fun _ => ⟨rfl, fun _ => rfl⟩⟩
  · have key : ∀ (k : Int) (w : List UInt8), itemB t = (⟨k, w, []⟩, true) → shortB t = shortV k w → k ≠ 42 → k ≠ 62 → k ≠ 60 → k ≠ 98 → Same t := fun k w hi hq k1 k2 k3 k4 => by
      obtain ⟨q1, q2, q3⟩ := shortV_eq k w k1 k2 k3 k4
      unfold Same badB tokE tokS
      rw [hi, ht, hq]
      refine ⟨?_, fun _ => ⟨q1.symm, fun h0 => (q2 h0).symm⟩⟩
      have e : ((shortV k w).2 == 8) = ((parseB w).2 == 8) := by
        rw [Bool.eq_iff_iff]; simpa using q3
      have b1 : (k == 42) = false := by simpa using k1
      have b4 : (k == 98) = false := by simpa using k4
      simp only [wrongB, e, b1, b4]; simp
    by_cases hc : (!(t == []) && decide (Lib.indexByte [61, 94, 126] (bI (t.getD 0 0)).toNat.toUInt8 ≥ 0)) = true
    · obtain ⟨a, r, rfl⟩ : ∃ a r, t = a :: r := by
        cases t with
        | nil => simp at hc
        | cons a r => exact ⟨a, r, rfl⟩
      have hc' := hc
      simp only [byte_back] at hc'
      simp at hc'
      have h60 : a ≠ 60 := fun e => by subst e; simp [has1] at h2
      refine key (bI a) r ?_ ?_ ?_ ?_ ?_ ?_
      · unfold itemB
        rw [if_neg (by simpa using hs), if_neg (by simp [h1]), if_pos, rowB_iff]
        · simp at h; simp [h]
        · simp only [byte_back]
          have := idx4 h60
          simp at this ⊢
          rw [this]; exact hc'
      · unfold shortB
        rw [if_neg (by simpa using hs), if_pos hc]; simp
      all_goals
        rcases idx3 hc' with rfl | rfl | rfl <;> decide
    · refine key 94 t ?_ ?_ (by decide) (by decide) (by decide) (by decide)
      · unfold itemB
        rw [if_neg (by simpa using hs), if_neg (by simp [h1]), if_neg, rowB_iff]
        · simp [h]
        · intro hx
          apply hc
          cases t with
          | nil => simp at hx
          | cons a r =>
            have h60 : a ≠ 60 := fun e => by subst e; simp [has1] at h2
            have := idx4 h60
            simp only [byte_back] at hx ⊢
            simp at hx this ⊢
            rw [← this]; exact hx
      · unfold shortB
        rw [if_neg (by simpa using hs), if_neg hc]
theorem same_two {x y : List UInt8} (hx : (32 : UInt8) ∉ x) : Same (x ++ 32 :: y) := by
  have hw : wordsR (x ++ 32 :: y) = x :: Lib.split y [32] := split_cons hx
  have hlen : ((wordsR (x ++ 32 :: y)).length : Int) ≠ 1 := by
    rw [hw]; have := split_pos y [32]; simp only [List.length_cons]; omega
  have e1 : ∀ b, ((((wordsR (x ++ 32 :: y)).length : Int) == 1) && b) = false := fun b => by
    rw [show (((wordsR (x ++ 32 :: y)).length : Int) == 1) = false by simpa using hlen]; rfl
  have e0 : (((wordsR (x ++ 32 :: y)).length : Int) == 1) = false := by simpa using hlen
  have f0 : (wordsR (x ++ 32 :: y)).getD 0 [] = x := by rw [hw]; rfl
  have bad8 : ∀ (it : It), itemB (x ++ 32 :: y) = (it, false) → tokR (x ++ 32 :: y) = (Sp.z, 8) → Same (x ++ 32 :: y) := fun it hi ht => by
    unfold Same badB tokE
    rw [hi, ht]; simp
  by_cases hp : Lib.hasPrefix x [62, 61] = true
  · obtain ⟨r, rfl⟩ := pre2 hp
    have hr : (32 : UInt8) ∉ r := by simp at hx; exact hx
    have hcut : Lib.cut (r ++ 32 :: y) [32] = (r, y, true) := cut_at hr
    have hi : itemB (62 :: 61 :: r ++ 32 :: y) = (⟨98, r, Lib.trimPrefix y [60]⟩, (Lib.hasPrefix y [60] && rowB r) && rowB (Lib.trimPrefix y [60])) := by
      show itemB (62 :: 61 :: (r ++ 32 :: y)) = _
      unfold itemB
      rw [if_neg (by simp), if_pos (has2 _), trim2, hcut]
      rfl
    by_cases hy : (32 : UInt8) ∈ y
    · obtain ⟨y1, y2, rfl, hy1⟩ := first_of hy
      have hl3 : ((wordsR (62 :: 61 :: r ++ 32 :: (y1 ++ 32 :: y2))).length : Int) ≠ 2 := by
        rw [hw, split_cons hy1]; have := split_pos y2 [32]; simp only [List.length_cons]; omega
      have ht : tokR (62 :: 61 :: r ++ 32 :: (y1 ++ 32 :: y2)) = (Sp.z, 8) := by
        refine tok_5 (e1 _) (e1 _) e0 ?_
        rw [show (((wordsR (62 :: 61 :: r ++ 32 :: (y1 ++ 32 :: y2))).length : Int) == 2) = false by simpa using hl3]; rfl
      refine bad8 ⟨98, r, Lib.trimPrefix (y1 ++ 32 :: y2) [60]⟩ ?_ ht
      rw [hi]
      congr 1
      by_cases hq : Lib.hasPrefix (y1 ++ 32 :: y2) [60] = true
      · obtain ⟨q, hq'⟩ := pre1 hq
        have : (32 : UInt8) ∈ q := by
          have h3 : (32 : UInt8) ∈ y1 ++ 32 :: y2 := hy
          rw [hq'] at h3; simpa using h3
        rw [hq', trim1, rowB_iff (s := q)]; simp [this]
      · simp [hq]
    · have hws : wordsR (62 :: 61 :: r ++ 32 :: y) = [62 :: 61 :: r, y] := by rw [hw, split_none hy]
      by_cases hq : Lib.hasPrefix y [60] = true
      · obtain ⟨q, rfl⟩ := pre1 hq
        have hq32 : (32 : UInt8) ∉ q := by simp at hy; exact hy
        have ht := tok_4 (t := 62 :: 61 :: r ++ 32 :: (60 :: q)) (e1 _) (e1 _) e0 (by rw [hws]; simp [has2, has1])
        rw [hws] at ht
        simp only [List.getD_cons_zero, List.length_cons, List.length_nil, Nat.zero_add, Nat.add_sub_cancel, List.getD_cons_succ, trim2, trim1] at ht
        rw [trim1, has1] at hi
        have hi' : itemB (62 :: 61 :: r ++ 32 :: (60 :: q)) = (⟨98, r, q⟩, true) := by rw [hi, rowB_iff, rowB_iff]; simp [hr, hq32]
        unfold Same badB tokE tokS
        rw [hi', ht]
        by_cases hF : (parseB r).2 = 8
        · simp [wrongB, hF]
        · by_cases hT : (parseB q).2 = 8
          · simp [wrongB, hF, hT]
          · refine ⟨?_, fun _ => ?_⟩
            · have : firstB (parseB r).2 (parseB q).2 ≠ 8 := by unfold firstB; split <;> assumption
              have f1 : ((parseB r).2 == 8) = false := by simpa using hF
              have f2 : ((parseB q).2 == 8) = false := by simpa using hT
              have f3 : (firstB (parseB r).2 (parseB q).2 == 8) = false := by simpa using this
              simp [wrongB, f1, f2, f3]
            · unfold spanB
              by_cases hF0 : (parseB r).2 = 0
              · simp [hF0, hT, firstB]
              · simp [hF0, hF, hT, firstB]
      · have ht : tokR (62 :: 61 :: r ++ 32 :: y) = (Sp.z, 8) := tok_5 (e1 _) (e1 _) e0 (by rw [hws]; simp [hq])
        exact bad8 ⟨98, r, Lib.trimPrefix y [60]⟩ (by rw [hi]; simp [hq]) ht
  · have hp : Lib.hasPrefix x [62, 61] = false := by simpa using hp
    have ht : tokR (x ++ 32 :: y) = (Sp.z, 8) := tok_5 (e1 _) (e1 _) e0 (by rw [f0, hp]; simp)
    have hpt : Lib.hasPrefix (x ++ 32 :: y) [62, 61] = false := by
      match x, hp with
      | [], _ => simp [Lib.hasPrefix, List.isPrefixOf]
      | [a], _ => simp [Lib.hasPrefix, List.isPrefixOf]
      | a :: b :: x, hp => simpa [Lib.hasPrefix, List.isPrefixOf] using hp
    have hne : (x ++ 32 :: y == [42]) = false := by
      have : x ++ 32 :: y ≠ [42] := fun e => by
        have h3 : (32 : UInt8) ∈ x ++ 32 :: y := by simp
        rw [e] at h3; simp at h3
      simpa using this
    by_cases hc : (!(x ++ 32 :: y == []) && decide (Lib.indexByte [60, 61, 94, 126] (bI ((x ++ 32 :: y).getD 0 0)).toNat.toUInt8 ≥ 0)) = true
    · refine bad8 ⟨bI ((x ++ 32 :: y).getD 0 0), (x ++ 32 :: y).drop 1, []⟩ ?_ ht
      unfold itemB
      rw [if_neg (by simp [hne]), if_neg (by simp [hpt]), if_pos hc]
      congr 1
      match x, hc with
      | [], hc => simp [byte_back, Lib.indexByte] at hc
      | a :: x, _ => rw [rowB_iff]; simp
    · refine bad8 ⟨94, x ++ 32 :: y, []⟩ ?_ ht
      unfold itemB
      rw [if_neg (by simp [hne]), if_neg (by simp [hpt]), if_neg hc, rowB_iff]
      simp
theorem same_all (t : List UInt8) : Same t := by
 by_cases h : (32 : UInt8) ∈ t
 ·skip
  obtain ⟨x, y, rfl, hx⟩ := first_of h
  exact same_two hx
 ·skip
  by_cases h1 : Lib.hasPrefix t [62, 61] = true
  ·skip
   obtain ⟨r, rfl⟩ := pre2 h1
   exact same_from (by simp at h; exact h)
  ·skip
   by_cases h2 : Lib.hasPrefix t [60] = true
   ·skip
    obtain ⟨r, rfl⟩ := pre1 h2
    exact same_to (by simp at h; exact h)
   ·skip
    exact same_short h (by simpa using h1) (by simpa using h2)
theorem firstNe_zero : ∀ {l : List Int}, firstNe l = 0 → ∀ x ∈ l, x = 0
  | [], _, x, hx => by cases hx
  | a :: l, h, x, hx => by
    by_cases ha : a = 0
    · subst ha
      have h' : firstNe l = 0 := by simpa [firstNe] using h
      rcases List.mem_cons.1 hx with rfl | hx
      · rfl
      · exact firstNe_zero h' x hx
    · unfold firstNe at h
      rw [List.find?_cons, show (a != 0) = true by simpa using ha] at h
      exact absurd h ha
theorem range_eq (s : List UInt8) : rangeB s = rangeR s := by
 unfold rangeB rangeR
 split
 ·skip
  rfl
 ·skip
  split
  ·skip
   rfl
  ·skip
   have hbad : (partsR s).any badB = (partsR s).any (fun t => tokE t == 8) := by
    congr 1; funext t; exact (same_all t).1
   rw [hbad]
   split
   ·skip
    rfl
   ·skip
    rename_i h8
    have hall : ∀ t ∈ partsR s, badB t = false := fun t ht => by
     rw [(same_all t).1]
     have := List.any_eq_false.1 (Bool.eq_false_iff.2 h8) t ht
     simpa using this
    have hcodes : ((partsR s).map fun t => (spanB (itemB t).1).2) = (partsR s).map tokE := List.map_congr_left fun t ht => ((same_all t).2 (hall t ht)).1
    rw [hcodes]
    by_cases h0 : firstNe ((partsR s).map tokE) = 0
    ·skip
     have hsp : ((partsR s).map fun t => (spanB (itemB t).1).1) = (partsR s).map tokS := List.map_congr_left fun t ht =>
      ((same_all t).2 (hall t ht)).2 (firstNe_zero h0 _ (List.mem_map_of_mem ht))
     rw [hsp, h0]
     simp [firstB]
    ·skip
     simp [h0, firstB]
end
section
open Go
theorem split_bytes {c : UInt8} : ∀ (n : Nat) (s : List UInt8), s.length ≤ n → ∀ a ∈ s, a = c ∨ ∃ w ∈ Lib.split s [c], a ∈ w
  | 0, s, h, a, ha => by
    have : s = [] := List.length_eq_zero_iff.1 (by omega)
    subst this; cases ha
  | n + 1, s, h, a, ha => by
    by_cases hc : c ∈ s
    · obtain ⟨x, y, rfl, hx⟩ := first_of hc
      rw [split_cons hx]
      rcases List.mem_append.1 ha with h1 | h1
      · exact .inr ⟨x, List.mem_cons_self .., h1⟩
      · rcases List.mem_cons.1 h1 with h1 | h1
        · exact .inl h1
        · rcases split_bytes n y (by simp at h; omega) a h1 with h2 | ⟨w, h2, h3⟩
          · exact .inl h2
          · exact .inr ⟨w, List.mem_cons_of_mem _ h2, h3⟩
    · rw [split_none hc]; exact .inr ⟨s, List.mem_cons_self .., ha⟩
end
section
open Go
theorem rangeB_len (s : List UInt8) : (rangeB s).1.length ≤ 1002 := by
 have h := parts_many s
 unfold rangeB
 split
 ·skip
  simp
 ·skip
  rename_i h0
  simp only [decide_eq_true_eq] at h0
  split
  ·skip
   simp
  ·skip
   split
   ·skip
    simp
   ·skip
    split
    ·skip
     simp
    ·skip
     split
     ·skip
      simp
     ·skip
      simp only [List.length_map]; omega
end
section
open Go
def withinB (s : Sp) (v : Ver) : Bool := (!s.hf || decide (orderB v s.f ≥ 0)) && (!s.ht || decide (orderB v s.t < 0))
def namesB (h : Bool) (e v : Ver) : Bool := (((h && !(e.e == [])) && e.a == v.a) && e.b == v.b) && e.c == v.c
def hasAt (n : Nat) (v : Ver) (s : Sp) : Bool :=
 withinB s v && (((v.e == [] || (((n : Int) == 1 && !s.hf) && !s.ht)) || namesB s.hf s.f v) || namesB s.ht s.t v)
def hasB (ss : List Sp) (v : Ver) : Bool := ss.any (hasAt ss.length v)
def insideR (s : Sp) (v : Ver) : Bool := !(s.hf && decide (compareR v s.f < 0)) && !(s.ht && decide (compareR v s.t ≥ 0))
def hasAtR (all : Bool) (v : Ver) (s : Sp) : Bool := insideR s v && (((v.e == [] || all) || namesB s.hf s.f v) || namesB s.ht s.t v)
def allR (ss : List Sp) : Bool := ((ss.length : Int) == 1 && !(ss.getD 0 Sp.z).hf) && !(ss.getD 0 Sp.z).ht
def hasR (ss : List Sp) (v : Ver) : Bool := ss.any (hasAtR (allR ss) v)
def idxOf {α : Type} (φ : α → Bool) : List α → Int
 | [] => -1
 | x :: l => if φ x then 0 else if idxOf φ l == -1 then -1 else idxOf φ l + 1
theorem idxOf_none {α : Type} {φ : α → Bool} : ∀ {l : List α}, l.any φ = false → idxOf φ l = -1
  | [], _ => rfl
  | x :: l, h => by
    simp only [List.any_cons, Bool.or_eq_false_iff] at h
    unfold idxOf
    rw [if_neg (by simp [h.1]), idxOf_none h.2]; rfl
theorem idxOf_at {α : Type} {φ : α → Bool} {d : α} : ∀ {l : List α} {i : Nat}, i < l.length → (l.take i).any φ = false → φ (l.getD i d) = true → idxOf φ l = i
  | [], i, h, _, _ => by simp at h
  | x :: l, 0, _, _, hp => by simp at hp; simp [idxOf, hp]
  | x :: l, i + 1, h, ht, hp => by
    simp only [List.take_succ_cons, List.any_cons, Bool.or_eq_false_iff] at ht
    have ih := idxOf_at (d := d) (l := l) (i := i) (by simpa using h) ht.2 (by simpa using hp)
    unfold idxOf
    rw [if_neg (by simp [ht.1]), ih, if_neg (by rw [beq_iff_eq]; omega)]; omega
theorem idxOf_ge {α : Type} {φ : α → Bool} : ∀ {l : List α}, decide (idxOf φ l ≥ 0) = l.any φ
  | [] => rfl
  | x :: l => by
    have ih := idxOf_ge (φ := φ) (l := l)
    simp only [List.any_cons]
    unfold idxOf
    cases hx : φ x with
    | true => simp
    | false =>
      rw [← ih]
      simp only [Bool.false_eq_true, if_false, Bool.false_or]
      by_cases h : idxOf φ l = -1
      · simp [h]
      · have hb : ∀ (l : List α), -1 ≤ idxOf φ l := fun l => by
          induction l with
          | nil => simp [idxOf]
          | cons y l ih => unfold idxOf; split; omega; split <;> omega
        have := hb l
        simp [h]; omega
end
section
open Go
theorem cmpInt_0 {x y : Int} (h : Lib.compareInt x y = 0) : x = y := by
 unfold Lib.compareInt at h
 split at h
 ·skip
  omega
 ·skip
  split at h
  ·skip
   omega
  ·skip
   omega
def lexL {α : Type} (c : α → α → Int) : List α → List α → Int
 | [], [] => 0
 | [], _ :: _ => -1
 | _ :: _, [] => 1
 | x :: xs, y :: ys => firstB (c x y) (lexL c xs ys)
theorem firstB_0 {a b : Int} (h : firstB a b = 0) : a = 0 ∧ b = 0 := by
 unfold firstB at h
 by_cases h0 : a = 0
 ·skip
  subst h0; exact ⟨rfl, h⟩
 ·skip
  rw [if_pos (by simpa using h0)] at h; exact absurd h h0
theorem lexL_0 {α : Type} {c : α → α → Int} (h : ∀ x y, c x y = 0 → x = y) : ∀ {xs ys : List α}, lexL c xs ys = 0 → xs = ys
  | [], [], _ => rfl
  | [], _ :: _, e => by simp [lexL] at e
  | _ :: _, [], e => by simp [lexL] at e
  | x :: xs, y :: ys, e => by
    have e := firstB_0 e
    rw [h x y e.1, lexL_0 h e.2]
theorem bytes_lex : ∀ (a b : List UInt8), Lib.compareBytes a b = lexL (fun a b => Lib.compareInt (bI a) (bI b)) a b
  | [], [] => rfl
  | [], _ :: _ => rfl
  | _ :: _, [] => rfl
  | a :: l, b :: m => by
    have ih := bytes_lex l m
    show _ = firstB (Lib.compareInt (bI a) (bI b)) _
    by_cases h1 : a < b
    · have h1' : a.toNat < b.toNat := h1
      simp only [Lib.compareBytes, h1, if_true]
      rw [cmp_lt (show bI a < bI b by unfold bI; omega)]; rfl
    · have h1' : ¬ a.toNat < b.toNat := h1
      by_cases h2 : b < a
      · have h2' : b.toNat < a.toNat := h2
        simp only [Lib.compareBytes, h1, h2, if_true, if_false]
        rw [cmp_gt (show bI b < bI a by unfold bI; omega)]; rfl
      · have h2' : ¬ b.toNat < a.toNat := h2
        simp only [Lib.compareBytes, h1, h2, if_false]
        rw [show bI a = bI b by unfold bI; omega, cmp_refl]; exact ih
theorem bI_inj {a b : UInt8} (h : bI a = bI b) : a = b := by
 unfold bI at h
 exact UInt8.toNat_inj.1 (by omega)
theorem bytes_0 {a b : List UInt8} (h : Lib.compareBytes a b = 0) : a = b := by
 rw [bytes_lex] at h
 exact lexL_0 (fun x y e => bI_inj (cmpInt_0 e)) h
theorem rows_first (xs ys : List (List UInt8)) : rowsB xs ys = firstB (firstNe (List.zipWith cwB xs ys)) (Lib.compareInt xs.length ys.length) := rfl
end
end Go.Proofs.YtfcdmcdhhikhaaaGreatDoor
namespace Go.Proofs.YtfcdmcdhhikhaaaGreatDoor
section
open Go
theorem take_getD {α : Type} {l : List α} {i : Nat} {d : α} (h : i < l.length) : l.take (i + 1) = l.take i ++ [l.getD i d] := by
 rw [List.take_succ_eq_append_getElem h, List.getD_eq_getElem?_getD, List.getElem?_eq_getElem h]; rfl
end
section
open Go
inductive CT where
 | mk (k : Int) (n v : List UInt8) (l : List CT)
mutual
def CT.d : CT → List D
  | .mk k n v l => [.int .i64 k, .str n, .str v, .vec 4 (CT.ds l)]
def CT.ds : List CT → List (List D)
  | [] => []
  | c :: l => c.d :: CT.ds l
end
theorem ds_map : ∀ (l : List CT), CT.ds l = l.map CT.d
  | [] => rfl
  | c :: l => by
    show c.d :: CT.ds l = _
    rw [ds_map l]; rfl
def CT.z : CT := .mk 0 [] [] []
def CT.k : CT → Int | .mk k _ _ _ => k
def CT.n : CT → List UInt8 | .mk _ n _ _ => n
def CT.v : CT → List UInt8 | .mk _ _ v _ => v
def CT.l : CT → List CT | .mk _ _ _ l => l
mutual
def CT.w : CT → Nat
  | .mk _ _ _ l => CT.ws l + 1
def CT.ws : List CT → Nat
  | [] => 0
  | c :: l => c.w + CT.ws l
end
theorem ws_mem : ∀ {l : List CT} {a : CT}, a ∈ l → a.w ≤ CT.ws l
  | c :: l, a, h => by
    show a.w ≤ c.w + CT.ws l
    rcases List.mem_cons.1 h with rfl | h
    · omega
    · have := ws_mem h; omega
theorem CT.sz {c a : CT} (h : a ∈ c.l) : a.w < c.w := by
 cases c with
 | mk k n v l =>
  have h2 : a.w ≤ CT.ws l := ws_mem h
  show a.w < CT.ws l + 1
  omega
theorem CT.pos (c : CT) : 0 < c.w := by cases c; show 0 < CT.ws _ + 1; omega
abbrev ctV (c : CT) : V := .agg [.d (.int .i64 c.k), .d (.str c.n), .d (.str c.v), .d (.vec 4 (CT.ds c.l))]
theorem ct_d (c : CT) : c.d = [.int .i64 c.k, .str c.n, .str c.v, .vec 4 (CT.ds c.l)] := by cases c; rfl
def partP (k : Int) (n v : List UInt8) (m : Int) : Int :=
 if decide (k < 1) || decide (k > 8) then 1
 else if (((!(decide (k ≥ 2) && decide (k ≤ 5)) && !(n == [])) || (!((decide (k ≥ 2) && decide (k ≤ 5)) && k != 4) && !(v == []))) || (!decide (k ≥ 6) && decide (m > 0))) || (k == 6 && m != 1) then 2
 else if !(decide (k ≥ 2) && decide (k ≤ 5)) then 0
 else if !(if (k == 3 || k == 4) then pathB n else nameB n) then 5
 else if !valueB v then 2
 else if k == 5 then (rangeB v).2 else 0
def CT.part (c : CT) : Int := partP c.k c.n c.v (c.l.length : Int)
def up1 (n : Int) : Int := IntKind.i64.wrap (n + 1)
def visits {S : Type} (g : CT → S → Bool × S) : List CT → S → Bool × S
 | [], s => (true, s)
 | c :: l, s => if (g c s).1 then visits g l (g c s).2 else (false, (g c s).2)
theorem visits_nil {S : Type} {g : CT → S → Bool × S} {l : List CT} {s : S} : visits g (l.take 0) s = (true, s) := rfl
theorem visits_congr {S : Type} {g g' : CT → S → Bool × S} : ∀ {l : List CT}, (∀ c ∈ l, g c = g' c) → visits g l = visits g' l
  | [], _ => rfl
  | c :: l, h => by
    funext s
    have ih := visits_congr (l := l) (fun c hc => h c (List.mem_cons_of_mem _ hc))
    unfold visits
    rw [h c List.mem_cons_self, ih]
def visitN {S : Type} (f : CT → Int → S → Bool × S) : Nat → CT → Int → S → Bool × S
 | 0, c, lv, s => (true, s)
 | fuel + 1, c, lv, s => if (f c lv s).1 then visits (fun a => visitN f fuel a (up1 lv)) c.l (f c lv s).2 else (false, (f c lv s).2)
def visit {S : Type} (f : CT → Int → S → Bool × S) (c : CT) (lv : Int) (s : S) : Bool × S := visitN f c.w c lv s
theorem visitN_fuel {S : Type} (f : CT → Int → S → Bool × S) : ∀ (n m : Nat) (c : CT) (lv : Int), c.w ≤ n → c.w ≤ m → visitN f n c lv = visitN f m c lv
  | 0, m, c, lv, h, _ => by have := c.pos; omega
  | n + 1, 0, c, lv, _, h => by have := c.pos; omega
  | n + 1, m + 1, c, lv, h, h' => by
    funext s
    show (if (f c lv s).1 then visits (fun a => visitN f n a (up1 lv)) c.l (f c lv s).2 else _) = (if (f c lv s).1 then visits (fun a => visitN f m a (up1 lv)) c.l (f c lv s).2 else _)
    rw [visits_congr (fun a ha => visitN_fuel f n m a (up1 lv) (by have := CT.sz ha; omega) (by have := CT.sz ha; omega))]
theorem visit_eq {S : Type} (f : CT → Int → S → Bool × S) (c : CT) (lv : Int) (s : S) :
  visit f c lv s = if (f c lv s).1 then visits (fun a => visit f a (up1 lv)) c.l (f c lv s).2 else (false, (f c lv s).2) := by
 unfold visit
 obtain ⟨n, hn⟩ : ∃ n, c.w = n + 1 := ⟨c.w - 1, by have := c.pos; omega⟩
 rw [hn]
 show (if (f c lv s).1 then visits (fun a => visitN f n a (up1 lv)) c.l (f c lv s).2 else _) = _
 rw [visits_congr (fun a ha => visitN_fuel f n a.w a (up1 lv) (by have := CT.sz ha; omega) (Nat.le_refl _))]
theorem visit_no {S : Type} {f : CT → Int → S → Bool × S} {c : CT} {lv : Int} {s : S} (h : (f c lv s).1 = false) : visit f c lv s = (false, (f c lv s).2) := by rw [visit_eq, h]; simp
theorem visits_snoc {S : Type} {g : CT → S → Bool × S} : ∀ {l : List CT} {a : CT} {s s' : S}, visits g l s = (true, s') → visits g (l ++ [a]) s = g a s'
  | [], a, s, s', h => by
    have h2 : s = s' := (Prod.mk.inj h).2
    subst h2
    show (if (g a s).1 then (true, (g a s).2) else (false, (g a s).2)) = g a s
    cases h : g a s with
    | mk b q => cases b <;> rfl
  | c :: l, a, s, s', h => by
    unfold visits at h
    show (if (g c s).1 then visits g (l ++ [a]) (g c s).2 else _) = _
    cases hc : (g c s).1 with
    | true => rw [hc, if_pos rfl] at h; rw [if_pos rfl]; exact visits_snoc h
    | false => rw [hc] at h; simp at h
theorem visits_stop {S : Type} {g : CT → S → Bool × S} : ∀ {l : List CT} {i : Nat} {s s' : S}, i < l.length → visits g (l.take i) s = (true, s') → (g (l.getD i CT.z) s').1 = false → visits g l s = (false, (g (l.getD i CT.z) s').2)
  | [], i, s, s', hi, _, _ => by simp at hi
  | c :: l, 0, s, s', _, h, hc => by
    have h2 : s = s' := (Prod.mk.inj h).2
    subst h2
    have hc : (g c s).1 = false := hc
    show (if (g c s).1 then _ else (false, (g c s).2)) = _
    rw [hc]; rfl
  | c :: l, i + 1, s, s', hi, h, hc => by
    have h : (if (g c s).1 then visits g (l.take i) (g c s).2 else (false, (g c s).2)) = (true, s') := h
    show (if (g c s).1 then visits g l (g c s).2 else _) = _
    cases hq : (g c s).1 with
    | true => rw [hq, if_pos rfl] at h; rw [if_pos rfl]; exact visits_stop (by simpa using hi) h hc
    | false => rw [hq] at h; simp at h
def cc1 (c : CT) (lv : Int) (s : Int × Bool) : Bool × (Int × Bool) := (decide (up1 s.1 ≤ 100), (up1 s.1, s.2 || decide (lv > 20)))
def cc2 (c : CT) (lv : Int) (s : Int) : Bool × Int := (c.part == 0, c.part)
def checkP (c : CT) : Int :=
 if decide ((visit cc1 c 0 (0, false)).2.1 > 100) then 4
 else if (visit cc2 c 0 0).2 == 0 && (visit cc1 c 0 (0, false)).2.2 then 4 else (visit cc2 c 0 0).2
theorem getD_map_ct {l : List CT} {i : Nat} (h : i < l.length) : V.one (.eptr ((l.map CT.d).getD ((i : Int)).toNat [])) = V.one (.eptr [.int .i64 (l.getD i CT.z).k, .str (l.getD i CT.z).n, .str (l.getD i CT.z).v, .vec 4 (CT.ds (l.getD i CT.z).l)]) :=
 (row_at (f := CT.d) CT.z h).trans (by rw [ct_d])
theorem take_ct {l : List CT} {i : Nat} (h : i < l.length) : l.take (i + 1) = l.take i ++ [l.getD i CT.z] := by
 rw [List.take_succ_eq_append_getElem h, List.getD_eq_getElem?_getD, List.getElem?_eq_getElem h]; rfl
theorem mem_ct {l : List CT} {i : Nat} (h : i < l.length) : l.getD i CT.z ∈ l := by
 rw [List.getD_eq_getElem?_getD, List.getElem?_eq_getElem h]; exact List.getElem_mem h
inductive CtBig : CT → Prop where
 | mk (k : Int) (n v : List UInt8) (l : List CT) (h1 : n.length < 4294967000) (h2 : v.length < 4294967000) (h3 : ∀ a ∈ l, CtBig a) (h4 : l.length < 4294967000) : CtBig (.mk k n v l)
theorem CtBig.n {c : CT} (h : CtBig c) : c.n.length < 4294967000 := by cases h; assumption
theorem CtBig.v {c : CT} (h : CtBig c) : c.v.length < 4294967000 := by cases h; assumption
theorem CtBig.ll {c : CT} (h : CtBig c) : c.l.length < 4294967000 := by cases h; assumption
theorem CtBig.l {c : CT} (h : CtBig c) : ∀ a ∈ c.l, CtBig a := by cases h; assumption
theorem visit_go {S : Type} {f : CT → Int → S → Bool × S} {c : CT} {lv : Int} {s : S} (h : (f c lv s).1 = true) : visit f c lv s = visits (fun a => visit f a (up1 lv)) c.l (f c lv s).2 := by rw [visit_eq, h]; simp
theorem visit_stop {S : Type} {f : CT → Int → S → Bool × S} {c : CT} {lv : Int} {s s' : S} {i : Nat} (h : (f c lv s).1 = true) (hi : i < c.l.length) (hv : visits (fun a => visit f a (up1 lv)) (c.l.take i) (f c lv s).2 = (true, s')) (hc : (visit f (c.l.getD i CT.z) (up1 lv) s').1 = false) :
  visit f c lv s = (false, (visit f (c.l.getD i CT.z) (up1 lv) s').2) := by rw [visit_go h]; exact visits_stop hi hv hc
theorem visit_all {S : Type} {f : CT → Int → S → Bool × S} {c : CT} {lv : Int} {s s' : S} {i : Nat} (h : (f c lv s).1 = true) (hi : c.l.length ≤ i) (hv : visits (fun a => visit f a (up1 lv)) (c.l.take i) (f c lv s).2 = (true, s')) :
  visit f c lv s = (true, s') := by rw [visit_go h, ← hv, List.take_of_length_le hi]
theorem visit_next {S : Type} {f : CT → Int → S → Bool × S} {c : CT} {lv : Int} {s s' : S} {i : Nat} (hi : i < c.l.length) (hv : visits (fun a => visit f a (up1 lv)) (c.l.take i) s = (true, s')) (hc : (visit f (c.l.getD i CT.z) (up1 lv) s').1 = true) :
  visits (fun a => visit f a (up1 lv)) (c.l.take (i + 1)) s = (true, (visit f (c.l.getD i CT.z) (up1 lv) s').2) := by
 rw [take_ct hi, visits_snoc hv]; exact Prod.ext hc rfl
theorem check_0 : checkP (.mk 1 [] [] []) = 0 := by rfl
end
section
open Go
open Go.RowKit
attribute [local irreducible] thenK blockK W
attribute [local irreducible] rangeB pathB nameB valueB visit visits
theorem part_eq {x : Int} {n v : List UInt8} {m : Int} {b : Bool} (c1 : (decide (x < 1) || decide (x > 8)) = false)
  (c2 : ((((!(decide (x ≥ 2) && decide (x ≤ 5)) && !(n == [])) || (!((decide (x ≥ 2) && decide (x ≤ 5)) && x != 4) && !(v == []))) || (!decide (x ≥ 6) && decide (m > 0))) || (x == 6 && m != 1)) = false)
  (c3 : (!(decide (x ≥ 2) && decide (x ≤ 5))) = false) (hb : (if (x == 3 || x == 4) = true then pathB n else nameB n) = b) : partP x n v m = if (!b) = true then 5 else if (!valueB v) = true then 2 else if (x == 5) = true then (rangeB v).2 else 0 := by
 unfold partP
 rw [if_neg (Bool.eq_false_iff.1 c1), if_neg (Bool.eq_false_iff.1 c2), if_neg (Bool.eq_false_iff.1 c3), hb]
theorem pc_ver_partFault (x : Int) (n v : List UInt8) (xs : List (List D)) (hn : n.length < 4294967000) (hv : v.length < 4294967000) :
  PureCall Tryz.prog J 53 [.agg [.d (.int .i64 x), .d (.str n), .d (.str v), .d (.vec 4 xs)]] (.one (.d (.int .i64 (partP x n v (xs.length : Int))))) := by
 refine PureCall.of_body tOk (fn := Tryz.f53) Tryz.func53 (by kernel_rfl) rfl (Nat.le_of_ble_eq_true rfl) (fun E => ?_)
 iterate 15 first|refine S.pickOr tOk zOk rfl rfl tg ?_|refine Yp rfl ?_|refine Yg rfl rfl tg ?_|refine S.box rfl rfl rfl rfl ?_|apply Y1|apply Yn|apply Ys
 refine W.cond rfl (fun c1=>?_) fun c1=>?_
 ·skip
  apply Y1
  refine Yp rfl ?_
  apply Yn
  apply Yt
  apply Yu
  exact Yz rfl rfl rfl (congrArg (fun x : Int => V.one (C.d (D.int .i64 x))) ((if_pos c1) : partP x n v (xs.length : Int) = _)).symm
 apply Yk
 iterate 64 first|refine S.pickOr tOk zOk rfl rfl tg ?_|refine S.pickAndG tOk zOk rfl rfl rfl tg tg ?_|refine S.pickAnd tOk zOk rfl rfl tg ?_|refine Yg rfl rfl tg ?_|refine Yp rfl ?_|apply Y3|apply Y1|apply Yn|apply Ys
 refine W.cond rfl (fun c2=>?_) fun c2=>?_
 ·skip
  apply Y1
  refine Yp rfl ?_
  apply Yn
  apply Yt
  apply Yu
  exact Yz rfl rfl rfl (congrArg (fun x : Int => V.one (C.d (D.int .i64 x))) (((if_neg (Bool.eq_false_iff.1 c1)).trans (if_pos c2)) : partP x n v (xs.length : Int) = _)).symm
 iterate 7 first|refine Yp rfl ?_|apply Yk|apply Y1|apply Yn|apply Ys
 refine W.cond rfl (fun c3=>?_) fun c3=>?_
 ·skip
  apply Y1
  refine Yp rfl ?_
  apply Yn
  apply Yt
  apply Yu
  exact Yz rfl rfl rfl (congrArg (fun x : Int => V.one (C.d (D.int .i64 x))) (((if_neg (Bool.eq_false_iff.1 c1)).trans ((if_neg (Bool.eq_false_iff.1 c2)).trans (if_pos c3))) : partP x n v (xs.length : Int) = _)).symm
 iterate 15 first|refine S.pickOr tOk zOk rfl rfl tg ?_|refine Yp rfl ?_|refine Yg rfl rfl tg ?_|apply Yk|apply Y1|apply Y3|apply Yn|apply Ys
 refine W.cond rfl (fun c4=>?_) fun c4=>?_
 ·skip
  iterate 8 first|refine Yp rfl ?_|apply Y1|apply Ys|apply Yn|apply Yr
  refine S.call rfl rfl rfl rfl rfl (pc_ver_IsPath n (by omega)) ?_
  refine Yp rfl ?_
  apply Yn
  refine W.cond rfl (fun c5=>?_) fun c5=>?_
  ·skip
   apply Y1
   refine Yp rfl ?_
   apply Yn
   apply Yt
   apply Yu
   exact Yz rfl rfl rfl (by rw [part_eq c1 c2 c3 (if_pos c4), if_pos c5] <;> rfl)
  iterate 6 first|refine Yp rfl ?_|apply Yk|apply Y1|apply Ys|apply Yn
  refine S.call rfl rfl rfl rfl rfl (pc_ver_IsValue v (by omega)) ?_
  refine Yp rfl ?_
  apply Yn
  refine W.cond rfl (fun c6=>?_) fun c6=>?_
  ·skip
   apply Y1
   refine Yp rfl ?_
   apply Yn
   apply Yt
   apply Yu
   exact Yz rfl rfl rfl (by rw [part_eq c1 c2 c3 (if_pos c4), if_neg (Bool.eq_false_iff.1 c5), if_pos c6] <;> rfl)
  iterate 8 first|refine Yp rfl ?_|apply Yk|apply Y1|apply Yn|apply Ys
  refine W.cond rfl (fun c7=>?_) fun c7=>?_
  ·skip
   apply Y1
   iterate 2 refine Yp rfl ?_
   refine S.call rfl rfl rfl rfl rfl (pc_ver_ParseRange v hv) ?_
   iterate 12 first|refine Yp rfl ?_|apply Yu|apply Yt|refine S.store tOk rfl rfl rfl rfl rfl rfl rfl rfl ?_|refine S.alloc tOk rfl rfl rfl rfl ?_|apply Y3|apply Yn
   exact Yz rfl rfl rfl (by rw [part_eq c1 c2 c3 (if_pos c4), if_neg (Bool.eq_false_iff.1 c5), if_neg (Bool.eq_false_iff.1 c6), if_pos c7] <;> rfl)
  apply Yk
  apply Y3
  refine Yp rfl ?_
  apply Yn
  apply Yt
  exact Yz rfl rfl rfl (by rw [part_eq c1 c2 c3 (if_pos c4), if_neg (Bool.eq_false_iff.1 c5), if_neg (Bool.eq_false_iff.1 c6), if_neg (Bool.eq_false_iff.1 c7)] <;> rfl)
 apply Yk
 apply Yn
 apply Ys
 apply Y1
 iterate 3 refine Yp rfl ?_
 refine S.call rfl rfl rfl rfl rfl (pc_ver_IsName n (by omega)) ?_
 refine Yp rfl ?_
 apply Yn
 refine W.cond rfl (fun c8=>?_) fun c8=>?_
 ·skip
  apply Y1
  refine Yp rfl ?_
  apply Yn
  apply Yt
  apply Yu
  exact Yz rfl rfl rfl (by rw [part_eq c1 c2 c3 (if_neg (Bool.eq_false_iff.1 c4)), if_pos c8] <;> rfl)
 apply Yk
 apply Yn
 apply Ys
 apply Y1
 iterate 2 refine Yp rfl ?_
 refine S.call rfl rfl rfl rfl rfl (pc_ver_IsValue v (by omega)) ?_
 refine Yp rfl ?_
 apply Yn
 refine W.cond rfl (fun c9=>?_) fun c9=>?_
 ·skip
  apply Y1
  refine Yp rfl ?_
  apply Yn
  apply Yt
  apply Yu
  exact Yz rfl rfl rfl (by rw [part_eq c1 c2 c3 (if_neg (Bool.eq_false_iff.1 c4)), if_neg (Bool.eq_false_iff.1 c8), if_pos c9] <;> rfl)
 iterate 8 first|refine Yp rfl ?_|apply Yk|apply Y1|apply Yn|apply Ys
 refine W.cond rfl (fun c10=>?_) fun c10=>?_
 ·skip
  apply Y1
  iterate 2 refine Yp rfl ?_
  refine S.call rfl rfl rfl rfl rfl (pc_ver_ParseRange v hv) ?_
  iterate 12 first|refine Yp rfl ?_|apply Yu|apply Yt|refine S.store tOk rfl rfl rfl rfl rfl rfl rfl rfl ?_|refine S.alloc tOk rfl rfl rfl rfl ?_|apply Y3|apply Yn
  exact Yz rfl rfl rfl (by rw [part_eq c1 c2 c3 (if_neg (Bool.eq_false_iff.1 c4)), if_neg (Bool.eq_false_iff.1 c8), if_neg (Bool.eq_false_iff.1 c9), if_pos c10] <;> rfl)
 apply Yk
 apply Y3
 refine Yp rfl ?_
 apply Yn
 apply Yt
 exact Yz rfl rfl rfl (by rw [part_eq c1 c2 c3 (if_neg (Bool.eq_false_iff.1 c4)), if_neg (Bool.eq_false_iff.1 c8), if_neg (Bool.eq_false_iff.1 c9), if_neg (Bool.eq_false_iff.1 c10)] <;> rfl)
theorem pc_cc1 (x : Int) (n v : List UInt8) (xs : List (List D)) (lv p : Int) (d : Bool) :
  HCall Tryz.prog J 51 ([.agg [.d (.int .i64 x), .d (.str n), .d (.str v), .d (.vec 4 xs)], .one (.d (.int .i64 lv)), .one (.ptr 0 0), .one (.ptr 1 0)]) ([[.d (.int .i64 p)], [.d (.bool d)]]) ([]) ([]) (isH (.one (.d (.bool (decide (up1 p ≤ 100))))) ([[.d (.int .i64 (up1 p))], [.d (.bool (d || decide (lv > 20)))]]) ([]) ([])) := by
 refine HCall.ofD tOk ⟨2, 0, 0⟩ (fn := Tryz.f51) Tryz.func51 (by kernel_rfl) rfl (Nat.le_of_ble_eq_true rfl) (fun E => ?_)
 iterate 20 first|refine S.pickOr tOk zOk rfl rfl tg ?_|refine Yp rfl ?_|refine S.store tOk rfl rfl rfl rfl rfl rfl rfl rfl ?_|refine Yg rfl rfl tg ?_|apply Yt|refine S.box rfl rfl rfl rfl ?_|apply Y3|apply Y1|apply Yn
 exact ⟨_, rfl, rfl, LeG.refl _, rfl, rfl, rfl⟩
theorem pc_cc2 (x : Int) (n v : List UInt8) (xs : List (List D)) (hn : n.length < 4294967000) (hv : v.length < 4294967000) (lv e : Int) :
  HCall Tryz.prog J 52 ([.agg [.d (.int .i64 x), .d (.str n), .d (.str v), .d (.vec 4 xs)], .one (.d (.int .i64 lv)), .one (.ptr 0 0)]) ([[.d (.int .i64 e)]]) ([]) ([]) (isH (.one (.d (.bool (partP x n v (xs.length : Int) == 0)))) ([[.d (.int .i64 (partP x n v (xs.length : Int)))]]) ([]) ([])) := by
 refine HCall.ofD tOk ⟨1, 0, 0⟩ (fn := Tryz.f52) Tryz.func52 (by kernel_rfl) rfl (Nat.le_of_ble_eq_true rfl) (fun E => ?_)
 iterate 5 first|refine Yp rfl ?_|refine S.box rfl rfl rfl rfl ?_|apply Y3|apply Y1
 refine S.call rfl rfl rfl rfl rfl (pc_ver_partFault x n v xs hn hv) ?_
 refine S.store tOk rfl rfl rfl rfl rfl rfl rfl rfl ?_
 apply Y3
 iterate 3 refine Yp rfl ?_
 apply Yn
 apply Yt
 exact ⟨_, rfl, rfl, LeG.refl _, rfl, rfl, rfl⟩
theorem pc_walk1s (c : CT) (lv : Int) (p : Int) (d : Bool) (hc : CtBig c) (ih : ∀ a ∈ c.l, ∀ (lv  : Int) (p : Int) (d : Bool), CtBig a → HCall Tryz.prog J 41 [ctV a, .one (.d (.int .i64 lv)), .one (.clo 51 [.ptr 0 0, .ptr 1 0])] [[.d (.int .i64 p)], [.d (.bool d)]] [] [] (isH (.one (.d (.bool (visit cc1 a lv (p, d)).1))) [[.d (.int .i64 (visit cc1 a lv (p, d)).2.1)], [.d (.bool (visit cc1 a lv (p, d)).2.2)]] [] [])) :
  HCall Tryz.prog J 41 ([ctV c, .one (.d (.int .i64 lv)), .one (.clo 51 [.ptr 0 0, .ptr 1 0])]) ([[.d (.int .i64 p)], [.d (.bool d)]]) ([]) ([]) (isH (.one (.d (.bool (visit cc1 c lv (p, d)).1))) ([[.d (.int .i64 (visit cc1 c lv (p, d)).2.1)], [.d (.bool (visit cc1 c lv (p, d)).2.2)]]) ([]) ([])) := by
 unfold ctV
 rw [ds_map]
 have hlen : ((c.l.map CT.d).length : Int) = (c.l.length : Int) := by rw [List.length_map]
 refine HCall.ofD tOk ⟨2, 0, 0⟩ (fn := Tryz.f41) Tryz.func41 (by kernel_rfl) rfl (Nat.le_of_ble_eq_true rfl) (fun E => ?_)
 iterate 9 first|refine Yp rfl ?_|refine S.box rfl rfl rfl rfl ?_|apply Y1|apply Ys|apply Yn
 refine S.hcallD rfl rfl rfl rfl ((pc_cc1 c.k c.n c.v _ lv p d).fd [0, 1] [] [] rfl) ?_
 refine Yp rfl ?_
 apply Yn
 refine W.cond rfl (fun c1=>?_) fun c1=>?_
 ·skip
  have hf : (cc1 c lv (p, d)).1 = false := by simpa [cc1, CT.part, hlen] using c1
  have hv := visit_no hf
  apply Y1
  refine Yp rfl ?_
  apply Yn
  apply Yt
  apply Yu
  exact ⟨_, rfl, rfl, (by rw [hv]; exact LeG.refl _), (by rw [hv]; rfl), rfl, rfl⟩
 have hf : (cc1 c lv (p, d)).1 = true := by simpa [cc1, CT.part, hlen] using c1
 have hbig := hc.ll
 iterate 9 first|refine Yp rfl ?_|apply Yk|apply Y1|apply Yn|apply Ys
 apply Yb
 refine W.loop (fun k st => ∃ i : Nat, ∃ p1 : Int, ∃ d1 : Bool, i ≤ c.l.length ∧ visits (fun a => visit cc1 a (up1 lv)) (c.l.take i) (cc1 c lv (p, d)).2 = (true, (p1, d1)) ∧ k = c.l.length - i ∧ ∃ t b2 r2 m2, st = ⟨t, [[.d (.int .i64 p1)], [.d (.bool d1)], [.d (.int .i64 c.k), .d (.str c.n), .d (.str c.v), .d (.vec 4 (c.l.map CT.d))]] ++ b2, [] ++ r2, [] ++ m2⟩ ∧ holdsL t [(1, .one (.d (.int .i64 lv))), (2, .one (.clo 51 [.ptr 0 0, .ptr 1 0])), (15, .one (.d (.vec 4 (c.l.map CT.d)))), (16, .one (.d (.int .i64 ((c.l.map CT.d).length : Int)))), (17, .one (.d (.int .i64 (i : Int))))]) (c.l.length) ⟨0, _, _, Nat.zero_le _, visits_nil, rfl, _, _, _, _, rfl, rfl, rfl, rfl, rfl, rfl, trivial⟩ ?_
 rintro k0 _ ⟨i, p1, d1, f0_0, f0_1, rfl, t0, bb0, rr0, mm0, rfl, hh0⟩
 refine W.keepR _ _ _ _ _ _ _ hh0 rfl ?_
 apply Y1
 refine Yp rfl ?_
 apply Yn
 apply Ys
 refine W.cond rfl (fun c2=>?_) fun c2=>?_
 ·skip
  have hi := row_lt c2
  apply Yk
  apply Yn
  apply Ys
  apply Yb
  apply Y1
  refine YE rfl (row_ok hi) (getD_map_ct hi) rfl ?_
  iterate 8 first|refine Yp rfl ?_|refine S.store tOk rfl rfl rfl rfl rfl rfl rfl rfl ?_|refine S.alloc tOk rfl rfl rfl rfl ?_|apply Y3
  refine S.hcallD rfl rfl rfl rfl ((ih (c.l.getD i CT.z) (mem_ct hi) (up1 lv) p1 d1 (hc.l _ (mem_ct hi))).fd [0, 1] [] [] rfl) ?_
  refine Yp rfl ?_
  apply Yn
  refine W.cond rfl (fun c3=>?_) fun c3=>?_
  ·skip
   have hv := visit_stop hf hi f0_1 (by simpa using c3)
   iterate 9 first|apply Yu|apply Yv|apply Yt|refine Yp rfl ?_|apply Y1|apply Yn
   exact ⟨_, rfl, rfl, (by rw [hv]; exact LeG.refl _), (by rw [hv]; rfl), rfl, rfl⟩
  apply Yk
  apply Yw
  apply Y4
  iterate 2 refine Yp rfl ?_
  refine loop_n (c.l.length - (i + 1)) (by omega) ⟨i + 1, _, _, hi, visit_next hi f0_1 (by simpa using c3), rfl, _, _, _, _, rfl, rfl, rfl, rfl, rfl, inc_i64 (by omega), trivial⟩
 have hi := row_ge c2
 have hv := visit_all hf hi f0_1
 apply Yq
 apply Ye
 apply Ye
 apply Yx
 apply Y3
 refine Yp rfl ?_
 apply Yn
 apply Yt
 exact ⟨_, rfl, rfl, (by rw [hv]; exact LeG.refl _), (by rw [hv]; rfl), rfl, rfl⟩
theorem pc_walk1 : ∀ (n : Nat) (c : CT), c.w ≤ n → ∀ (lv : Int) (p : Int) (d : Bool), CtBig c → HCall Tryz.prog J 41 [ctV c, .one (.d (.int .i64 lv)), .one (.clo 51 [.ptr 0 0, .ptr 1 0])] [[.d (.int .i64 p)], [.d (.bool d)]] [] [] (isH (.one (.d (.bool (visit cc1 c lv (p, d)).1))) [[.d (.int .i64 (visit cc1 c lv (p, d)).2.1)], [.d (.bool (visit cc1 c lv (p, d)).2.2)]] [] [])
 | 0, c, h => by have := c.pos; omega
 | n + 1, c, h => fun lv p d hc => pc_walk1s c lv p d hc (fun a ha => pc_walk1 n a (by have := CT.sz ha; omega))
theorem pc_walk2s (c : CT) (lv : Int) (e : Int) (hc : CtBig c) (ih : ∀ a ∈ c.l, ∀ (lv  : Int) (e : Int), CtBig a → HCall Tryz.prog J 41 [ctV a, .one (.d (.int .i64 lv)), .one (.clo 52 [.ptr 0 0])] [[.d (.int .i64 e)]] [] [] (isH (.one (.d (.bool (visit cc2 a lv e).1))) [[.d (.int .i64 (visit cc2 a lv e).2)]] [] [])) :
  HCall Tryz.prog J 41 ([ctV c, .one (.d (.int .i64 lv)), .one (.clo 52 [.ptr 0 0])]) ([[.d (.int .i64 e)]]) ([]) ([]) (isH (.one (.d (.bool (visit cc2 c lv e).1))) ([[.d (.int .i64 (visit cc2 c lv e).2)]]) ([]) ([])) := by
 unfold ctV
 rw [ds_map]
 have hlen : ((c.l.map CT.d).length : Int) = (c.l.length : Int) := by rw [List.length_map]
 have hcl2 := pc_cc2 c.k c.n c.v (c.l.map CT.d) hc.n hc.v lv e
 rw [hlen] at hcl2
 refine HCall.ofD tOk ⟨1, 0, 0⟩ (fn := Tryz.f41) Tryz.func41 (by kernel_rfl) rfl (Nat.le_of_ble_eq_true rfl) (fun E => ?_)
 iterate 9 first|refine Yp rfl ?_|refine S.box rfl rfl rfl rfl ?_|apply Y1|apply Ys|apply Yn
 refine S.hcallD rfl rfl rfl rfl (hcl2.fd [0] [] [] rfl) ?_
 refine Yp rfl ?_
 apply Yn
 refine W.cond rfl (fun c1=>?_) fun c1=>?_
 ·skip
  have hf : (cc2 c lv e).1 = false := by simpa [cc2, CT.part, hlen] using c1
  have hv := visit_no hf
  apply Y1
  refine Yp rfl ?_
  apply Yn
  apply Yt
  apply Yu
  exact ⟨_, rfl, rfl, (by rw [hv]; exact LeG.refl _), (by rw [hv]; rfl), rfl, rfl⟩
 have hf : (cc2 c lv e).1 = true := by simpa [cc2, CT.part, hlen] using c1
 have hbig := hc.ll
 iterate 9 first|refine Yp rfl ?_|apply Yk|apply Y1|apply Yn|apply Ys
 apply Yb
 refine W.loop (fun k st => ∃ i : Nat, ∃ e1 : Int, i ≤ c.l.length ∧ visits (fun a => visit cc2 a (up1 lv)) (c.l.take i) (cc2 c lv e).2 = (true, e1) ∧ k = c.l.length - i ∧ ∃ t b2 r2 m2, st = ⟨t, [[.d (.int .i64 e1)], [.d (.int .i64 c.k), .d (.str c.n), .d (.str c.v), .d (.vec 4 (c.l.map CT.d))]] ++ b2, [] ++ r2, [] ++ m2⟩ ∧ holdsL t [(1, .one (.d (.int .i64 lv))), (2, .one (.clo 52 [.ptr 0 0])), (15, .one (.d (.vec 4 (c.l.map CT.d)))), (16, .one (.d (.int .i64 ((c.l.map CT.d).length : Int)))), (17, .one (.d (.int .i64 (i : Int))))]) (c.l.length) ⟨0, _, Nat.zero_le _, visits_nil, rfl, _, _, _, _, rfl, rfl, rfl, rfl, rfl, rfl, trivial⟩ ?_
 rintro k0 _ ⟨i, e1, f0_0, f0_1, rfl, t0, bb0, rr0, mm0, rfl, hh0⟩
 refine W.keepR _ _ _ _ _ _ _ hh0 rfl ?_
 apply Y1
 refine Yp rfl ?_
 apply Yn
 apply Ys
 refine W.cond rfl (fun c2=>?_) fun c2=>?_
 ·skip
  have hi := row_lt c2
  apply Yk
  apply Yn
  apply Ys
  apply Yb
  apply Y1
  refine YE rfl (row_ok hi) (getD_map_ct hi) rfl ?_
  iterate 8 first|refine Yp rfl ?_|refine S.store tOk rfl rfl rfl rfl rfl rfl rfl rfl ?_|refine S.alloc tOk rfl rfl rfl rfl ?_|apply Y3
  refine S.hcallD rfl rfl rfl rfl ((ih (c.l.getD i CT.z) (mem_ct hi) (up1 lv) e1 (hc.l _ (mem_ct hi))).fd [0] [] [] rfl) ?_
  refine Yp rfl ?_
  apply Yn
  refine W.cond rfl (fun c3=>?_) fun c3=>?_
  ·skip
   have hv := visit_stop hf hi f0_1 (by simpa using c3)
   iterate 9 first|apply Yu|apply Yv|apply Yt|refine Yp rfl ?_|apply Y1|apply Yn
   exact ⟨_, rfl, rfl, (by rw [hv]; exact LeG.refl _), (by rw [hv]; rfl), rfl, rfl⟩
  apply Yk
  apply Yw
  apply Y4
  iterate 2 refine Yp rfl ?_
  refine loop_n (c.l.length - (i + 1)) (by omega) ⟨i + 1, _, hi, visit_next hi f0_1 (by simpa using c3), rfl, _, _, _, _, rfl, rfl, rfl, rfl, rfl, inc_i64 (by omega), trivial⟩
 have hi := row_ge c2
 have hv := visit_all hf hi f0_1
 apply Yq
 apply Ye
 apply Ye
 apply Yx
 apply Y3
 refine Yp rfl ?_
 apply Yn
 apply Yt
 exact ⟨_, rfl, rfl, (by rw [hv]; exact LeG.refl _), (by rw [hv]; rfl), rfl, rfl⟩
theorem pc_walk2 : ∀ (n : Nat) (c : CT), c.w ≤ n → ∀ (lv : Int) (e : Int), CtBig c → HCall Tryz.prog J 41 [ctV c, .one (.d (.int .i64 lv)), .one (.clo 52 [.ptr 0 0])] [[.d (.int .i64 e)]] [] [] (isH (.one (.d (.bool (visit cc2 c lv e).1))) [[.d (.int .i64 (visit cc2 c lv e).2)]] [] [])
 | 0, c, h => by have := c.pos; omega
 | n + 1, c, h => fun lv e hc => pc_walk2s c lv e hc (fun a ha => pc_walk2 n a (by have := CT.sz ha; omega))
theorem pc_ver_CheckCond (c : CT) (hc : CtBig c) :
  PureCall Tryz.prog J 14 [ctV c] (.one (.d (.int .i64 (checkP c)))) := by
 refine PureCall.of_body tOk (fn := Tryz.f14) Tryz.func14 (by kernel_rfl) rfl (Nat.le_of_ble_eq_true rfl) (fun E => ?_)
 apply Y1
 iterate 9 first|refine Yp rfl ?_|refine S.store tOk rfl rfl rfl rfl rfl rfl rfl rfl ?_|refine S.alloc tOk rfl rfl rfl rfl ?_|refine S.box rfl rfl rfl rfl ?_|apply Y3
 refine S.makeFunc rfl rfl rfl ?_
 refine S.hcallD rfl rfl rfl rfl ((pc_walk1 c.w c (Nat.le_refl _) 0 0 false hc).fd [1, 2] [] [] rfl) ?_
 iterate 6 first|refine Yp rfl ?_|apply Y1|apply Yn|apply Ys
 refine W.cond rfl (fun c1=>?_) fun c1=>?_
 ·skip
  apply Y1
  refine Yp rfl ?_
  apply Yn
  apply Yt
  apply Yu
  exact Yz rfl rfl rfl (by (try simp only [List.toList_toArray, Int.toNat_zero] at c1); simp only [checkP, c1, Bool.false_eq_true, if_false, if_true, reduceIte] <;> rfl)
 apply Yk
 apply Y3
 refine S.alloc tOk rfl rfl rfl rfl ?_
 refine S.store tOk rfl rfl rfl rfl rfl rfl rfl rfl ?_
 apply Y3
 refine Yp rfl ?_
 refine S.makeFunc rfl rfl rfl ?_
 refine S.hcallD rfl rfl rfl rfl ((pc_walk2 c.w c (Nat.le_refl _) 0 0 hc).fd [3] [] [] rfl) ?_
 iterate 9 first|refine S.pickAnd tOk zOk rfl rfl tg ?_|refine Yp rfl ?_|refine Yg rfl rfl tg ?_|apply Y1|apply Yn|apply Ys
 refine W.cond rfl (fun c2=>?_) fun c2=>?_
 ·skip
  apply Y1
  refine Yp rfl ?_
  apply Yn
  apply Yt
  apply Yu
  exact Yz rfl rfl rfl (by (try simp only [List.toList_toArray, Int.toNat_zero] at c1 c2); simp only [checkP, c1, c2, Bool.false_eq_true, if_false, if_true, reduceIte] <;> rfl)
 apply Yk
 apply Y3
 iterate 2 refine Yp rfl ?_
 apply Yn
 apply Yt
 exact Yz rfl rfl rfl (by (try simp only [List.toList_toArray, Int.toNat_zero] at c1 c2); simp only [checkP, c1, c2, Bool.false_eq_true, if_false, if_true, reduceIte] <;> rfl)
end
section
open Go
structure Stg where
 k : List UInt8
 v : List UInt8
def Stg.z : Stg := ⟨[], []⟩
def stgD (s : Stg) : List D := [.str s.k, .str s.v]
def leS (a b : List UInt8) : Bool := Op.bytesLess a b || a == b
def stgAt (names : List UInt8 → Bool) (l : List Stg) (i : Nat) : Int :=
 if !names (l.getD i Stg.z).k then 5 else if !valueB (l.getD i Stg.z).v then 2 else if decide ((i : Int) > 0) && leS (l.getD i Stg.z).k (l.getD (i - 1) Stg.z).k then 7 else 0
def listE (names : List UInt8 → Bool) (l : List Stg) : Int := firstNe ((List.range l.length).map (stgAt names l))
theorem range_take {l : List Stg} {f : Nat → Int} {i : Nat} (hi : i < l.length) (h : (((List.range l.length).map f).take i).all (· == 0) = true) (c : f i = 0) : (((List.range l.length).map f).take (i + 1)).all (· == 0) = true :=
 all_take_succ (d := 0) (by simpa using hi) h (by simp [List.getD_eq_getElem?_getD, hi, c])
theorem listE_hit {names : List UInt8 → Bool} {l : List Stg} {i : Nat} {e : Int} (hi : i < l.length) (h : (((List.range l.length).map (stgAt names l)).take i).all (· == 0) = true) (c : stgAt names l i = e) (he : e ≠ 0) : listE names l = e := by
 have hg : ((List.range l.length).map (stgAt names l)).getD i 0 = e := by simp [List.getD_eq_getElem?_getD, hi, c]
 unfold listE
 rw [firstNe_hit (by simpa using hi) h (by rw [hg]; exact he), hg]
theorem listE_none {names : List UInt8 → Bool} {l : List Stg} {i : Nat} (hi : l.length ≤ i) (h : (((List.range l.length).map (stgAt names l)).take i).all (· == 0) = true) : listE names l = 0 := firstNe_none (by simpa using hi) h
abbrev Tab := List (List UInt8 × List UInt8)
def beqS (a b : List UInt8) : Bool := a == b
def tabTo (l : List Stg) : Nat → Tab
 | 0 => []
 | i + 1 => setL beqS (tabTo l i) (l.getD i Stg.z).k (l.getD i Stg.z).v
def tabOf (l : List Stg) : Tab := tabTo l l.length
def tabD (t : Tab) : List (DV × DV) := mapOf D.str (fun v : List UInt8 => DV.one (.str v)) t
theorem keyS : KeyOk .string D.str (fun s : List UInt8 => Value.string ⟨s.toArray⟩) beqS := keyStr
end
section
open Go
open Go.RowKit
attribute [local irreducible] thenK blockK W
attribute [local irreducible] rangeB pathB nameB valueB visit visits checkP
theorem stg_at {l : List Stg} {i : Nat} (hi : i < l.length) : l.getD i Stg.z ∈ l := by
 rw [List.getD_eq_getElem?_getD, List.getElem?_eq_getElem hi]; exact List.getElem_mem hi
theorem stg_5 {φ : List UInt8 → Bool} {l : List Stg} {i : Nat} (h : (!φ (l.getD i Stg.z).k) = true) : stgAt φ l i = 5 := if_pos h
theorem stg_2 {φ : List UInt8 → Bool} {l : List Stg} {i : Nat} (h : (!φ (l.getD i Stg.z).k) = false) (h2 : (!valueB (l.getD i Stg.z).v) = true) : stgAt φ l i = 2 := by
 unfold stgAt; rw [if_neg (by rw [h]; simp), if_pos h2]
theorem stg_7 {φ : List UInt8 → Bool} {l : List Stg} {i : Nat} (h : (!φ (l.getD i Stg.z).k) = false) (h2 : (!valueB (l.getD i Stg.z).v) = false) (h3 : (decide ((i : Int) > 0) && leS (l.getD i Stg.z).k (l.getD (i - 1) Stg.z).k) = true) : stgAt φ l i = 7 := by
 unfold stgAt; rw [if_neg (by rw [h]; simp), if_neg (by rw [h2]; simp), if_pos h3]
theorem stg_0 {φ : List UInt8 → Bool} {l : List Stg} {i : Nat} (h : (!φ (l.getD i Stg.z).k) = false) (h2 : (!valueB (l.getD i Stg.z).v) = false) (h3 : (decide ((i : Int) > 0) && leS (l.getD i Stg.z).k (l.getD (i - 1) Stg.z).k) = false) : stgAt φ l i = 0 := by
 unfold stgAt; rw [if_neg (by rw [h]; simp), if_neg (by rw [h2]; simp), if_neg (by rw [h3]; simp)]
theorem pc_sF (φ : List UInt8 → Bool) (f : Nat) (hf : ∀ s : List UInt8, s.length < 4294967000 → PureCall Tryz.prog J f [.one (.d (.str s))] (.one (.d (.bool (φ s))))) (l : List Stg) (hn : l.length ≤ 4294967000) (hs : ∀ s ∈ l, s.k.length < 4294967000 ∧ s.v.length < 4294967000) :
  PureCall Tryz.prog J 45 [.one (.d (.vec 2 (l.map stgD))), .one (.d (.fn f))] (.one (.d (.int .i64 (listE φ l)))) := by
 refine PureCall.of_body tOk (fn := Tryz.f45) Tryz.func45 (by kernel_rfl) rfl (Nat.le_of_ble_eq_true rfl) (fun E => ?_)
 iterate 9 first|refine Yp rfl ?_|apply Y1|apply Yn|apply Ys
 apply Yb
 refine W.loop (fun k st => ∃ i : Nat, i ≤ l.length ∧ (((List.range l.length).map (stgAt φ l)).take i).all (· == 0) = true ∧ k = l.length - i ∧ ∃ t b2 r2 m2, st = ⟨t, [] ++ b2, [] ++ r2, [] ++ m2⟩ ∧ holdsL t [(0, .one (.d (.vec 2 (l.map stgD)))), (1, .one (.d (.fn f))), (7, .one (.d (.vec 2 (l.map stgD)))), (8, .one (.d (.int .i64 ((l.map stgD).length : Int)))), (9, .one (.d (.int .i64 (i : Int))))]) (l.length) ⟨0, Nat.zero_le _, by simp, rfl, _, _, _, _, rfl, rfl, rfl, rfl, rfl, rfl, trivial⟩ ?_
 rintro k0 _ ⟨i, f0_0, f0_1, rfl, t0, bb0, rr0, mm0, rfl, hh0⟩
 refine W.keepR _ _ _ _ _ _ _ hh0 rfl ?_
 apply Y1
 refine Yp rfl ?_
 apply Yn
 apply Ys
 refine W.cond rfl (fun c1=>?_) fun c1=>?_
 ·skip
  have hi := row_lt c1
  have hx := hs _ (stg_at hi)
  apply Yk
  apply Yn
  apply Ys
  apply Yb
  apply Y1
  refine Yp rfl ?_
  refine YE rfl (row_ok hi) (row_at Stg.z hi) rfl ?_
  iterate 10 first|refine Yp rfl ?_|apply Yb|refine S.store tOk rfl rfl rfl rfl rfl rfl rfl rfl ?_|refine S.alloc tOk rfl rfl rfl rfl ?_|apply Y1|apply Yn
  refine S.call rfl rfl rfl rfl rfl (hf (l.getD i Stg.z).k hx.1) ?_
  iterate 2 refine Yp rfl ?_
  apply Yn
  refine W.cond rfl (fun c2=>?_) fun c2=>?_
  ·skip
   iterate 10 first|apply Yu|apply Yv|apply Yt|refine Yp rfl ?_|apply Y1|apply Yn
   exact ⟨_, rfl, rfl, LeV.of_eq (congrArg (fun x => V.one (C.d (D.int .i64 x))) (listE_hit hi f0_1 (stg_5 c2) (by decide)).symm)⟩
  apply Y1
  iterate 2 refine Yp rfl ?_
  refine S.call rfl rfl rfl rfl rfl (pc_ver_IsValue (l.getD i Stg.z).v (by omega)) ?_
  iterate 2 refine Yp rfl ?_
  apply Yn
  refine W.cond rfl (fun c3=>?_) fun c3=>?_
  ·skip
   iterate 10 first|apply Yu|apply Yv|apply Yt|refine Yp rfl ?_|apply Y1|apply Yn
   exact ⟨_, rfl, rfl, LeV.of_eq (congrArg (fun x => V.one (C.d (D.int .i64 x))) (listE_hit hi f0_1 (stg_2 c2 c3) (by decide)).symm)⟩
  apply Ys
  refine W.regionD mixed (by kernel_rfl) ?_
  iterate 8 first|refine Yy rfl rfl rfl tg ?_|refine Ym rfl rfl ?_
  refine D.pureEG tOk zOk rfl rfl rfl tg (fun h => pred_ok h hi (by omega)) (row_pred Stg.z hi (by omega)) rfl ?_
  iterate 3 refine Yy rfl rfl rfl tg ?_
  refine D.pickAnd tOk zOk rfl rfl tg ?_
  refine Ym rfl rfl ?_
  apply Yn
  refine W.cond rfl (fun c4=>?_) fun c4=>?_
  ·skip
   iterate 10 first|apply Yu|apply Yv|apply Yt|refine Yp rfl ?_|apply Y1|apply Yn
   exact ⟨_, rfl, rfl, LeV.of_eq (congrArg (fun x => V.one (C.d (D.int .i64 x))) (listE_hit hi f0_1 (stg_7 c2 c3 c4) (by decide)).symm)⟩
  iterate 6 first|refine Yp rfl ?_|apply Yw|apply Yk|apply Y4
  refine loop_n (l.length - (i + 1)) (by omega) ⟨i + 1, hi, range_take hi f0_1 (stg_0 c2 c3 c4), rfl, _, _, _, _, rfl, rfl, rfl, rfl, rfl, inc_i64 (by omega), trivial⟩
 have hi := row_ge c1
 apply Yq
 apply Ye
 apply Ye
 apply Yx
 apply Y3
 refine Yp rfl ?_
 apply Yn
 apply Yt
 exact ⟨_, rfl, rfl, LeV.of_eq (congrArg (fun x => V.one (C.d (D.int .i64 x))) (listE_none hi f0_1).symm)⟩
theorem pc_listE (l : List Stg) (hn : l.length ≤ 4294967000) (hs : ∀ s ∈ l, s.k.length < 4294967000 ∧ s.v.length < 4294967000) :
  PureCall Tryz.prog J 20 [.one (.d (.vec 2 (l.map stgD))), .one (.d (.bool false))] (.one (.d (.int .i64 (listE pathB l)))) := by
 refine PureCall.of_body tOk (fn := Tryz.f20) Tryz.func20 (by kernel_rfl) rfl (Nat.le_of_ble_eq_true rfl) (fun E => ?_)
 iterate 9 first|refine Yp rfl ?_|apply Y1|apply Yn|apply Ys
 apply Yb
 refine W.loop (fun k st => ∃ i : Nat, i ≤ l.length ∧ (((List.range l.length).map (stgAt pathB l)).take i).all (· == 0) = true ∧ k = l.length - i ∧ ∃ t b2 r2 m2, st = ⟨t, [] ++ b2, [] ++ r2, [] ++ m2⟩ ∧ holdsL t [(0, .one (.d (.vec 2 (l.map stgD)))), (1, .one (.d (.bool false))), (7, .one (.d (.vec 2 (l.map stgD)))), (8, .one (.d (.int .i64 ((l.map stgD).length : Int)))), (9, .one (.d (.int .i64 (i : Int))))]) (l.length) ⟨0, Nat.zero_le _, by simp, rfl, _, _, _, _, rfl, rfl, rfl, rfl, rfl, rfl, trivial⟩ ?_
 rintro k0 _ ⟨i, f0_0, f0_1, rfl, t0, bb0, rr0, mm0, rfl, hh0⟩
 refine W.keepR _ _ _ _ _ _ _ hh0 rfl ?_
 apply Y1
 refine Yp rfl ?_
 apply Yn
 apply Ys
 refine W.cond rfl (fun c1=>?_) fun c1=>?_
 ·skip
  have hi := row_lt c1
  have hx := hs _ (stg_at hi)
  apply Yk
  apply Yn
  apply Ys
  apply Yb
  apply Y1
  refine Yp rfl ?_
  refine YE rfl (row_ok hi) (row_at Stg.z hi) rfl ?_
  iterate 11 first|refine Yp rfl ?_|refine Yg rfl rfl tg ?_|refine S.store tOk rfl rfl rfl rfl rfl rfl rfl rfl ?_|refine S.alloc tOk rfl rfl rfl rfl ?_|apply Y1|apply Ys|apply Yn
  refine S.callG rfl rfl rfl rfl tg rfl rfl (fun _ => pc_outref2_NameOf (l.getD i Stg.z).k (by omega)) ?_
  iterate 8 first|refine S.pickAnd tOk zOk rfl rfl tg ?_|refine Yg rfl rfl tg ?_|refine Yp rfl ?_
  refine S.callG rfl rfl rfl rfl tg rfl rfl (fun _ => pc_outref2_PathOf (l.getD i Stg.z).k (by omega)) ?_
  refine Yg rfl rfl tg ?_
  refine S.pickAndG tOk zOk rfl rfl rfl tg tg ?_
  refine S.pickOr tOk zOk rfl rfl tg ?_
  apply Yn
  refine W.cond rfl (fun c2=>?_) fun c2=>?_
  ·skip
   have c2 : (!pathB (l.getD i Stg.z).k) = true := by simpa using c2
   iterate 10 first|apply Yu|apply Yv|apply Yt|refine Yp rfl ?_|apply Y1|apply Yn
   exact ⟨_, rfl, rfl, LeV.of_eq (congrArg (fun x => V.one (C.d (D.int .i64 x))) (listE_hit hi f0_1 (stg_5 c2) (by decide)).symm)⟩
  have c2 : (!pathB (l.getD i Stg.z).k) = false := by simpa using c2
  iterate 6 first|refine Yp rfl ?_|apply Yk|apply Y1|apply Ys|apply Yn
  refine S.call rfl rfl rfl rfl rfl (pc_outref2_ValueOf (l.getD i Stg.z).v (by omega)) ?_
  refine Yp rfl ?_
  apply Yn
  refine W.cond rfl (fun c3=>?_) fun c3=>?_
  ·skip
   iterate 10 first|apply Yu|apply Yv|apply Yt|refine Yp rfl ?_|apply Y1|apply Yn
   exact ⟨_, rfl, rfl, LeV.of_eq (congrArg (fun x => V.one (C.d (D.int .i64 x))) (listE_hit hi f0_1 (stg_2 c2 c3) (by decide)).symm)⟩
  apply Yk
  apply Yn
  apply Ys
  refine W.regionD mixed (by kernel_rfl) ?_
  iterate 8 first|refine Yy rfl rfl rfl tg ?_|refine Ym rfl rfl ?_
  refine D.pureEG tOk zOk rfl rfl rfl tg (fun h => pred_ok h hi (by omega)) (row_pred Stg.z hi (by omega)) rfl ?_
  iterate 3 refine Yy rfl rfl rfl tg ?_
  refine D.pickAnd tOk zOk rfl rfl tg ?_
  apply Yn
  refine W.cond rfl (fun c4=>?_) fun c4=>?_
  ·skip
   iterate 9 first|apply Yu|apply Yv|apply Yt|refine Yp rfl ?_|apply Y1|apply Yn
   exact ⟨_, rfl, rfl, LeV.of_eq (congrArg (fun x => V.one (C.d (D.int .i64 x))) (listE_hit hi f0_1 (stg_7 c2 c3 c4) (by decide)).symm)⟩
  apply Yk
  apply Yw
  apply Y4
  iterate 2 refine Yp rfl ?_
  refine loop_n (l.length - (i + 1)) (by omega) ⟨i + 1, hi, range_take hi f0_1 (stg_0 c2 c3 c4), rfl, _, _, _, _, rfl, rfl, rfl, rfl, rfl, inc_i64 (by omega), trivial⟩
 have hi := row_ge c1
 apply Yq
 apply Ye
 apply Ye
 apply Yx
 apply Y3
 refine Yp rfl ?_
 apply Yn
 apply Yt
 exact ⟨_, rfl, rfl, LeV.of_eq (congrArg (fun x => V.one (C.d (D.int .i64 x))) (listE_none hi f0_1).symm)⟩
theorem pc_Facts (l : List Stg) (hn : l.length ≤ 4294967000) :
  HCall Tryz.prog J 22 ([.one (.d (.vec 2 (l.map stgD)))]) ([]) ([]) ([]) (isH (.one (.map 0)) ([]) ([]) ([tabD (tabOf l)])) := by
 refine HCall.ofD tOk ⟨0, 0, 1⟩ (fn := Tryz.f22) Tryz.func22 (by kernel_rfl) rfl (Nat.le_of_ble_eq_true rfl) (fun E => ?_)
 apply Y1
 refine Yp rfl ?_
 apply Y3
 refine S.makeMap rfl ?_
 iterate 9 first|refine Yp rfl ?_|apply Yb|apply Y1|apply Yn|apply Ys
 refine W.loop (fun k st => ∃ i : Nat, i ≤ l.length ∧ k = l.length - i ∧ ∃ t b2 r2 m2, st = ⟨t, [] ++ b2, [] ++ r2, [tabD (tabTo l i)] ++ m2⟩ ∧ holdsL t [(3, .one (.map 0)), (7, .one (.d (.vec 2 (l.map stgD)))), (8, .one (.d (.int .i64 ((l.map stgD).length : Int)))), (9, .one (.d (.int .i64 (i : Int))))]) (l.length) ⟨0, Nat.zero_le _, rfl, _, _, _, _, rfl, rfl, rfl, rfl, rfl, trivial⟩ ?_
 rintro k0 _ ⟨i, f0_0, rfl, t0, bb0, rr0, mm0, rfl, hh0⟩
 refine W.keepR _ _ _ _ _ _ _ hh0 rfl ?_
 apply Y1
 refine Yp rfl ?_
 apply Yn
 apply Ys
 refine W.cond rfl (fun c1=>?_) fun c1=>?_
 ·skip
  have hi := row_lt c1
  apply Yk
  apply Yn
  apply Ys
  apply Yb
  apply Y1
  refine YE rfl (row_ok hi) (row_at Stg.z hi) rfl ?_
  iterate 9 first|refine Yp rfl ?_|refine S.store tOk rfl rfl rfl rfl rfl rfl rfl rfl ?_|refine S.alloc tOk rfl rfl rfl rfl ?_|apply Y4
  refine S.mapUpdate tOk keyS (fD := fun v : List UInt8 => DV.one (.str v)) (l.getD i Stg.z).v (tabTo l i) rfl rfl rfl rfl rfl rfl rfl rfl (show _ = [tabD (tabTo l (i + 1))] from rfl) ?_
  apply Yw
  apply Y4
  iterate 2 refine Yp rfl ?_
  refine loop_n (l.length - (i + 1)) (by omega) ⟨i + 1, hi, rfl, _, _, _, _, rfl, rfl, rfl, rfl, inc_i64 (by omega), trivial⟩
 have hi := row_ge c1
 obtain rfl : i = l.length := by omega
 iterate 9 first|refine Yp rfl ?_|apply Ye|apply Yt|apply Yx|apply Yq|apply Y3|apply Yn
 exact ⟨_, rfl, rfl, LeG.refl _, rfl, rfl, rfl⟩
end
section
open Go
abbrev L8 := List UInt8
abbrev Fm := L8 → Option L8
def lk : Tab → Fm
 | [], _ => none
 | x :: l, k => if k == x.1 then some x.2 else lk l k
theorem has_lk (t : Tab) (k : L8) : hasL beqS t k = (lk t k).isSome := by
 induction t with
 | nil => rfl
 | cons x l ih =>
  unfold lk hasL
  by_cases h : (k == x.1) = true
  ·skip
   rw [if_pos h]; simp [beqS, h]
  ·skip
   rw [if_neg h]
   simp only [List.any_cons, beqS, h, Bool.false_or]
   exact ih
theorem get_lk (t : Tab) (k : L8) : getL beqS [] t k = (lk t k).getD [] := by
 induction t with
 | nil => rfl
 | cons x l ih =>
  unfold lk getL
  by_cases h : (k == x.1) = true
  ·skip
   rw [if_pos h]; simp [beqS, h]
  ·skip
   rw [if_neg h]; simp [beqS, h, ih]
def setF (f : Fm) (k v : L8) : Fm := fun q => if q == k then some v else f q
theorem lk_set (t : Tab) (k v : L8) : lk (setL beqS t k v) = setF (lk t) k v := by
 funext q
 induction t with
 | nil => simp [setL, lk, setF]
 | cons x l ih =>
  unfold setL
  by_cases h : (k == x.1) = true
  ·skip
   simp only [beqS, h, cond_true]
   have hk := beq_iff_eq.1 h
   unfold lk setF
   simp only
   by_cases hq : (q == k) = true
   ·skip
    rw [if_pos hq, if_pos hq]
   ·skip
    rw [if_neg hq, if_neg hq]
    rw [hk] at hq
    conv => rhs; unfold lk
    rw [if_neg hq]
  ·skip
   simp only [beqS, h, cond_false]
   unfold lk
   by_cases hq : (q == x.1) = true
   ·skip
    rw [if_pos hq]
    unfold setF
    have : ¬ (q == k) = true := fun hqk => h (by rw [← beq_iff_eq.1 hqk]; exact hq)
    rw [if_neg this]
    conv => rhs; unfold lk
    rw [if_pos hq]
   ·skip
    rw [if_neg hq, ih]
    unfold setF
    by_cases hqk : (q == k) = true
    ·skip
     rw [if_pos hqk, if_pos hqk]
    ·skip
     rw [if_neg hqk, if_neg hqk]
     conv => rhs; unfold lk
     rw [if_neg hq]
end
end Go.Proofs.YtfcdmcdhhikhaaaGreatDoor
namespace Go.Proofs.YtfcdmcdhhikhaaaGreatDoor
section
open Go
theorem tab_lk {l : List Stg} (hd : (l.map (·.k)).Nodup) : ∀ i, i ≤ l.length → ∀ q, lk (tabTo l i) q = ((l.take i).find? (fun s => s.k == q)).map (·.v)
  | 0, _, q => rfl
  | i + 1, hi, q => by
    have hi' : i < l.length := by omega
    show lk (setL beqS (tabTo l i) (l.getD i Stg.z).k (l.getD i Stg.z).v) q = _
    rw [lk_set, take_getD (d := Stg.z) hi', List.find?_append]
    unfold setF
    have ih := tab_lk hd i (by omega) q
    by_cases hq : (q == (l.getD i Stg.z).k) = true
    · rw [if_pos hq]
      have hq' := beq_iff_eq.1 hq
      have : (l.take i).find? (fun s => s.k == q) = none := by
        rw [List.find?_eq_none]
        intro s hs hsk
        have hsk := beq_iff_eq.1 hsk
        obtain ⟨j, hj, hje⟩ := List.getElem_of_mem hs
        have hj2 : j < i := by simp at hj; omega
        have e1 : (l.map (·.k))[j]? = some q := by
          rw [List.getElem?_map, List.getElem?_eq_getElem (by omega)]
          have : l[j] = s := by rw [← hje, List.getElem_take]
          rw [this, ← hsk]; rfl
        have e2 : (l.map (·.k))[i]? = some q := by
          rw [List.getElem?_map, List.getElem?_eq_getElem hi', hq', List.getD_eq_getElem?_getD, List.getElem?_eq_getElem hi']; rfl
        have := (List.getElem?_inj (List.getElem?_eq_some_iff.1 e1).1 hd).1 (e1.trans e2.symm)
        omega
      rw [this]
      simp [hq', List.find?]
    · rw [if_neg hq, ih]
      have h2 : ((l.getD i Stg.z).k == q) = false := by
        rw [beq_eq_false_iff_ne]; intro h; exact hq (by rw [h]; exact beq_self_eq_true _)
      cases (l.take i).find? (fun s => s.k == q) with
      | some s => rfl
      | none =>
        have e : [l.getD i Stg.z].find? (fun s => s.k == q) = none := by rw [List.find?_cons, h2]; rfl
        rw [e]; rfl
end
section
open Go Go.Sort
theorem cb_lt : ∀ (a b : L8), Lib.compareBytes a b < 0 ↔ a < b
  | [], [] => by simp [Lib.compareBytes]
  | [], _ :: _ => by simp [Lib.compareBytes]
  | _ :: _, [] => by simp [Lib.compareBytes]
  | a :: l, b :: m => by
    have ih := cb_lt l m
    rw [List.cons_lt_cons_iff]
    by_cases h1 : a < b
    · simp [Lib.compareBytes, h1]
    · by_cases h2 : b < a
      · have hne : a ≠ b := fun e => by rw [e] at h2; exact UInt8.lt_irrefl _ h2
        simp [Lib.compareBytes, h1, h2, hne]
      · have he : a = b := UInt8.le_antisymm (UInt8.not_lt.1 h2) (UInt8.not_lt.1 h1)
        simp only [Lib.compareBytes, h1, h2, if_false, false_or, he, true_and, UInt8.lt_irrefl]
        exact ih
def Rise (l : List Stg) : Prop := l.Pairwise fun a b => a.k < b.k
theorem Rise.at {l : List Stg} (h : Rise l) {i j : Nat} (hij : i < j) (hj : j < l.length) : (l.getD i Stg.z).k < (l.getD j Stg.z).k := by
 have := List.pairwise_iff_getElem.1 h i j (by omega) hj hij
 simpa [List.getD_eq_getElem?_getD, hj, show i < l.length by omega] using this
theorem rise_of {φ : L8 → Bool} {l : List Stg} (h : listE φ l = 0) : Rise l := by
 have hz := firstNe_zero h
 have step : ∀ i, i + 1 < l.length → (l.getD i Stg.z).k < (l.getD (i + 1) Stg.z).k := fun i hi => by
  have h2 := hz (stgAt φ l (i + 1)) (List.mem_map.2 ⟨i + 1, List.mem_range.2 hi, rfl⟩)
  unfold stgAt at h2
  split at h2
  ·skip
   cases h2
  ·skip
   split at h2
   ·skip
    cases h2
   ·skip
    split at h2
    ·skip
     cases h2
    ·skip
     rename_i hh
     have hle : leS (l.getD (i + 1) Stg.z).k (l.getD i Stg.z).k = false := by
      cases hq : leS (l.getD (i + 1) Stg.z).k (l.getD i Stg.z).k with
      | false => rfl
      | true => exact absurd (by rw [Nat.add_sub_cancel, hq, Bool.and_true, decide_eq_true_eq]; omega) hh
     unfold leS at hle
     rw [bytesLess_eq, Bool.or_eq_false_iff] at hle
     have h3 : ¬ (l.getD (i + 1) Stg.z).k < (l.getD i Stg.z).k := of_decide_eq_false hle.1
     have h4 : (l.getD (i + 1) Stg.z).k ≠ (l.getD i Stg.z).k := by simpa using hle.2
     by_cases hlt : (l.getD i Stg.z).k < (l.getD (i + 1) Stg.z).k
     ·skip
      exact hlt
     ·skip
      exact absurd (List.le_antisymm (List.not_lt.1 hlt) (List.not_lt.1 h3)) h4
 refine List.pairwise_iff_getElem.2 fun i j hi hj hij => ?_
 have go : ∀ d i, i + d + 1 < l.length → (l.getD i Stg.z).k < (l.getD (i + d + 1) Stg.z).k := fun d => by
  induction d with
  | zero => intro i h; exact step i h
  | succ d ih => intro i h; exact List.lt_trans (ih i (by omega)) (step (i + d + 1) h)
 have := go (j - i - 1) i (by omega)
 rw [show i + (j - i - 1) + 1 = j by omega] at this
 simpa [List.getD_eq_getElem?_getD, hi, hj] using this
def bsI (key : L8) (l : List Stg) : Nat := l.countP fun s => decide (s.k < key)
def bsF (key : L8) (l : List Stg) : Bool := if decide ((bsI key l : Int) < (l.length : Int)) then Lib.compareBytes (l.getD (bsI key l) Stg.z).k key == 0 else false
section
variable {key : L8} {l : List Stg}
theorem bs_end {i j : Nat} (hj : j ≤ i) (hi : i ≤ l.length) (f1 : ∀ m, m < i → (l.getD m Stg.z).k < key) (f2 : ∀ m, j ≤ m → m < l.length → ¬ (l.getD m Stg.z).k < key) : bsI key l = i := by
 have e : bsI key l = (l.take i).countP (fun s => decide (s.k < key)) + (l.drop i).countP (fun s => decide (s.k < key)) := by
  rw [← List.countP_append, List.take_append_drop]; rfl
 have h1 : (l.take i).countP (fun s => decide (s.k < key)) = (l.take i).length := by
  rw [List.countP_eq_length]
  intro a ha
  obtain ⟨m, hm, rfl⟩ := List.getElem_of_mem ha
  simp only [List.length_take] at hm
  have := f1 m (by omega)
  rw [List.getD_eq_getElem?_getD, List.getElem?_eq_getElem (by omega)] at this
  rw [List.getElem_take]
  exact decide_eq_true this
 have h2 : (l.drop i).countP (fun s => decide (s.k < key)) = 0 := by
  rw [List.countP_eq_zero]
  intro a ha
  obtain ⟨m, hm, rfl⟩ := List.getElem_of_mem ha
  simp only [List.length_drop] at hm
  have := f2 (i + m) (by omega) (by omega)
  rw [List.getD_eq_getElem?_getD, List.getElem?_eq_getElem (by omega)] at this
  rw [List.getElem_drop, decide_eq_true_eq]
  exact this
 rw [e, h1, h2, List.length_take]; omega
theorem bs_lo (hs : Rise l) {h : Nat} (hm : h < l.length) (hc : decide (Lib.compareBytes (l.getD h Stg.z).k key < 0) = true) : ∀ m, m < h + 1 → (l.getD m Stg.z).k < key := fun m hmh => by
 have h1 := (cb_lt _ _).1 (of_decide_eq_true hc)
 by_cases he : m = h
 ·skip
  rw [he]; exact h1
 ·skip
  exact List.lt_trans (hs.at (by omega) hm) h1
theorem bs_hi (hs : Rise l) {h : Nat} (hc : decide (Lib.compareBytes (l.getD h Stg.z).k key < 0) = false) : ∀ m, h ≤ m → m < l.length → ¬ (l.getD m Stg.z).k < key := fun m hmh hl hq => by
 have h1 : ¬ (l.getD h Stg.z).k < key := fun hx => of_decide_eq_false hc ((cb_lt _ _).2 hx)
 by_cases he : m = h
 ·skip
  rw [he] at hq; exact h1 hq
 ·skip
  exact h1 (List.lt_trans (hs.at (by omega) hl) hq)
def valO (l : List Stg) (key : L8) : Option Stg := l.find? (fun s => s.k == key)
theorem val_at (hs : Rise l) {i : Nat} (hi : i < l.length) (he : (l.getD i Stg.z).k = key) : valO l key = some (l.getD i Stg.z) := by
 unfold valO
 rw [List.find?_eq_some_iff_getElem]
 refine ⟨by simpa using he, i, hi, by simp [List.getD_eq_getElem?_getD, hi], fun j hj => ?_⟩
 have := hs.at hj hi
 rw [he, List.getD_eq_getElem?_getD, List.getElem?_eq_getElem (by omega)] at this
 have hne : l[j].k ≠ key := fun e => by
  rw [show (some l[j]).getD Stg.z = l[j] from rfl, e] at this; exact List.lt_irrefl _ this
 simpa using hne
theorem bs_t (hs : Rise l) (h : bsF key l = true) : bsI key l < l.length ∧ valO l key = some (l.getD (bsI key l) Stg.z) := by
 unfold bsF at h
 split at h
 ·skip
  rename_i h1
  have hi : bsI key l < l.length := by have := of_decide_eq_true h1; omega
  exact ⟨hi, val_at hs hi (bytes_0 (by simpa using h))⟩
 ·skip
  cases h
theorem bs_f (hs : Rise l) (h : bsF key l = false) : valO l key = none := by
  cases hq : valO l key with
  | none => rfl
  | some s =>
    unfold valO at hq
    obtain ⟨hk, i, hi, he, _⟩ := List.find?_eq_some_iff_getElem.1 hq
    have hg : l.getD i Stg.z = s := by simp [List.getD_eq_getElem?_getD, hi, he]
    have hkey : (l.getD i Stg.z).k = key := by rw [hg]; simpa using hk
    have hb : bsI key l = i := bs_end (j := i) (Nat.le_refl _) (by omega) (fun m hm => by rw [← hkey]; exact hs.at hm hi)
      (fun m h1 h2 hx => by
        by_cases e : m = i
        · rw [e, hkey] at hx; exact List.lt_irrefl _ hx
        · have := hs.at (show i < m by omega) h2
          rw [hkey] at this
          exact List.lt_irrefl _ (List.lt_trans this hx))
    unfold bsF at h
    rw [hb, if_pos (by simpa using hi), hkey, bytes_refl] at h
    cases h
end
end
section
open Go
open Go.RowKit
attribute [local irreducible] thenK blockK W
attribute [local irreducible] rangeB pathB nameB valueB bsI bsF valO
theorem pc_stgCmp (s : Stg) (key : L8) :
  PureCall Tryz.prog J 91 [.agg [.d (.str s.k), .d (.str s.v)], .one (.d (.str key))] (.one (.d (.int .i64 (Lib.compareBytes s.k key)))) := by
 refine PureCall.of_body tOk (fn := Tryz.f91) Tryz.func91 (by kernel_rfl) rfl (Nat.le_of_ble_eq_true rfl) (fun E => ?_)
 iterate 7 first|refine Yp rfl ?_|refine S.box rfl rfl rfl rfl ?_|apply Y3|apply Y1
 refine S.call rfl rfl rfl rfl rfl (pc_Compare s.k key) ?_
 refine Yp rfl ?_
 apply Yn
 apply Yt
 exact ⟨_, rfl, rfl, LeV.refl _⟩
theorem mid_add {i j n : Nat} (h : i ≤ n) (h2 : j ≤ n) (hn : n ≤ 4294967000) : V.one (.d (.int .i64 (IntKind.i64.wrap ((i : Int) + (j : Int))))) = V.one (.d (.int .i64 ((i + j : Nat) : Int))) := by
 rw [wrap_i64 (by omega) (by omega)]; rfl
theorem mid_u {x : Nat} (h : x ≤ 8589934000) : V.one (.d (.int .u64 (IntKind.u64.wrap (x : Int)))) = V.one (.d (.int .u64 (x : Int))) := by
 rw [show IntKind.u64.wrap (x : Int) = (x : Int) from by show (x : Int) % _ = _; exact Int.emod_eq_of_lt (by omega) (by show _ < (18446744073709551616 : Int); omega)]
theorem mid_h {x : Nat} : V.one (.d (.int .u64 (shrI .u64 (x : Int) 1))) = V.one (.d (.int .u64 ((x / 2 : Nat) : Int))) := by
 have e : shrI .u64 (x : Int) 1 = ((x / 2 : Nat) : Int) := by
  show Int.fdiv (x : Int) (2 ^ 1) = _
  rw [Int.fdiv_eq_ediv_of_nonneg _ (by decide)]; omega
 rw [e]
theorem mid_i {x : Nat} (h : x ≤ 8589934000) : V.one (.d (.int .i64 (IntKind.i64.wrap (x : Int)))) = V.one (.d (.int .i64 (x : Int))) := by
 rw [wrap_i64 (by omega) (by omega)]
theorem stg_sure {l : List Stg} {i n : Nat} (h : decide ((i : Int) < (n : Int)) = true) (hn : n = (l.map stgD).length) : i < l.length := by
 have := of_decide_eq_true h
 rw [List.length_map] at hn; omega
theorem pc_bsearch (l : List Stg) (hn : l.length ≤ 4294967000) (hs : Rise l) (key : L8) :
  PureCall Tryz.prog J 90 [.one (.d (.vec 2 (l.map stgD))), .one (.d (.str key)), .one (.d (.fn 91))] (.tup [.one (.d (.int .i64 (bsI key l : Int))), .one (.d (.bool (bsF key l)))]) := by
 have hmap : (l.map stgD).length = l.length := List.length_map _
 refine PureCall.of_body tOk (fn := Tryz.f90) Tryz.func90 (by kernel_rfl) rfl (Nat.le_of_ble_eq_true rfl) (fun E => ?_)
 iterate 14 first|refine Yp rfl ?_|apply Yb|apply Y3|apply Y1|apply Ys|apply Yn
 refine W.loop (fun k st => ∃ u : Nat, ∃ i : Nat, ∃ j : Nat, i ≤ j ∧ j ≤ l.length ∧ j - i ≤ u ∧ (∀ m, m < i → (l.getD m Stg.z).k < key) ∧ (∀ m, j ≤ m → m < l.length → ¬ (l.getD m Stg.z).k < key) ∧ k = u ∧ ∃ t b2 r2 m2, st = ⟨t, [] ++ b2, [] ++ r2, [] ++ m2⟩ ∧ holdsL t [(0, .one (.d (.vec 2 (l.map stgD)))), (1, .one (.d (.str key))), (2, .one (.d (.fn 91))), (8, .one (.d (.int .i64 ((l.map stgD).length : Int)))), (9, .one (.d (.int .i64 (i : Int)))), (10, .one (.d (.int .i64 (j : Int))))]) (l.length) ⟨l.length, 0, (l.map stgD).length, Nat.zero_le _, Nat.le_of_eq hmap, (by omega), (fun m hm => absurd hm (Nat.not_lt_zero _)), (fun m h1 h2 => by omega), rfl, _, _, _, _, rfl, rfl, rfl, rfl, rfl, rfl, rfl, trivial⟩ ?_
 rintro k0 _ ⟨u, i, j, f0_0, f0_1, f0_2, f0_3, f0_4, rfl, t0, bb0, rr0, mm0, rfl, hh0⟩
 refine W.keepR _ _ _ _ _ _ _ hh0 rfl ?_
 apply Ys
 apply Y1
 iterate 3 refine Yp rfl ?_
 apply Yn
 refine W.cond rfl (fun c1=>?_) fun c1=>?_
 ·skip
  have hij : i < j := by have := of_decide_eq_true c1; omega
  have hh : ((i + j) / 2) < l.length := by omega
  iterate 6 first|refine Yp rfl ?_|apply Yb|apply Yk|apply Y1|apply Yn
  refine YE rfl rfl (mid_add (n := l.length) (by omega) f0_1 hn) rfl ?_
  refine YE rfl rfl (mid_u (by omega)) rfl ?_
  refine YE rfl (rfl) (mid_h) rfl ?_
  refine YE rfl rfl (mid_i (by omega)) rfl ?_
  iterate 5 first|refine Yp rfl ?_|apply Y3
  refine YE rfl (row_ok hh) (row_at Stg.z hh) rfl ?_
  iterate 2 refine Yp rfl ?_
  refine S.call rfl rfl rfl rfl rfl (pc_stgCmp (l.getD ((i + j) / 2) Stg.z) key) ?_
  refine Yp rfl ?_
  apply Yn
  refine W.cond rfl (fun c2=>?_) fun c2=>?_
  ·skip
   apply Yr
   refine Yp rfl ?_
   refine YE rfl rfl (inc_i64 (by omega)) rfl ?_
   refine Yp rfl ?_
   apply Yw
   refine loop_n (k0 - 1) (by omega) ⟨k0 - 1, ((i + j) / 2) + 1, j, (by omega), (by omega), (by omega), (bs_lo hs hh c2), f0_4, rfl, _, _, _, _, rfl, rfl, rfl, rfl, rfl, rfl, rfl, trivial⟩
  apply Yr
  iterate 2 refine Yp rfl ?_
  apply Yw
  refine loop_n (k0 - 1) (by omega) ⟨k0 - 1, i, ((i + j) / 2), (by omega), (by omega), (by omega), f0_3, (bs_hi hs c2), rfl, _, _, _, _, rfl, rfl, rfl, rfl, rfl, rfl, rfl, trivial⟩
 have hij : j ≤ i := by have := of_decide_eq_false c1; omega
 have hend := bs_end hij (by omega) f0_3 f0_4
 iterate 13 first|refine Yp rfl ?_|refine Yg rfl rfl tg ?_|apply Ye|apply Yx|apply Yq|apply Y3
 refine S.pureEGc tOk zOk rfl rfl tg (fun hg => row_ok (stg_sure hg rfl)) (fun hg => row_at Stg.z (stg_sure hg rfl)) rfl ?_
 iterate 2 refine Yg rfl rfl tg ?_
 refine S.callG rfl rfl rfl rfl tg rfl rfl (fun _ => pc_stgCmp (l.getD i Stg.z) key) ?_
 refine Yg rfl rfl tg ?_
 refine S.pickAnd tOk zOk rfl rfl tg ?_
 iterate 2 refine Yp rfl ?_
 apply Yn
 apply Yt
 exact Yz rfl rfl rfl (by unfold bsF; rw [hend, hmap]; cases decide ((i : Int) < (l.length : Int)) <;> rfl)
def valT (l : List Stg) (key : L8) : L8 × Bool := match valO l key with | some s => (s.v, true) | none => ([], false)
theorem val_1 {l : List Stg} {key : L8} (hs : Rise l) (h : (!bsF key l) = true) : valT l key = ([], false) := by
 unfold valT; rw [bs_f hs (by simpa using h)]
theorem val_2 {l : List Stg} {key : L8} (hs : Rise l) (h : (!bsF key l) = false) : valT l key = ((l.getD (bsI key l) Stg.z).v, true) := by
 unfold valT; rw [(bs_t hs (by simpa using h)).2]
theorem pc_valueOf (l : List Stg) (hn : l.length ≤ 4294967000) (hs : Rise l) (key : L8) :
  PureCall Tryz.prog J 50 [.one (.d (.vec 2 (l.map stgD))), .one (.d (.str key))] (.tup [.one (.d (.str (valT l key).1)), .one (.d (.bool (valT l key).2))]) := by
 refine PureCall.of_body tOk (fn := Tryz.f50) Tryz.func50 (by kernel_rfl) rfl (Nat.le_of_ble_eq_true rfl) (fun E => ?_)
 iterate 6 first|refine Yp rfl ?_|apply Y3|apply Y1
 refine S.call rfl rfl rfl rfl rfl (pc_bsearch l hn hs key) ?_
 iterate 11 first|refine Yp rfl ?_|apply Y1|apply Yn|apply Ys
 refine W.cond rfl (fun c1=>?_) fun c1=>?_
 ·skip
  iterate 6 first|refine Yp rfl ?_|apply Yu|apply Yt|apply Y1|apply Yn
  exact Yz rfl rfl rfl (by rw [val_1 hs c1]; rfl)
 have hi := (bs_t hs (show bsF key l = true by simpa using c1)).1
 apply Yk
 apply Y3
 iterate 2 refine Yp rfl ?_
 refine YE rfl (row_ok hi) (row_at Stg.z hi) rfl ?_
 iterate 4 refine Yp rfl ?_
 apply Yn
 apply Yt
 exact Yz rfl rfl rfl (by rw [val_2 hs c1]; rfl)
theorem pc_inF (l : List Stg) (hn : l.length ≤ 4294967000) (hs : Rise l) (key : L8) :
  HCall Tryz.prog J 49 ([.one (.d (.str key)), .one (.ptr 0 0)]) ([[.d (.vec 2 (l.map stgD))]]) ([]) ([]) (isH (.tup [.one (.d (.str (valT l key).1)), .one (.d (.bool (valT l key).2))]) ([[.d (.vec 2 (l.map stgD))]]) ([]) ([])) := by
 refine HCall.ofD tOk ⟨1, 0, 0⟩ (fn := Tryz.f49) Tryz.func49 (by kernel_rfl) rfl (Nat.le_of_ble_eq_true rfl) (fun E => ?_)
 iterate 6 first|refine Yp rfl ?_|apply Y3|apply Y1
 refine S.call rfl rfl rfl rfl rfl (pc_valueOf l hn hs key) ?_
 iterate 4 refine Yp rfl ?_
 apply Yn
 apply Yt
 exact ⟨_, rfl, rfl, LeG.refl _, rfl, rfl, rfl⟩
end
section
open Go
open Go.RowKit
attribute [local irreducible] thenK blockK W
attribute [local irreducible] rangeE orderB compareR Lib.split
theorem pc_ver_within (s : Sp) (v : Ver) (h1 : s.f.e.length < 4294967281) (h2 : s.t.e.length < 4294967281) (hv : v.e.length < 4294967281) :
  PureCall Tryz.prog J 123 [spV s, verV v] (.one (.d (.bool (withinB s v)))) := by
 refine PureCall.of_body tOk (fn := Tryz.f123) Tryz.func123 (by kernel_rfl) rfl (Nat.le_of_ble_eq_true rfl) (fun E => ?_)
 iterate 12 first|refine Yp rfl ?_|refine Yg rfl rfl tg ?_|refine S.box rfl rfl rfl rfl ?_|apply Y3|apply Y1
 refine S.callG rfl rfl rfl rfl tg rfl rfl (fun _ => pc_ver_Order v s.f hv h1) ?_
 iterate 10 first|refine S.pickOr tOk zOk rfl rfl tg ?_|refine Yg rfl rfl tg ?_|refine Yp rfl ?_
 refine S.callG rfl rfl rfl rfl tg rfl rfl (fun _ => pc_ver_Order v s.t hv h2) ?_
 refine Yg rfl rfl tg ?_
 refine S.pickOrG tOk zOk rfl rfl rfl tg tg ?_
 refine S.pickAnd tOk zOk rfl rfl tg ?_
 refine Yp rfl ?_
 apply Yn
 apply Yt
 exact ⟨_, rfl, rfl, LeV.refl _⟩
theorem pc_ver_names (h : Bool) (e v : Ver) :
  PureCall Tryz.prog J 124 [.one (.d (.bool h)), verV e, verV v] (.one (.d (.bool (namesB h e v)))) := by
 refine PureCall.of_body tOk (fn := Tryz.f124) Tryz.func124 (by kernel_rfl) rfl (Nat.le_of_ble_eq_true rfl) (fun E => ?_)
 iterate 35 first|refine S.pickAnd tOk zOk rfl rfl tg ?_|refine Yg rfl rfl tg ?_|refine Yp rfl ?_|refine S.box rfl rfl rfl rfl ?_|apply Yt|apply Y3|apply Y1|apply Yn
 exact ⟨_, rfl, rfl, LeV.refl _⟩
theorem pc_ver_has (ss : List Sp) (hl : ss.length ≤ 1000000000) (hs : ∀ s ∈ ss, SpLen s) (v : Ver) (hv : v.e.length < 4294967281) :
  PureCall Tryz.prog J 76 [rgV ss, verV v] (.one (.d (.bool (hasB ss v)))) := by
 refine PureCall.of_body tOk (fn := Tryz.f76) Tryz.func76 (by kernel_rfl) rfl (Nat.le_of_ble_eq_true rfl) (fun E => ?_)
 iterate 13 first|refine Yp rfl ?_|refine S.box rfl rfl rfl rfl ?_|apply Yb|apply Y1|apply Yn|apply Ys
 refine W.loop (fun k st => ∃ i : Nat, i ≤ ss.length ∧ (ss.take i).any (hasAt ss.length v) = false ∧ k = ss.length - i ∧ ∃ t b2 r2 m2, st = ⟨t, [[.d (.vec 10 (ss.map spD))], [.d (.int .i64 v.a), .d (.int .i64 v.b), .d (.int .i64 v.c), .d (.str v.e)]] ++ b2, [] ++ r2, [] ++ m2⟩ ∧ holdsL t [(2, .one (.ptr 0 0)), (3, .one (.ptr 1 0)), (9, .one (.d (.vec 10 (ss.map spD)))), (10, .one (.d (.int .i64 ((ss.map spD).length : Int)))), (11, .one (.d (.int .i64 (i : Int))))]) (ss.length) ⟨0, Nat.zero_le _, by simp, rfl, _, _, _, _, rfl, rfl, rfl, rfl, rfl, rfl, trivial⟩ ?_
 rintro k0 _ ⟨i, f0_0, f0_1, rfl, t0, bb0, rr0, mm0, rfl, hh0⟩
 refine W.keepR _ _ _ _ _ _ _ hh0 rfl ?_
 apply Y1
 refine Yp rfl ?_
 apply Yn
 apply Ys
 refine W.cond rfl (fun c1=>?_) fun c1=>?_
 ·skip
  have hi := row_lt c1
  have hsp := sp_at hs hi
  apply Yk
  apply Yn
  apply Ys
  apply Yb
  apply Y1
  refine YE rfl (row_ok hi) (row_at Sp.z hi) rfl ?_
  iterate 22 first|refine S.pickAnd tOk zOk rfl rfl tg ?_|refine Yp rfl ?_|refine Yg rfl rfl tg ?_|refine S.store tOk rfl rfl rfl rfl rfl rfl rfl rfl ?_|refine S.alloc tOk rfl rfl rfl rfl ?_|apply Y3
  refine S.call rfl rfl rfl rfl rfl (pc_ver_within (ss.getD i Sp.z) v hsp.1 hsp.2 hv) ?_
  refine Yp rfl ?_
  iterate 5 refine Yg rfl rfl tg ?_
  refine S.pickOrG tOk zOk rfl rfl rfl tg tg ?_
  iterate 6 refine Yg rfl rfl tg ?_
  refine S.callG rfl rfl rfl rfl tg rfl rfl (fun _ => pc_ver_names _ (ss.getD i Sp.z).f v) ?_
  refine S.pickOrG tOk zOk rfl rfl rfl tg tg ?_
  iterate 6 refine Yg rfl rfl tg ?_
  refine S.callG rfl rfl rfl rfl tg rfl rfl (fun _ => pc_ver_names _ (ss.getD i Sp.z).t v) ?_
  refine S.pickOrG tOk zOk rfl rfl rfl tg tg ?_
  refine S.pickAnd tOk zOk rfl rfl tg ?_
  apply Yn
  refine W.cond rfl (fun c2=>?_) fun c2=>?_
  ·skip
   iterate 9 first|apply Yu|apply Yv|apply Yt|refine Yp rfl ?_|apply Y1|apply Yn
   exact Yz rfl rfl rfl (by rw [show hasB ss v = true from any_hit (d := Sp.z) hi (by have h := c2; rw [List.length_map] at h; exact h)]; rfl)
  apply Yk
  apply Yw
  apply Y4
  iterate 2 refine Yp rfl ?_
  refine loop_n (ss.length - (i + 1)) (by omega) ⟨i + 1, hi, any_take (d := Sp.z) hi f0_1 (by have h := c2; rw [List.length_map] at h; exact h), rfl, _, _, _, _, rfl, rfl, rfl, rfl, rfl, inc_i64 (by omega), trivial⟩
 have hi := row_ge c1
 apply Yq
 apply Ye
 apply Ye
 apply Yx
 apply Y3
 refine Yp rfl ?_
 apply Yn
 apply Yt
 exact Yz rfl rfl rfl (by rw [show hasB ss v = false from any_end hi f0_1]; rfl)
end
section
open Go
open Go.RowKit
attribute [local irreducible] thenK blockK W
attribute [local irreducible] rangeE orderB compareR Lib.split
end
section
open Go
open Go.RowKit
attribute [local irreducible] thenK blockK W
attribute [local irreducible] rangeE orderB compareR Lib.split hasB
end
section
open Go
open Go.RowKit
attribute [local irreducible] thenK blockK W
attribute [local irreducible] rangeE orderB compareR Lib.split
theorem pc_outref2_Inside (s : Sp) (v : Ver) (h1 : s.f.e.length < 4294967281) (h2 : s.t.e.length < 4294967281) (hv : v.e.length < 4294967281) :
  PureCall Tryz.prog J 114 [spV s, verV v] (.one (.d (.bool (insideR s v)))) := by
 refine PureCall.of_body tOk (fn := Tryz.f114) Tryz.func114 (by kernel_rfl) rfl (Nat.le_of_ble_eq_true rfl) (fun E => ?_)
 iterate 11 first|refine Yp rfl ?_|refine Yg rfl rfl tg ?_|refine S.box rfl rfl rfl rfl ?_|apply Y3|apply Y1
 refine S.callG rfl rfl rfl rfl tg rfl rfl (fun _ => pc_outref2_CompareOf v s.f hv h1) ?_
 iterate 10 first|refine S.pickAnd tOk zOk rfl rfl tg ?_|refine Yg rfl rfl tg ?_|refine Yp rfl ?_
 refine S.callG rfl rfl rfl rfl tg rfl rfl (fun _ => pc_outref2_CompareOf v s.t hv h2) ?_
 iterate 7 first|refine S.pickAnd tOk zOk rfl rfl tg ?_|refine S.pickAndG tOk zOk rfl rfl rfl tg tg ?_|refine Yg rfl rfl tg ?_|apply Yt|refine Yp rfl ?_|apply Yn
 exact ⟨_, rfl, rfl, LeV.refl _⟩
theorem pc_near (h : Bool) (e v : Ver) :
  HCall Tryz.prog J 111 ([.one (.d (.bool h)), verV e, .one (.ptr 0 0)]) ([[.d (.int .i64 v.a), .d (.int .i64 v.b), .d (.int .i64 v.c), .d (.str v.e)]]) ([]) ([]) (isH (.one (.d (.bool (namesB h e v)))) ([[.d (.int .i64 v.a), .d (.int .i64 v.b), .d (.int .i64 v.c), .d (.str v.e)]]) ([]) ([])) := by
 refine HCall.ofD tOk ⟨1, 0, 0⟩ (fn := Tryz.f111) Tryz.func111 (by kernel_rfl) rfl (Nat.le_of_ble_eq_true rfl) (fun E => ?_)
 iterate 34 first|refine S.pickAnd tOk zOk rfl rfl tg ?_|refine Yg rfl rfl tg ?_|refine Yp rfl ?_|apply Yt|refine S.box rfl rfl rfl rfl ?_|apply Y3|apply Y1|apply Yn
 exact ⟨_, rfl, rfl, LeG.refl _, rfl, rfl, rfl⟩
theorem pc_hasAt (s : Sp) (v : Ver) (al : Bool) (h1 : s.f.e.length < 4294967281) (h2 : s.t.e.length < 4294967281) (hv : v.e.length < 4294967281) :
  HCall Tryz.prog J 113 ([spV s, .one (.ptr 0 0), .one (.ptr 1 0), .one (.ptr 2 0)]) ([[.d (.int .i64 v.a), .d (.int .i64 v.b), .d (.int .i64 v.c), .d (.str v.e)], [.d (.bool al)], [.clo 111 [.ptr 0 0]]]) ([]) ([]) (isH (.one (.d (.bool (hasAtR al v s)))) ([[.d (.int .i64 v.a), .d (.int .i64 v.b), .d (.int .i64 v.c), .d (.str v.e)], [.d (.bool al)], [.clo 111 [.ptr 0 0]]]) ([]) ([])) := by
 refine HCall.ofD tOk ⟨3, 0, 0⟩ (fn := Tryz.f113) Tryz.func113 (by kernel_rfl) rfl (Nat.le_of_ble_eq_true rfl) (fun E => ?_)
 iterate 6 first|refine Yp rfl ?_|refine S.box rfl rfl rfl rfl ?_|apply Y3|apply Y1
 refine S.call rfl rfl rfl rfl rfl (pc_outref2_Inside s v h1 h2 hv) ?_
 refine Yp rfl ?_
 iterate 5 refine Yg rfl rfl tg ?_
 refine S.pickOrG tOk zOk rfl rfl rfl tg tg ?_
 iterate 6 refine Yg rfl rfl tg ?_
 refine S.hcallG rfl rfl rfl rfl tg rfl (fun _ => (pc_near s.hf s.f v).fd [0] [] [] rfl) ?_
 refine S.pickOrG tOk zOk rfl rfl rfl tg tg ?_
 iterate 6 refine Yg rfl rfl tg ?_
 refine S.hcallG rfl rfl rfl rfl tg rfl (fun _ => (pc_near s.ht s.t v).fd [0] [] [] rfl) ?_
 refine S.pickOrG tOk zOk rfl rfl rfl tg tg ?_
 refine S.pickAnd tOk zOk rfl rfl tg ?_
 refine Yp rfl ?_
 apply Yn
 apply Yt
 exact ⟨_, rfl, rfl, LeG.refl _, rfl, rfl, rfl⟩
theorem mem_at {α : Type} {l : List α} {i : Nat} {d : α} (h : i < l.length) : l.getD i d ∈ l := by
 rw [List.getD_eq_getElem?_getD, List.getElem?_eq_getElem h]; exact List.getElem_mem h
theorem pc_IndexFunc_Span (f : Nat) (caps : List C) (b : List (List C)) (r : List (Option RowO)) (m : List (List (DV × DV))) (φ : Sp → Bool) (ss : List Sp) (hl : ss.length ≤ 1000000000) (hc : ∀ s ∈ ss, HCall Tryz.prog J f (spV s :: caps.map V.one) b r m (isH (.one (.d (.bool (φ s)))) b r m)) :
  HCall Tryz.prog J 159 ([.one (.d (.vec 10 (ss.map spD))), .one (.clo f caps)]) (b) (r) (m) (isH (.one (.d (.int .i64 (idxOf φ ss)))) (b) (r) (m)) := by
 refine HCall.ofN tOk (fn := Tryz.f159) Tryz.func159 (by kernel_rfl) rfl (Nat.le_of_ble_eq_true rfl) (fun E => ?_)
 iterate 9 first|refine Yp rfl ?_|apply Y1|apply Yn|apply Ys
 apply Yb
 refine W.loop (fun k st => ∃ i : Nat, i ≤ ss.length ∧ (ss.take i).any φ = false ∧ k = ss.length - i ∧ ∃ t, st = ⟨t, b, r, m⟩ ∧ holdsL t [(0, .one (.d (.vec 10 (ss.map spD)))), (1, .one (.clo f caps)), (6, .one (.d (.vec 10 (ss.map spD)))), (7, .one (.d (.int .i64 ((ss.map spD).length : Int)))), (8, .one (.d (.int .i64 (i : Int))))]) (ss.length) ⟨0, Nat.zero_le _, by simp, rfl, _, rfl, rfl, rfl, rfl, rfl, rfl, trivial⟩ ?_
 rintro k0 _ ⟨i, f0_0, f0_1, rfl, t0, rfl, hh0⟩
 refine W.keep _ hh0 ?_
 apply Y1
 refine Yp rfl ?_
 apply Yn
 apply Ys
 refine W.cond rfl (fun c1=>?_) fun c1=>?_
 ·skip
  have hi := row_lt c1
  iterate 11 first|refine Yp rfl ?_|apply Yb|apply Yk|apply Y3|apply Y1|apply Ys|apply Yn
  refine YE rfl (row_ok hi) (row_at Sp.z hi) rfl ?_
  refine Yp rfl ?_
  refine S.hcallU rfl rfl rfl (hc (ss.getD i Sp.z) (mem_at hi)) ?_
  apply Yn
  refine W.cond rfl (fun c2=>?_) fun c2=>?_
  ·skip
   iterate 10 first|apply Yu|apply Yv|refine Yp rfl ?_|apply Yt|apply Y1|apply Yn
   exact ⟨_, rfl, LeG.of_eq (congrArg (fun x => V.one (C.d (D.int .i64 x))) (idxOf_at (d := Sp.z) hi f0_1 c2).symm), rfl, rfl, rfl⟩
  apply Yk
  apply Yw
  apply Y4
  iterate 2 refine Yp rfl ?_
  refine loop_n (ss.length - (i + 1)) (by omega) ⟨i + 1, hi, any_take (d := Sp.z) hi f0_1 c2, rfl, _, rfl, rfl, rfl, rfl, rfl, inc_i64 (by omega), trivial⟩
 have hi := row_ge c1
 apply Yq
 apply Ye
 apply Ye
 apply Yx
 apply Y3
 refine Yp rfl ?_
 apply Yn
 apply Yt
 exact ⟨_, rfl, LeG.of_eq (congrArg (fun x => V.one (C.d (D.int .i64 x))) (idxOf_none (any_end hi f0_1)).symm), rfl, rfl, rfl⟩
theorem pc_ContainsFunc_Span (f : Nat) (caps : List C) (b : List (List C)) (r : List (Option RowO)) (m : List (List (DV × DV))) (φ : Sp → Bool) (ss : List Sp) (hl : ss.length ≤ 1000000000) (hc : ∀ s ∈ ss, HCall Tryz.prog J f (spV s :: caps.map V.one) b r m (isH (.one (.d (.bool (φ s)))) b r m)) :
  HCall Tryz.prog J 112 ([.one (.d (.vec 10 (ss.map spD))), .one (.clo f caps)]) (b) (r) (m) (isH (.one (.d (.bool (ss.any φ)))) (b) (r) (m)) := by
 refine HCall.ofN tOk (fn := Tryz.f112) Tryz.func112 (by kernel_rfl) rfl (Nat.le_of_ble_eq_true rfl) (fun E => ?_)
 iterate 5 first|refine Yp rfl ?_|apply Y3|apply Y1
 refine S.hcallD rfl rfl rfl rfl (pc_IndexFunc_Span f caps b r m φ ss hl hc) ?_
 iterate 2 refine Yp rfl ?_
 apply Yn
 apply Yt
 exact ⟨_, rfl, LeG.of_eq (congrArg (fun x => V.one (C.d (D.bool x))) idxOf_ge), rfl, rfl, rfl⟩
theorem zero_ok {x : Sp} {l : List Sp} : (decide (0 ≤ (0 : Int)) && decide ((0 : Int) < (((x :: l).map spD).length : Int))) = true := by simp
theorem pc_HasOf_nil (hl : ([] : List Sp).length ≤ 1000000000) (hs : ∀ s ∈ ([] : List Sp), SpLen s) (v : Ver) (hv : v.e.length < 4294967281) :
  PureCall Tryz.prog J 65 [rgV ([] : List Sp), verV v] (.one (.d (.bool (([] : List Sp).any (hasAtR false v))))) := by
 refine PureCall.of_body tOk (fn := Tryz.f65) Tryz.func65 (by kernel_rfl) rfl (Nat.le_of_ble_eq_true rfl) (fun E => ?_)
 apply Y1
 iterate 2 refine S.box rfl rfl rfl rfl ?_
 refine Yp rfl ?_
 apply Y3
 refine S.makeFunc rfl rfl rfl ?_
 refine S.alloc tOk rfl rfl rfl rfl ?_
 iterate 9 first|refine Yp rfl ?_|refine Yg rfl rfl tg ?_|refine S.store tOk rfl rfl rfl rfl rfl rfl rfl rfl ?_|apply Y3
 refine S.deadG rfl (.one (.eptr (spD Sp.z))) ?_
 iterate 7 first|refine S.pickAnd tOk zOk rfl rfl tg ?_|refine Yg rfl rfl tg ?_|refine Yp rfl ?_
 refine S.deadG rfl (.one (.eptr (spD Sp.z))) ?_
 iterate 9 first|refine S.pickAnd tOk zOk rfl rfl tg ?_|refine Yg rfl rfl tg ?_|refine Yp rfl ?_|refine S.store tOk rfl rfl rfl rfl rfl rfl rfl rfl ?_|refine S.alloc tOk rfl rfl rfl rfl ?_|apply Y3
 refine S.makeFunc rfl rfl rfl ?_
 refine S.hcallD rfl rfl rfl rfl (pc_ContainsFunc_Span 113 [.ptr 1 0, .ptr 3 0, .ptr 2 0] _ _ _ (hasAtR false v) ([] : List Sp) hl (fun s hs' => (pc_hasAt s v false (hs s hs').1 (hs s hs').2 hv).fd [1, 3, 2] [] [] rfl)) ?_
 refine Yp rfl ?_
 apply Yn
 apply Yt
 exact ⟨_, rfl, rfl, LeV.refl _⟩
theorem pc_HasOf_cons (x : Sp) (l : List Sp) (hl : (x :: l).length ≤ 1000000000) (hs : ∀ s ∈ x :: l, SpLen s) (v : Ver) (hv : v.e.length < 4294967281) :
  PureCall Tryz.prog J 65 [rgV (x :: l), verV v] (.one (.d (.bool ((x :: l).any (hasAtR ((((((x :: l).map spD).length : Int) == 1 && !x.hf) && !x.ht)) v))))) := by
 refine PureCall.of_body tOk (fn := Tryz.f65) Tryz.func65 (by kernel_rfl) rfl (Nat.le_of_ble_eq_true rfl) (fun E => ?_)
 apply Y1
 iterate 2 refine S.box rfl rfl rfl rfl ?_
 refine Yp rfl ?_
 apply Y3
 refine S.makeFunc rfl rfl rfl ?_
 refine S.alloc tOk rfl rfl rfl rfl ?_
 iterate 9 first|refine Yp rfl ?_|refine Yg rfl rfl tg ?_|refine S.store tOk rfl rfl rfl rfl rfl rfl rfl rfl ?_|apply Y3
 refine YG rfl rfl tg (fun h => zero_ok) rfl ?_
 iterate 7 first|refine S.pickAnd tOk zOk rfl rfl tg ?_|refine Yg rfl rfl tg ?_|refine Yp rfl ?_
 refine YG rfl rfl tg (fun h => zero_ok) rfl ?_
 iterate 9 first|refine S.pickAnd tOk zOk rfl rfl tg ?_|refine Yg rfl rfl tg ?_|refine Yp rfl ?_|refine S.store tOk rfl rfl rfl rfl rfl rfl rfl rfl ?_|refine S.alloc tOk rfl rfl rfl rfl ?_|apply Y3
 refine S.makeFunc rfl rfl rfl ?_
 refine S.hcallD rfl rfl rfl rfl (pc_ContainsFunc_Span 113 [.ptr 1 0, .ptr 3 0, .ptr 2 0] _ _ _ (hasAtR ((((((x :: l).map spD).length : Int) == 1 && !x.hf) && !x.ht)) v) (x :: l) hl (fun s hs' => (pc_hasAt s v ((((((x :: l).map spD).length : Int) == 1 && !x.hf) && !x.ht)) (hs s hs').1 (hs s hs').2 hv).fd [1, 3, 2] [] [] rfl)) ?_
 refine Yp rfl ?_
 apply Yn
 apply Yt
 exact ⟨_, rfl, rfl, LeV.refl _⟩
theorem pc_outref2_HasOf (ss : List Sp) (hl : ss.length ≤ 1000000000) (hs : ∀ s ∈ ss, SpLen s) (v : Ver) (hv : v.e.length < 4294967281) : PureCall Tryz.prog J 65 [rgV ss, verV v] (.one (.d (.bool (hasR ss v)))) := by
 cases ss with
 | nil => exact pc_HasOf_nil hl hs v hv
 | cons x l =>
  have h := pc_HasOf_cons x l hl hs v hv
  rw [List.length_map] at h
  exact h
end
section
open Go
open Go.RowKit
attribute [local irreducible] thenK blockK W
def replD (c : UInt8) : D := if c == 92 then .vec 1 (byteRow [92, 92]) else if c == 34 then .vec 1 (byteRow [92, 34]) else .nilsl
def bsr : List C := List.replicate 34 (C.d .nilsl) ++ (C.d (.vec 1 (byteRow [92, 34])) :: (List.replicate 57 (C.d .nilsl) ++ (C.d (.vec 1 (byteRow [92, 92])) :: (List.replicate 163 (C.d .nilsl) ++ [.row 0 2 0 2]))))
theorem pc_BLoad (y : Int) (c3 c4 : C) :
  HCall Tryz.prog J 205 ([.one (.ptr 0 0)]) ([[.d (.int .u32 0), .d (.int .i32 y), .d (.int .u32 0), c3, c4]]) ([]) ([]) (isH (.one (.d (.bool false))) ([[.d (.int .u32 0), .d (.int .i32 y), .d (.int .u32 0), c3, c4]]) ([]) ([])) := by
 refine HCall.ofN tOk (fn := Tryz.f205) Tryz.func205 (by kernel_rfl) rfl (Nat.le_of_ble_eq_true rfl) (fun E => ?_)
 iterate 6 first|refine Yp rfl ?_|apply Y3|apply Y1
 refine S.atLoad (fun a w hc => run_call_load (P := Tryz.prog) Tryz.func226 (by kernel_rfl) (by kernel_rfl) (by kernel_rfl) .u32 (by kernel_rfl) hc) rfl rfl rfl rfl ?_
 iterate 2 refine Yp rfl ?_
 apply Yn
 apply Yt
 exact ⟨_, rfl, LeG.of_force rfl rfl, rfl, rfl, rfl⟩
theorem pc_MLockI (x : Int) (c3 c4 : C) :
  HCall Tryz.prog J 241 ([.one (.ptr 0 1)]) ([[.d (.int .u32 x), .d (.int .i32 0), .d (.int .u32 0), c3, c4]]) ([]) ([]) (isH (.tup []) ([[.d (.int .u32 x), .d (.int .i32 1), .d (.int .u32 0), c3, c4]]) ([]) ([])) := by
 refine HCall.ofN tOk (fn := Tryz.f241) Tryz.func241 (by kernel_rfl) rfl (Nat.le_of_ble_eq_true rfl) (fun E => ?_)
 apply Y1
 refine S.mark (run_call_mark0 (P := Tryz.prog) Tryz.func251 (by kernel_rfl) (by kernel_rfl) (by kernel_rfl) .disable (by kernel_rfl)) rfl ?_
 apply Yn
 apply Ys
 apply Y1
 iterate 3 refine Yp rfl ?_
 refine S.atPut [(.i32, 0), (.i32, 1)] (fun a w hc hz => run_call_cas_hit (P := Tryz.prog) Tryz.func252 (by kernel_rfl) (by kernel_rfl) (by kernel_rfl) .i32 (by kernel_rfl) (y := 1) hc hz) (fun _ _ _ => .one _ _ (.d _ _ (.bool true))) rfl rfl rfl rfl rfl rfl ?_
 apply Yn
 refine W.condT rfl rfl ?_
 apply Ys
 refine W.condT rfl rfl ?_
 apply Y1
 refine S.mark (run_call_mark0 (P := Tryz.prog) Tryz.func253 (by kernel_rfl) (by kernel_rfl) (by kernel_rfl) .enable (by kernel_rfl)) rfl ?_
 apply Y4
 refine Yp rfl ?_
 refine S.convUnsafe Tryz.underlying298 Tryz.underlying219 (by kernel_rfl) rfl rfl rfl ?_
 refine S.mark1 (run_call_marked (P := Tryz.prog) Tryz.func254 (by kernel_rfl) (by kernel_rfl) (by kernel_rfl) .acquire (by kernel_rfl)) rfl rfl ?_
 apply Yn
 apply Yt
 apply Yu
 exact ⟨_, rfl, LeG.refl _, rfl, rfl, rfl⟩
theorem pc_MLock (x : Int) (c3 c4 : C) :
  HCall Tryz.prog J 227 ([.one (.ptr 0 1)]) ([[.d (.int .u32 x), .d (.int .i32 0), .d (.int .u32 0), c3, c4]]) ([]) ([]) (isH (.tup []) ([[.d (.int .u32 x), .d (.int .i32 1), .d (.int .u32 0), c3, c4]]) ([]) ([])) := by
 refine HCall.ofN tOk (fn := Tryz.f227) Tryz.func227 (by kernel_rfl) rfl (Nat.le_of_ble_eq_true rfl) (fun E => ?_)
 apply Yr
 iterate 3 refine Yp rfl ?_
 refine S.hcallD rfl rfl rfl rfl (pc_MLockI x c3 c4) ?_
 exact ⟨_, rfl, LeG.refl _, rfl, rfl, rfl⟩
theorem pc_MUnlockI (x : Int) (c3 c4 : C) (cs : List C) (q : RowO) :
  HCall Tryz.prog J 242 ([.one (.ptr 0 1)]) ([[.d (.int .u32 x), .d (.int .i32 1), .d (.int .u32 0), c3, c4], cs]) ([some q]) ([]) (isH (.tup []) ([[.d (.int .u32 x), .d (.int .i32 0), .d (.int .u32 0), c3, c4], cs]) ([some q]) ([])) := by
 refine HCall.ofN tOk (fn := Tryz.f242) Tryz.func242 (by kernel_rfl) rfl (Nat.le_of_ble_eq_true rfl) (fun E => ?_)
 apply Ys
 refine W.condT rfl rfl ?_
 iterate 7 first|refine Yp rfl ?_|apply Y3|apply Y1
 refine S.convUnsafe Tryz.underlying298 Tryz.underlying219 (by kernel_rfl) rfl rfl rfl ?_
 refine S.mark1 (run_call_marked (P := Tryz.prog) Tryz.func256 (by kernel_rfl) (by kernel_rfl) (by kernel_rfl) .releaseMerge (by kernel_rfl)) rfl rfl ?_
 apply Y4
 refine S.mark (run_call_mark0 (P := Tryz.prog) Tryz.func251 (by kernel_rfl) (by kernel_rfl) (by kernel_rfl) .disable (by kernel_rfl)) rfl ?_
 apply Y3
 iterate 3 refine Yp rfl ?_
 refine S.atPut [(.i32, -1)] (fun a w hc hz => run_call_add (P := Tryz.prog) Tryz.func257 (by kernel_rfl) (by kernel_rfl) (by kernel_rfl) .i32 (by kernel_rfl) (y := -1) (s := 0) hc hz (by simp [go_sem]; rfl)) (fun _ _ _ => .one _ _ (.d _ _ (.int .i32 0))) rfl rfl rfl rfl rfl rfl ?_
 iterate 7 first|refine Yp rfl ?_|apply Y1|apply Yn|apply Ys
 refine W.condF rfl rfl ?_
 apply Yk
 apply Y4
 refine S.mark (run_call_mark0 (P := Tryz.prog) Tryz.func253 (by kernel_rfl) (by kernel_rfl) (by kernel_rfl) .enable (by kernel_rfl)) rfl ?_
 exact ⟨_, rfl, LeG.refl _, rfl, rfl, rfl⟩
theorem pc_DUnlock (x : Int) (c3 c4 : C) (cs : List C) (q : RowO) :
  DCall Tryz.prog J 228 ([.one (.ptr 0 1)]) ([[.d (.int .u32 x), .d (.int .i32 1), .d (.int .u32 0), c3, c4], cs]) ([some q]) ([]) (isH (.tup []) ([[.d (.int .u32 x), .d (.int .i32 0), .d (.int .u32 0), c3, c4], cs]) ([some q]) ([])) := by
 refine DCall.ofN tOk (fn := Tryz.f228) Tryz.func228 (by kernel_rfl) rfl (Nat.le_of_ble_eq_true rfl) (fun E => ?_)
 refine W.region ?_
 refine S.pure tOk zOk rfl rfl rfl ?_
 refine S.pure tOk zOk rfl rfl rfl ?_
 refine S.pure tOk zOk rfl rfl rfl ?_
 refine S.hcallD rfl rfl rfl rfl (pc_MUnlockI x c3 c4 cs q) ?_
 exact ⟨_, rfl, LeG.refl _, rfl, rfl, rfl⟩
theorem pc_b32  :
  PureCall Tryz.prog J 244 [.one (.d (.bool true))] (.one (.d (.int .u32 1))) := by
 refine PureCall.of_body tOk (fn := Tryz.f244) Tryz.func244 (by kernel_rfl) rfl (Nat.le_of_ble_eq_true rfl) (fun E => ?_)
 iterate 7 first|refine Yp rfl ?_|apply Y1|apply Yn|apply Ys
 refine W.condT rfl rfl ?_
 apply Y1
 refine Yp rfl ?_
 apply Yn
 apply Yt
 apply Yu
 exact ⟨_, rfl, rfl, LeV.refl _⟩
theorem pc_DStore (y : Int) (c3 c4 : C) (cs : List C) (q : RowO) :
  DCall Tryz.prog J 229 ([.one (.ptr 0 0), .one (.d (.bool true))]) ([[.d (.int .u32 0), .d (.int .i32 y), .d (.int .u32 0), c3, c4], cs]) ([some q]) ([]) (isH (.tup []) ([[.d (.int .u32 1), .d (.int .i32 y), .d (.int .u32 0), c3, c4], cs]) ([some q]) ([])) := by
 refine DCall.ofN tOk (fn := Tryz.f229) Tryz.func229 (by kernel_rfl) rfl (Nat.le_of_ble_eq_true rfl) (fun E => ?_)
 refine W.regionS 5 mixed rfl (by kernel_rfl) ?_
 refine AnyZ.eager 0 rfl (by kernel_rfl) (Eag.pure tOk zOk rfl (fun _ _ _ => rfl) rfl rfl) ?_
 refine AnyZ.eager 1 rfl (by kernel_rfl) (Eag.pure tOk zOk rfl (fun _ _ _ => rfl) rfl rfl) ?_
 refine AnyZ.eager 2 rfl (by kernel_rfl) (Eag.pure tOk zOk rfl (fun _ _ _ => rfl) rfl rfl) ?_
 refine AnyZ.eager 3 rfl (by kernel_rfl) (Eag.pure tOk zOk rfl (fun _ _ _ => rfl) rfl rfl) ?_
 refine AnyZ.one 4 (by kernel_rfl) rfl ?_
 refine OpZ.d ?_
 refine D.call rfl rfl rfl rfl rfl (pc_b32) ?_
 refine WD.nil ?_
 refine AnyZ.nil (by kernel_rfl) ?_
 refine S.atPut [(.u32, 1)] (fun a w hc hz => run_call_store (P := Tryz.prog) Tryz.func243 (by kernel_rfl) (by kernel_rfl) (by kernel_rfl) (by kernel_rfl) (k := .u32) (y := 1) hc hz) (fun _ _ _ => .tup [] [] rfl (fun i u v h => by simp at h)) rfl rfl rfl rfl rfl rfl ?_
 exact ⟨_, rfl, LeG.refl _, rfl, rfl, rfl⟩
end
section
open Go
def quoteL : List UInt8 → List UInt8 → Nat → Option (List UInt8 × Nat)
 | [], _, _ => none
 | c :: l, o, i =>
  if c == 34 then some (o, i + 1)
  else if c == 92 then
   match l with
   | [] => none
   | d :: m => if d != 34 && d != 92 then none else quoteL m (o ++ [d]) (i + 2)
  else quoteL l (o ++ [c]) (i + 1)
theorem drop_at {s : List UInt8} {i : Nat} (h : i < s.length) : s.drop i = s.getD i 0 :: s.drop (i + 1) := by
 rw [List.getD_eq_getElem?_getD, List.getElem?_eq_getElem h]; exact List.drop_eq_getElem_cons h
theorem drop_end {s : List UInt8} {i : Nat} (h : s.length ≤ i) : s.drop i = [] := List.drop_of_length_le h
theorem qL_end {s o : List UInt8} {i : Nat} {q : Option (List UInt8 × Nat)} (h : s.length ≤ i) (hq : quoteL (s.drop i) o i = q) : q = none := by
 rw [drop_end h] at hq; exact hq.symm
theorem qL_q {s o : List UInt8} {i : Nat} {q : Option (List UInt8 × Nat)} (h : i < s.length) (hc : (s.getD i 0 == 34) = true) (hq : quoteL (s.drop i) o i = q) : q = some (o, i + 1) := by
 rw [drop_at h] at hq; unfold quoteL at hq; rw [if_pos hc] at hq; exact hq.symm
theorem qL_bad {s o : List UInt8} {i : Nat} {q : Option (List UInt8 × Nat)} (h : i < s.length) (hc : (s.getD i 0 == 34) = false) (hb : (s.getD i 0 == 92) = true)
  (hd : ((i + 1 : Nat) : Int) = (s.length : Int) ∨ ((s.getD (i + 1) 0 != 34) && (s.getD (i + 1) 0 != 92)) = true) (hq : quoteL (s.drop i) o i = q) : q = none := by
 rw [drop_at h] at hq; unfold quoteL at hq; rw [if_neg (by rw [hc]; simp), if_pos hb] at hq
 rcases Nat.lt_or_ge (i + 1) s.length with h1 | h1
 ·skip
  rw [drop_at h1] at hq
  have h2 : (s.getD (i + 1) 0 != 34 && s.getD (i + 1) 0 != 92) = true := hd.resolve_left (by omega)
  simp only [h2, if_true] at hq
  exact hq.symm
 ·skip
  rw [drop_end h1] at hq; exact hq.symm
theorem qL_esc {s o : List UInt8} {i : Nat} {q : Option (List UInt8 × Nat)} (h : i + 1 < s.length) (hc : (s.getD i 0 == 34) = false) (hb : (s.getD i 0 == 92) = true)
  (hd : ((s.getD (i + 1) 0 != 34) && (s.getD (i + 1) 0 != 92)) = false) (hq : quoteL (s.drop i) o i = q) : quoteL (s.drop (i + 1 + 1)) (o ++ [s.getD (i + 1) 0]) (i + 1 + 1) = q := by
 rw [drop_at (by omega)] at hq; unfold quoteL at hq; rw [if_neg (by rw [hc]; simp), if_pos hb, drop_at h] at hq
 simp only [hd, if_false, Bool.false_eq_true] at hq
 exact hq
theorem qL_c {s o : List UInt8} {i : Nat} {q : Option (List UInt8 × Nat)} (h : i < s.length) (hc : (s.getD i 0 == 34) = false) (hb : (s.getD i 0 == 92) = false)
  (hq : quoteL (s.drop i) o i = q) : quoteL (s.drop (i + 1)) (o ++ [s.getD i 0]) (i + 1) = q := by
 rw [drop_at h] at hq; unfold quoteL at hq; rw [if_neg (by rw [hc]; simp), if_neg (by rw [hb]; simp)] at hq
 exact hq
def qAt (s : List UInt8) (f : Nat) : Option (List UInt8 × Nat) := quoteL (s.drop (f + 1)) [] (f + 1)
def qT (q : Option (List UInt8 × Nat)) : List UInt8 := (q.map Prod.fst).getD []
def qE (q : Option (List UInt8 × Nat)) : Nat := (q.map Prod.snd).getD 0
theorem qL_le : ∀ (n : Nat) (l o : List UInt8) (i : Nat) (x : List UInt8) (e : Nat), l.length ≤ n → quoteL l o i = some (x, e) → i < e ∧ e ≤ i + l.length ∧ x.length ≤ o.length + l.length
  | 0, l, o, i, x, e, h, hq => by
    obtain rfl : l = [] := List.length_eq_zero_iff.1 (by omega)
    cases hq
  | n + 1, [], o, i, x, e, h, hq => by cases hq
  | n + 1, c :: l, o, i, x, e, h, hq => by
    unfold quoteL at hq
    by_cases h1 : (c == 34) = true
    · rw [if_pos h1] at hq
      simp only [Option.some.injEq, Prod.mk.injEq] at hq
      obtain ⟨rfl, rfl⟩ := hq
      simp
    · rw [if_neg h1] at hq
      by_cases h2 : (c == 92) = true
      · rw [if_pos h2] at hq
        match l, hq with
        | [], hq => cases hq
        | d :: m, hq =>
          by_cases h3 : (d != 34 && d != 92) = true
          · simp only [h3, if_true] at hq; cases hq
          · rw [Bool.not_eq_true] at h3
            simp only [h3, if_false, Bool.false_eq_true] at hq
            have := qL_le n m (o ++ [d]) (i + 2) x e (by simp at h; omega) hq
            simp at this ⊢; omega
      · rw [if_neg h2] at hq
        have := qL_le n l (o ++ [c]) (i + 1) x e (by simp at h; omega) hq
        simp at this ⊢; omega
structure Tok where
 k : Int
 a : Nat
 t : List UInt8
 e : Nat
def Tok.z : Tok := ⟨0, 0, [], 0⟩
def blk (c : UInt8) : Bool := c == 32 || c == 9
def sgn (c : UInt8) : Bool := (c == 40 || c == 41) || c == 61
def wch (c : UInt8) : Bool := !blk c && !(sgn c || c == 34)
def skipB (s : List UInt8) (p : Nat) : Nat := p + ((s.drop p).takeWhile blk).length
def wordE (s : List UInt8) (p : Nat) : Nat := p + ((s.drop p).takeWhile wch).length
def tokAt (s : List UInt8) (f : Nat) : Tok :=
 if (f : Int) = (s.length : Int) then ⟨0, f, [], f⟩
 else if sgn (s.getD f 0) then ⟨3, f, [s.getD f 0], f + 1⟩
 else if s.getD f 0 == 34 then (if (qAt s f).isSome then ⟨2, f, qT (qAt s f), qE (qAt s f)⟩ else ⟨4, f, [], f⟩)
 else ⟨1, f, (s.take (wordE s f)).drop f, wordE s f⟩
def nextT (s : List UInt8) (p : Nat) : Tok := tokAt s (skipB s p)
theorem tw_le (φ : UInt8 → Bool) (l : List UInt8) : (l.takeWhile φ).length ≤ l.length := (List.takeWhile_sublist φ).length_le
theorem skip_le {s : List UInt8} {p : Nat} (h : p ≤ s.length) : skipB s p ≤ s.length := by
 have := tw_le blk (s.drop p); simp at this; unfold skipB; omega
theorem skip_ge {s : List UInt8} {p : Nat} : p ≤ skipB s p := by unfold skipB; omega
theorem word_le {s : List UInt8} {p : Nat} (h : p ≤ s.length) : wordE s p ≤ s.length := by
 have := tw_le wch (s.drop p); simp at this; unfold wordE; omega
theorem word_ge {s : List UInt8} {p : Nat} : p ≤ wordE s p := by unfold wordE; omega
theorem skip_end {s : List UInt8} {i f : Nat} (h : s.length ≤ i) (hi : i ≤ s.length) (hf : skipB s i = f) : f = i := by
 unfold skipB at hf; rw [drop_end h] at hf; simp at hf; omega
theorem skip_stop {s : List UInt8} {i f : Nat} (h : i < s.length) (hc : blk (s.getD i 0) = false) (hf : skipB s i = f) : f = i := by
 unfold skipB at hf; rw [drop_at h, List.takeWhile_cons, hc] at hf; simp at hf; omega
theorem skip_go {s : List UInt8} {i f : Nat} (h : i < s.length) (hc : blk (s.getD i 0) = true) (hf : skipB s i = f) : skipB s (i + 1) = f := by
 unfold skipB at hf ⊢; rw [drop_at h, List.takeWhile_cons, hc] at hf; simp at hf; omega
theorem word_end {s : List UInt8} {i f : Nat} (h : s.length ≤ i) (hi : i ≤ s.length) (hf : wordE s i = f) : f = i := by
 unfold wordE at hf; rw [drop_end h] at hf; simp at hf; omega
theorem word_stop {s : List UInt8} {i f : Nat} (h : i < s.length) (hc : wch (s.getD i 0) = false) (hf : wordE s i = f) : f = i := by
 unfold wordE at hf; rw [drop_at h, List.takeWhile_cons, hc] at hf; simp at hf; omega
theorem word_go {s : List UInt8} {i f : Nat} (h : i < s.length) (hc : wch (s.getD i 0) = true) (hf : wordE s i = f) : wordE s (i + 1) = f := by
 unfold wordE at hf ⊢; rw [drop_at h, List.takeWhile_cons, hc] at hf; simp at hf; omega
structure PS where
 T : List Tok
 w : Int
def hd (T : List Tok) : Tok := T.headD Tok.z
def adv : List Tok → List Tok
 | x :: y :: l => y :: l
 | l => l
def isT (k : Int) (x : List UInt8) (q : PS) : Bool := (decide (q.w < 0) && (hd q.T).k == k) && (hd q.T).t == x
def advS (q : PS) : PS := ⟨adv q.T, q.w⟩
def takeT (k : Int) (x : List UInt8) (q : PS) : List UInt8 × PS :=
 if decide (q.w ≥ 0) then ([], q)
 else if (hd q.T).k != k || (!(x == []) && !((hd q.T).t == x)) then ([], ⟨q.T, (hd q.T).a⟩)
 else ((hd q.T).t, advS q)
def failT (a : Int) (q : PS) : PS := if decide (q.w < 0) then ⟨q.T, a⟩ else q
def wAlways : List UInt8 := [97, 108, 119, 97, 121, 115]
def wFact : List UInt8 := [102, 97, 99, 116]
def wSetting : List UInt8 := [115, 101, 116, 116, 105, 110, 103]
def wHas : List UInt8 := [104, 97, 115]
def wVersion : List UInt8 := [118, 101, 114, 115, 105, 111, 110]
def wNot : List UInt8 := [110, 111, 116]
def wIn : List UInt8 := [105, 110]
def wAnd : List UInt8 := [97, 110, 100]
def wOr : List UInt8 := [111, 114]
def kindT (x : List UInt8) : Int := if x == wOr then 8 else 7
def shortG (f : PS → CT × PS) (k : Int) (q : PS) : CT × PS :=
 if !(isT 3 [41] q) then (.mk k [] [] [(f q).1], (takeT 3 [41] (f q).2).2) else (.mk k [] [] [], (takeT 3 [41] q).2)
def moreG (f : PS → CT × PS) (x : List UInt8) : Nat → List CT → PS → List CT × PS
 | 0, l, q => (l, q)
 | n + 1, l, q => if isT 1 x q then moreG f x n (l ++ [(f (advS q)).1]) (f (advS q)).2 else (l, q)
def signT (q : PS) : PS :=
 if decide (q.w < 0) && ((hd q.T).k != 1 || (!((hd q.T).t == wAnd) && !((hd q.T).t == wOr))) then failT (hd q.T).a q else q
def longG (f : PS → CT × PS) (q : PS) : CT × PS :=
 let r := f q
 let m := moreG f (hd r.2.T).t (hd r.2.T :: r.2.T).length [r.1] (signT r.2)
 (.mk (kindT (hd r.2.T).t) [] [] m.1, (takeT 3 [41] m.2).2)
def listG (last : Bool) (f : PS → CT × PS) (q : PS) : CT × PS :=
 if last then (CT.z, failT (hd q.T).a q)
 else if isT 1 wAnd (takeT 3 [40] q).2 then shortG f 7 (advS (takeT 3 [40] q).2)
 else if isT 1 wOr (takeT 3 [40] q).2 then shortG f 8 (advS (takeT 3 [40] q).2)
 else longG f (takeT 3 [40] q).2
def factG (k : Int) (q : PS) : CT × PS :=
 let n := takeT 1 [] q
 let v := takeT 2 [] (takeT 3 [61] n.2).2
 (.mk k n.1 v.1 [], v.2)
def versionG (q : PS) : CT × PS :=
 let n := takeT 1 [] q
 let v := takeT 2 [] (takeT 1 wIn n.2).2
 (.mk 5 n.1 v.1 [], v.2)
def condG (last : Bool) (f : PS → CT × PS) (q : PS) : CT × PS :=
 if isT 3 [40] q then listG last f q
 else
  let w := takeT 1 [] q
  if w.1 == wAlways then (.mk 1 [] [] [], w.2)
  else if w.1 == wFact || w.1 == wSetting then factG (if w.1 == wSetting then 3 else 2) w.2
  else if w.1 == wHas then (.mk 4 (takeT 1 [] w.2).1 [] [], (takeT 1 [] w.2).2)
  else if w.1 == wVersion then versionG w.2
  else if w.1 == wNot then (if last then (CT.z, failT (hd q.T).a w.2) else (.mk 6 [] [] [(f w.2).1], (f w.2).2))
  else (CT.z, failT (hd q.T).a w.2)
def condT : Nat → PS → CT × PS
 | 0, q => condG true (fun q => (CT.z, q)) q
 | n + 1, q => condG false (condT n) q
def condF : Nat → PS → CT × PS
 | 0 => fun q => (CT.z, q)
 | n + 1 => condT n
theorem condT_eq (n : Nat) (q : PS) : condT n q = condG (n == 0) (condF n) q := by cases n <;> rfl
end
section
open Go
theorem u8i {c k : UInt8} {b : Bool} (h : ((c.toNat : Int) == (k.toNat : Int)) = b) : (c == k) = b := by
 rw [← h]
 by_cases h1 : c = k
 ·skip
  subst h1; simp
 ·skip
  have h2 : c.toNat ≠ k.toNat := fun h => h1 (UInt8.toNat_inj.1 h)
  have h3 : ((c.toNat : Int) == (k.toNat : Int)) = false := by simp; omega
  rw [h3]; simpa using h1
theorem u8e (c k : UInt8) : ((c.toNat : Int) == (k.toNat : Int)) = (c == k) := (u8i rfl).symm
theorem u8n (c k : UInt8) : ((c.toNat : Int) != (k.toNat : Int)) = (c != k) := by
 show (!((c.toNat : Int) == (k.toNat : Int))) = !(c == k); rw [u8e]
theorem byteRow_add (o : List UInt8) (c : UInt8) : byteRow o ++ [[D.int .u8 (c.toNat : Int)]] = byteRow (o ++ [c]) := by simp [byteRow]
section
variable {s o : List UInt8} {i : Nat}
theorem qm1 (h : i < s.length) : s.length - (i + 1) < s.length - i := by omega
theorem qm2 (h : i < s.length) : s.length - (i + 1 + 1) < s.length - i := by omega
theorem qbad {x y : UInt8} (h : (((i + 1 : Nat) : Int) == (s.length : Int) || (((x.toNat : Int) != 34) && ((y.toNat : Int) != 92))) = true) : ((i + 1 : Nat) : Int) = (s.length : Int) ∨ ((x != 34) && (y != 92)) = true := by
 rcases Bool.or_eq_true_iff.1 h with h | h
 ·skip
  exact .inl (by simpa using h)
 ·skip
  right; rw [← u8n x 34, ← u8n y 92]; exact h
theorem qok1 {b : Bool} (hi : i < s.length) (h : (((i + 1 : Nat) : Int) == (s.length : Int) || b) = false) : i + 1 < s.length := by
 have : ¬ ((i + 1 : Nat) : Int) = (s.length : Int) := fun he => by rw [he] at h; simp at h
 omega
theorem qok2 {b : Bool} {x y : UInt8} (h : (b || (((x.toNat : Int) != 34) && ((y.toNat : Int) != 92))) = false) : ((x != 34) && (y != 92)) = false := by
 rw [← u8n x 34, ← u8n y 92]; exact (Bool.or_eq_false_iff.1 h).2
theorem qidx (hi : i < s.length) (h : (!(((i + 1 : Nat) : Int) == (s.length : Int))) = true) : (decide (0 ≤ ((i + 1 : Nat) : Int)) && decide (((i + 1 : Nat) : Int) < (s.length : Int))) = true := by
 have : ¬ ((i + 1 : Nat) : Int) = (s.length : Int) := fun he => by rw [he] at h; simp at h
 exact idx_ok (by omega) (by omega)
theorem qlen {x : List D} (hs : s.length ≤ 4000) (hi : i ≤ s.length) (ho : o.length ≤ i) : (byteRow o).length + [x].length ≤ 34359738368 := by simp [byteRow]; omega
theorem q_start {f : Nat} : quoteL (s.drop (f + 1)) [] (f + 1) = qAt s f := rfl
theorem blkI_eq (c : UInt8) : ((c.toNat : Int) == 32 || (c.toNat : Int) == 9) = blk c := by unfold blk; rw [← u8e c 32, ← u8e c 9]; rfl
theorem blk_lt {b : Bool} (h : (decide ((i : Int) < (s.length : Int)) && b) = true) : i < s.length := by
 have := (Bool.and_eq_true_iff.1 h).1; simpa using this
theorem blk_t {b : Bool} {c : UInt8} (h : (b && ((c.toNat : Int) == 32 || (c.toNat : Int) == 9)) = true) : blk c = true := by
 rw [← blkI_eq]; exact (Bool.and_eq_true_iff.1 h).2
theorem blk_end {p : Nat} (hi : i ≤ s.length) (hk : skipB s i = skipB s p) (h : (decide ((i : Int) < (s.length : Int)) && (((s.getD i 0).toNat : Int) == 32 || ((s.getD i 0).toNat : Int) == 9)) = false) : skipB s p = i := by
 rcases Nat.lt_or_ge i s.length with h1 | h1
 ·skip
  refine skip_stop h1 ?_ hk
  rw [← blkI_eq]
  simpa [h1] using h
 ·skip
  exact skip_end h1 hi hk
theorem nx_end {p : Nat} (hk : skipB s p = i) (h : ((i : Int) == (s.length : Int)) = true) : nextT s p = ⟨0, i, [], i⟩ := by
 unfold nextT tokAt; rw [hk, if_pos (by simpa using h)]
theorem nx_sign {p : Nat} (hk : skipB s p = i) (h : ((i : Int) == (s.length : Int)) = false) (hs : sgn (s.getD i 0) = true) : nextT s p = ⟨3, i, [s.getD i 0], i + 1⟩ := by
 unfold nextT tokAt; rw [hk, if_neg (by simpa using h), if_pos hs]
theorem nx_bad {p : Nat} (hk : skipB s p = i) (h : ((i : Int) == (s.length : Int)) = false) (hs : sgn (s.getD i 0) = false) (hq : (s.getD i 0 == 34) = true) (ho : (qAt s i).isSome = false) : nextT s p = ⟨4, i, [], i⟩ := by
 unfold nextT tokAt; rw [hk, if_neg (by simpa using h), if_neg (by rw [hs]; simp), if_pos hq, if_neg (by rw [ho]; simp)]
theorem nx_text {p : Nat} (hk : skipB s p = i) (h : ((i : Int) == (s.length : Int)) = false) (hs : sgn (s.getD i 0) = false) (hq : (s.getD i 0 == 34) = true) (ho : (qAt s i).isSome = true) : nextT s p = ⟨2, i, qT (qAt s i), qE (qAt s i)⟩ := by
 unfold nextT tokAt; rw [hk, if_neg (by simpa using h), if_neg (by rw [hs]; simp), if_pos hq, if_pos ho]
theorem nx_word {p j : Nat} (hk : skipB s p = i) (h : ((i : Int) == (s.length : Int)) = false) (hs : sgn (s.getD i 0) = false) (hq : (s.getD i 0 == 34) = false) (hw : wordE s i = j) : nextT s p = ⟨1, i, (s.take j).drop i, j⟩ := by
 unfold nextT tokAt; rw [hk, if_neg (by simpa using h), if_neg (by rw [hs]; simp), if_neg (by rw [hq]; simp), hw]
theorem sg_1 {c : UInt8} (h : ((c.toNat : Int) == 40) = true) : sgn c = true := by unfold sgn; rw [u8i (k := 40) h]; rfl
theorem sg_2 {c : UInt8} (h : ((c.toNat : Int) == 41) = true) : sgn c = true := by unfold sgn; rw [u8i (k := 41) h]; simp
theorem sg_3 {c : UInt8} (h : ((c.toNat : Int) == 61) = true) : sgn c = true := by unfold sgn; rw [u8i (k := 61) h]; simp
theorem sg_no {c : UInt8} (h : ((c.toNat : Int) == 40) = false) (h2 : ((c.toNat : Int) == 41) = false) (h3 : ((c.toNat : Int) == 61) = false) : sgn c = false := by
 unfold sgn; rw [u8i (k := 40) h, u8i (k := 41) h2, u8i (k := 61) h3]; rfl
theorem gx (h : decide ((i : Int) < (s.length : Int)) = true) : (decide (0 ≤ (i : Int)) && decide ((i : Int) < (s.length : Int))) = true := by rw [h]; simp
set_option maxRecDepth 100000 in
theorem enc_sg {c : UInt8} (h : sgn c = true) : V.one (.d (.str (Utf8.encode (c.toNat : Int)).data.toList)) = V.one (.d (.str [c])) := by
 unfold sgn at h
 have h2 : c = 40 ∨ c = 41 ∨ c = 61 := by simpa [or_assoc] using h
 rcases h2 with rfl | rfl | rfl <;> exact congrArg (fun x => V.one (C.d (D.str x))) (by decide)
theorem back8 (c : UInt8) : ((c.toNat : Int)).toNat.toUInt8 = c := by simp
theorem idx_sign (c : UInt8) : decide (Lib.indexByte [40, 41, 61, 34] ((c.toNat : Int)).toNat.toUInt8 < 0) = !(sgn c || c == 34) := by
 rw [back8]
 by_cases h1 : c = 40
 ·skip
  subst h1; decide
 by_cases h2 : c = 41
 ·skip
  subst h2; decide
 by_cases h3 : c = 61
 ·skip
  subst h3; decide
 by_cases h4 : c = 34
 ·skip
  subst h4; decide
 simp [Lib.indexByte, sgn, h1, h2, h3, h4, Ne.symm h1, Ne.symm h2, Ne.symm h3, Ne.symm h4]
theorem wch_eq {b : Bool} {c : UInt8} : ((b && !((c.toNat : Int) == 32 || (c.toNat : Int) == 9)) && decide (Lib.indexByte [40, 41, 61, 34] ((c.toNat : Int)).toNat.toUInt8 < 0)) = (b && wch c) := by
 rw [idx_sign, blkI_eq]; unfold wch; rw [Bool.and_assoc]
theorem wch_lt {b c : Bool} (h : ((decide ((i : Int) < (s.length : Int)) && b) && c) = true) : i < s.length := blk_lt (Bool.and_eq_true_iff.1 h).1
theorem wch_t {b : Bool} {c : UInt8} (h : ((b && !((c.toNat : Int) == 32 || (c.toNat : Int) == 9)) && decide (Lib.indexByte [40, 41, 61, 34] ((c.toNat : Int)).toNat.toUInt8 < 0)) = true) : wch c = true := by
 rw [wch_eq] at h; exact (Bool.and_eq_true_iff.1 h).2
theorem wch_end {p : Nat} (hi : i ≤ s.length) (hk : wordE s i = wordE s p) (h : ((decide ((i : Int) < (s.length : Int)) && !(((s.getD i 0).toNat : Int) == 32 || ((s.getD i 0).toNat : Int) == 9)) && decide (Lib.indexByte [40, 41, 61, 34] (((s.getD i 0).toNat : Int)).toNat.toUInt8 < 0)) = false) : wordE s p = i := by
 rw [wch_eq] at h
 rcases Nat.lt_or_ge i s.length with h1 | h1
 ·skip
  exact word_stop h1 (by simpa [h1] using h) hk
 ·skip
  exact word_end h1 hi hk
end
end
section
open Go
def spec (c : UInt8) : Bool := c == 92 || c == 34
def esc1 (c : UInt8) : L8 := if spec c then [92, c] else [c]
def escB (s : L8) : L8 := s.flatMap esc1
theorem esc_nil : escB [] = [] := rfl
theorem esc_cons (c : UInt8) (s : L8) : escB (c :: s) = esc1 c ++ escB s := by simp [escB]
theorem esc_app (a b : L8) : escB (a ++ b) = escB a ++ escB b := by simp [escB, List.flatMap_append]
theorem esc_take {s : L8} {i : Nat} (hi : i < s.length) : escB (s.take (i + 1)) = escB (s.take i) ++ esc1 (s.getD i 0) := by
 rw [List.take_succ_eq_append_getElem hi, esc_app, List.getD_eq_getElem?_getD, List.getElem?_eq_getElem hi]
 simp [escB]
theorem esc1_len (c : UInt8) : (esc1 c).length = if spec c then 2 else 1 := by unfold esc1; split <;> rfl
theorem esc_len (s : L8) : (escB s).length = s.length + Lib.countByte s 34 + Lib.countByte s 92 := by
  induction s with
  | nil => rfl
  | cons c s ih =>
    rw [esc_cons, List.length_append, ih, esc1_len]
    unfold Lib.countByte spec
    rw [List.count_cons, List.count_cons, List.length_cons]
    by_cases h1 : c = 92
    · subst h1; simp; omega
    · by_cases h2 : c = 34
      · subst h2; simp; omega
      · have e1 : (c == 92) = false := by simpa using h1
        have e2 : (c == 34) = false := by simpa using h2
        simp [e1, e2]; omega
theorem esc_le (s : L8) : s.length ≤ (escB s).length ∧ (escB s).length ≤ 2 * s.length := by
 induction s with
 | nil => exact ⟨Nat.le_refl _, Nat.le_refl _⟩
 | cons c s ih =>
  rw [esc_cons, List.length_append, esc1_len, List.length_cons]
  split <;> omega
theorem cnt_le (s : L8) (c : UInt8) : Lib.countByte s c ≤ s.length := List.count_le_length
theorem esc_same {s : L8} (h : s.any spec = false) : escB s = s := by
 induction s with
 | nil => rfl
 | cons c s ih =>
  rw [List.any_cons, Bool.or_eq_false_iff] at h
  rw [esc_cons, ih h.2]
  unfold esc1
  rw [h.1]; rfl
theorem cnt_same {s : L8} (h1 : Lib.countByte s 34 = 0) (h2 : Lib.countByte s 92 = 0) : escB s = s := by
 have hl := esc_len s
 rw [h1, h2] at hl
 refine esc_same ?_
 rw [List.any_eq_false]
 intro c hc
 unfold Lib.countByte at h1 h2
 rw [List.count_eq_zero] at h1 h2
 unfold spec
 have e1 : (c == 92) = false := by
  cases hb : (c == 92) with
  | false => rfl
  | true => exact absurd ((by simpa using hb : c = 92) ▸ hc) h2
 have e2 : (c == 34) = false := by
  cases hb : (c == 34) with
  | false => rfl
  | true => exact absurd ((by simpa using hb : c = 34) ▸ hc) h1
 rw [e1, e2]; simp
theorem any_takeS {s : L8} {i : Nat} (hi : i < s.length) : (s.take (i + 1)).any spec = ((s.take i).any spec || spec (s.getD i 0)) := by
 rw [List.take_succ_eq_append_getElem hi, List.any_append, List.getD_eq_getElem?_getD, List.getElem?_eq_getElem hi]
 simp
theorem escTake_le {s : L8} (i : Nat) : (escB (s.take i)).length ≤ (escB s).length := by
 conv => rhs; rw [← List.take_append_drop i s, esc_app]
 simp
theorem escTake_lt {s : L8} {i : Nat} (hi : i < s.length) : (escB (s.take i)).length + (esc1 (s.getD i 0)).length ≤ (escB s).length := by
 have := escTake_le (s := s) (i + 1)
 rw [esc_take hi, List.length_append] at this
 exact this
def lenTo (s : L8) (i : Nat) : Nat := (escB (s.take i)).length + (s.length - i)
theorem lenTo_0 (s : L8) : lenTo s 0 = s.length := by simp [lenTo, escB]
theorem lenTo_end (s : L8) : lenTo s s.length = (escB s).length := by simp [lenTo]
theorem lenTo_s {s : L8} {i : Nat} (hi : i < s.length) (h : spec (s.getD i 0) = true) : lenTo s (i + 1) = lenTo s i + 1 := by
 unfold lenTo
 rw [esc_take hi, List.length_append, esc1_len, if_pos h]; omega
theorem lenTo_n {s : L8} {i : Nat} (hi : i < s.length) (h : spec (s.getD i 0) = false) : lenTo s (i + 1) = lenTo s i := by
 unfold lenTo
 rw [esc_take hi, List.length_append, esc1_len, if_neg (by rw [h]; simp)]; omega
theorem lenTo_le (s : L8) {i : Nat} (hi : i ≤ s.length) : lenTo s i ≤ 2 * s.length := by
 have := (esc_le (s.take i)).2
 unfold lenTo
 simp at this
 omega
def fillTo (s : L8) (i : Nat) : List (List D) := byteRow (escB (s.take i)) ++ List.replicate ((escB s).length - (escB (s.take i)).length) [.int .u8 0]
theorem byteRow_app (a b : L8) : byteRow (a ++ b) = byteRow a ++ byteRow b := by simp [byteRow]
theorem byteRow_len (a : L8) : (byteRow a).length = a.length := by simp [byteRow]
theorem fill_0 (s : L8) : List.replicate (escB s).length [D.int .u8 0] = fillTo s 0 := by simp [fillTo, escB, byteRow]
theorem fill_end (s : L8) : fillTo s s.length = byteRow (escB s) := by simp [fillTo]
theorem fill_s {s : L8} {i : Nat} (hi : i < s.length) (h : spec (s.getD i 0) = true) :
  (fillTo s i).take (escB (s.take i)).length ++ byteRow [92, s.getD i 0] ++ (fillTo s i).drop ((escB (s.take i)).length + 2) = fillTo s (i + 1) := by
 have h1 := escTake_lt hi
 have e1 : esc1 (s.getD i 0) = [92, s.getD i 0] := by unfold esc1; rw [if_pos h]
 rw [e1] at h1
 unfold fillTo
 rw [esc_take hi, e1, byteRow_app]
 have hl := byteRow_len (escB (s.take i))
 rw [List.take_append_of_le_length (by omega), List.take_of_length_le (by omega), List.drop_append, List.drop_of_length_le (by omega), hl, List.nil_append, List.drop_replicate, List.length_append]
 congr 2
 simp only [List.length_cons, List.length_nil]
 omega
theorem fill_n {s : L8} {i : Nat} (hi : i < s.length) (h : spec (s.getD i 0) = false) : (fillTo s i).set (escB (s.take i)).length [.int .u8 ((s.getD i 0).toNat : Int)] = fillTo s (i + 1) := by
 have h1 := escTake_lt hi
 have e1 : esc1 (s.getD i 0) = [s.getD i 0] := by unfold esc1; rw [if_neg (by rw [h]; simp)]
 rw [e1] at h1
 simp only [List.length_cons, List.length_nil] at h1
 unfold fillTo
 rw [esc_take hi, e1, byteRow_app]
 have hl := byteRow_len (escB (s.take i))
 obtain ⟨k, hk⟩ : ∃ k, (escB s).length - (escB (s.take i)).length = k + 1 := ⟨(escB s).length - (escB (s.take i)).length - 1, by omega⟩
 rw [List.set_append_right _ _ (by omega), hl, Nat.sub_self, hk, List.replicate_succ, List.set_cons_zero, List.length_append, List.append_assoc]
 congr 1
 show _ = [[D.int .u8 ((s.getD i 0).toNat : Int)]] ++ _
 simp only [List.length_cons, List.length_nil, List.cons_append, List.nil_append]
 congr 2
 omega
theorem fill_at {s : L8} {i : Nat} (hi : i < s.length) : ∃ x, (fillTo s i)[(escB (s.take i)).length]? = some x ∧ x = [D.int .u8 0] := by
 have h1 := escTake_lt hi
 have h2 : 0 < (esc1 (s.getD i 0)).length := by rw [esc1_len]; split <;> omega
 refine ⟨_, ?_, rfl⟩
 unfold fillTo
 rw [List.getElem?_append_right (by rw [byteRow_len]; exact Nat.le_refl _), byteRow_len, Nat.sub_self, List.getElem?_replicate, if_pos (by omega)]
def quoB (s : List UInt8) : List UInt8 := [34] ++ escB s ++ [34]
theorem quoB_le {s : L8} {N : Nat} (h : s.length ≤ N) : (quoB s).length ≤ 2 * N + 2 := by
 have := (esc_le s).2
 simp [quoB]; omega
end
section
open Go
open Go.RowKit
attribute [local irreducible] thenK blockK W
theorem pc_build  :
  HCall Tryz.prog J 207 ([.one (.ptr 0 0)]) ([[.d (.int .u32 0), .d (.int .i32 1), .d (.int .u32 0), .d (.err true), .d (.vec 1 [[.str [92]], [.str [92, 92]], [.str [34]], [.str [92, 34]]])]]) ([]) ([]) (isH (.one (.wr (.ifc 265) 1 0)) ([[.d (.int .u32 0), .d (.int .i32 1), .d (.int .u32 0), .d (.err true), .d (.vec 1 [[.str [92]], [.str [92, 92]], [.str [34]], [.str [92, 34]]])], bsr]) ([some ⟨true, 2, 1, 9, [[.str [34]], [.str [92]]]⟩]) ([])) := by
 refine HCall.ofD tOk ⟨2, 1, 0⟩ (fn := Tryz.f207) Tryz.func207 (by kernel_rfl) rfl (Nat.le_of_ble_eq_true rfl) (fun E => ?_)
 iterate 16 first|refine Yp rfl ?_|refine Yg rfl rfl tg ?_|apply Y1|apply Y3|apply Ys|apply Yn
 refine YG rfl rfl tg (fun _ => by first | rfl | exact idx_ok (by omega) (by omega)) rfl ?_
 iterate 3 refine Yg rfl rfl tg ?_
 refine S.pickAnd tOk zOk rfl rfl tg ?_
 apply Yn
 refine W.condF rfl rfl ?_
 iterate 9 first|refine Yp rfl ?_|apply Yb|apply Yk|apply Y1|apply Y3|apply Yn|apply Ys
 refine W.rounds 3 ?_
 refine WR.succ ?_
 apply Ys
 apply Y1
 iterate 4 refine Yp rfl ?_
 apply Yn
 refine W.condT rfl rfl ?_
 iterate 8 first|refine Yp rfl ?_|apply Yb|apply Yk|apply Y1|apply Ys|apply Yn
 refine YP rfl (by first | rfl | exact idx_ok (by omega) (by omega)) rfl ?_
 iterate 3 refine Yp rfl ?_
 apply Yn
 refine W.condF rfl rfl ?_
 apply Yk
 apply Y3
 iterate 3 refine Yp rfl ?_
 refine YP rfl (by first | rfl | exact idx_ok (by omega) (by omega)) rfl ?_
 iterate 3 refine Yp rfl ?_
 apply Yn
 refine W.condT rfl rfl ?_
 iterate 8 first|refine Yp rfl ?_|apply Yw|apply Y4|apply Yn|apply Yr
 refine WR.succ ?_
 apply Ys
 apply Y1
 iterate 4 refine Yp rfl ?_
 apply Yn
 refine W.condT rfl rfl ?_
 iterate 8 first|refine Yp rfl ?_|apply Yb|apply Yk|apply Y1|apply Ys|apply Yn
 refine YP rfl (by first | rfl | exact idx_ok (by omega) (by omega)) rfl ?_
 iterate 3 refine Yp rfl ?_
 apply Yn
 refine W.condF rfl rfl ?_
 apply Yk
 apply Y3
 iterate 3 refine Yp rfl ?_
 refine YP rfl (by first | rfl | exact idx_ok (by omega) (by omega)) rfl ?_
 iterate 3 refine Yp rfl ?_
 apply Yn
 refine W.condT rfl rfl ?_
 iterate 8 first|refine Yp rfl ?_|apply Yw|apply Y4|apply Yn|apply Yr
 refine WR.succ ?_
 apply Ys
 apply Y1
 iterate 4 refine Yp rfl ?_
 apply Yn
 refine W.condF rfl rfl ?_
 iterate 9 first|apply Ye|refine Yp rfl ?_|apply Yx|apply Yq|apply Y1|apply Yn|apply Ys
 refine W.condF rfl rfl ?_
 apply Yk
 apply Y3
 iterate 3 refine Yp rfl ?_
 refine S.makeEmpty tOk (zd := [.str []]) 2 rfl rfl rfl rfl rfl rfl rfl (by decide) rfl rfl ?_
 iterate 12 first|refine Yp rfl ?_|apply Yb|refine S.store tOk rfl rfl rfl rfl rfl rfl rfl rfl ?_|refine S.alloc tOk rfl rfl rfl rfl ?_|apply Y1|apply Yn|apply Ys
 refine W.rounds 3 ?_
 refine WR.succ ?_
 apply Ys
 apply Y1
 iterate 2 refine Yp rfl ?_
 apply Yn
 refine W.condT rfl rfl ?_
 apply Yk
 apply Yn
 apply Ys
 apply Yb
 apply Y1
 iterate 2 refine Yp rfl ?_
 refine YP rfl (by first | rfl | exact idx_ok (by omega) (by omega)) rfl ?_
 refine Yp rfl ?_
 refine YP rfl (by first | rfl | exact idx_ok (by omega) (by omega)) rfl ?_
 iterate 5 first|refine Yp rfl ?_|apply Y3
 refine YP rfl (by first | rfl | exact idx_ok (by omega) (by omega)) rfl ?_
 iterate 7 first|refine Yp rfl ?_|apply Y1|apply Ys|apply Yn
 refine YP rfl (by first | rfl | exact idx_ok (by omega) (by omega)) rfl ?_
 refine Yp rfl ?_
 refine S.isNilD tOk true (.inl ⟨rfl, rfl⟩) rfl rfl rfl ?_
 apply Yn
 refine W.condT rfl rfl ?_
 apply Yr
 iterate 3 refine Yp rfl ?_
 refine S.slice tOk rfl rfl ?_
 refine S.convVec tOk [34] rfl rfl rfl rfl rfl rfl rfl (by decide) ?_
 refine S.slice tOk rfl rfl ?_
 refine S.append tOk rfl rfl rfl rfl rfl rfl rfl rfl rfl rfl rfl rfl (by decide) rfl (rfl) rfl ?_
 iterate 5 first|refine Yp rfl ?_|refine S.store tOk rfl rfl rfl rfl rfl rfl rfl rfl ?_|apply Y4
 refine S.convBytes tOk [92, 34] rfl rfl rfl rfl rfl rfl rfl ?_
 refine Yp rfl ?_
 refine YP rfl (by first | rfl | exact idx_ok (by omega) (by omega)) rfl ?_
 refine S.store tOk rfl rfl rfl rfl rfl rfl rfl rfl ?_
 apply Yw
 apply Y4
 iterate 3 refine Yp rfl ?_
 apply Yn
 refine WR.succ ?_
 apply Ys
 apply Y1
 iterate 2 refine Yp rfl ?_
 apply Yn
 refine W.condT rfl rfl ?_
 apply Yk
 apply Yn
 apply Ys
 apply Yb
 apply Y1
 iterate 2 refine Yp rfl ?_
 refine YP rfl (by first | rfl | exact idx_ok (by omega) (by omega)) rfl ?_
 refine Yp rfl ?_
 refine YP rfl (by first | rfl | exact idx_ok (by omega) (by omega)) rfl ?_
 iterate 5 first|refine Yp rfl ?_|apply Y3
 refine YP rfl (by first | rfl | exact idx_ok (by omega) (by omega)) rfl ?_
 iterate 7 first|refine Yp rfl ?_|apply Y1|apply Ys|apply Yn
 refine YP rfl (by first | rfl | exact idx_ok (by omega) (by omega)) rfl ?_
 refine Yp rfl ?_
 refine S.isNilD tOk true (.inl ⟨rfl, rfl⟩) rfl rfl rfl ?_
 apply Yn
 refine W.condT rfl rfl ?_
 apply Yr
 iterate 3 refine Yp rfl ?_
 refine S.slice tOk rfl rfl ?_
 refine S.convVec tOk [92] rfl rfl rfl rfl rfl rfl rfl (by decide) ?_
 refine S.slice tOk rfl rfl ?_
 refine S.append tOk rfl rfl rfl rfl rfl rfl rfl rfl rfl rfl rfl rfl (by decide) rfl (rfl) rfl ?_
 iterate 5 first|refine Yp rfl ?_|refine S.store tOk rfl rfl rfl rfl rfl rfl rfl rfl ?_|apply Y4
 refine S.convBytes tOk [92, 92] rfl rfl rfl rfl rfl rfl rfl ?_
 refine Yp rfl ?_
 refine YP rfl (by first | rfl | exact idx_ok (by omega) (by omega)) rfl ?_
 refine S.store tOk rfl rfl rfl rfl rfl rfl rfl rfl ?_
 apply Yw
 apply Y4
 iterate 3 refine Yp rfl ?_
 apply Yn
 refine WR.succ ?_
 apply Ys
 apply Y1
 iterate 2 refine Yp rfl ?_
 apply Yn
 refine W.condF rfl rfl ?_
 apply Yq
 apply Ye
 apply Ye
 apply Yx
 apply Y3
 refine S.makeIfc Tryz.underlying265 rfl rfl ?_
 refine Yp rfl ?_
 apply Yn
 apply Yt
 exact ⟨_, rfl, rfl, LeG.refl _, rfl, rfl, rfl⟩
theorem pc_buildOnce  :
  HCall Tryz.prog J 178 ([.one (.ptr 0 0)]) ([[.d (.int .u32 0), .d (.int .i32 1), .d (.int .u32 0), .d (.err true), .d (.vec 1 [[.str [92]], [.str [92, 92]], [.str [34]], [.str [92, 34]]])]]) ([]) ([]) (isH (.tup []) ([[.d (.int .u32 0), .d (.int .i32 1), .d (.int .u32 0), .wr (.ifc 265) 1 0, .d .nilsl], bsr]) ([some ⟨true, 2, 1, 9, [[.str [34]], [.str [92]]]⟩]) ([])) := by
 refine HCall.ofD tOk ⟨2, 1, 0⟩ (fn := Tryz.f178) Tryz.func178 (by kernel_rfl) rfl (Nat.le_of_ble_eq_true rfl) (fun E => ?_)
 apply Y1
 iterate 2 refine Yp rfl ?_
 refine S.hcallD rfl rfl rfl rfl (pc_build) ?_
 iterate 8 first|refine Yp rfl ?_|refine S.store tOk rfl rfl rfl rfl rfl rfl rfl rfl ?_|apply Y4
 exact ⟨_, rfl, rfl, LeG.refl _, rfl, rfl, rfl⟩
theorem pc_doSlow : HCall Tryz.prog J 206 [.one (.ptr 0 0), .one (.wr (.bnd 178) 0 0)] [[.d (.int .u32 0), .d (.int .i32 0), .d (.int .u32 0), .d (.err true), .d (.vec 1 [[.str [92]], [.str [92, 92]], [.str [34]], [.str [92, 34]]])]] [] [] (isH (.tup []) [[.d (.int .u32 1), .d (.int .i32 0), .d (.int .u32 0), .wr (.ifc 265) 1 0, .d .nilsl], bsr] [some ⟨true, 2, 1, 9, [[.str [34]], [.str [92]]]⟩] []) := by
 refine HCall.once (b1 := [[.d (.int .u32 0), .d (.int .i32 1), .d (.int .u32 0), .wr (.ifc 265) 1 0, .d .nilsl], bsr]) (b2 := [[.d (.int .u32 1), .d (.int .i32 1), .d (.int .u32 0), .wr (.ifc 265) 1 0, .d .nilsl], bsr]) (m1 := []) [_, _, _, _] [_, _, _] [_, _, _, _, _] [_, _, _] [_, _] Tryz.func206 (by kernel_rfl) rfl (Nat.le_of_ble_eq_true rfl) rfl (Nat.zero_lt_succ _) (Nat.zero_lt_succ _) (Nat.zero_lt_succ _) (fun E => ?_) (pc_DStore 1 _ _ bsr _) (pc_DUnlock 1 _ _ bsr _)
 refine S.pure tOk zOk rfl rfl rfl ?_
 refine S.pure tOk zOk rfl rfl rfl ?_
 refine S.pure tOk zOk rfl rfl rfl ?_
 refine S.hcallD rfl rfl rfl rfl (pc_MLock 0 _ _) ?_
 refine S.pure tOk zOk rfl rfl rfl ?_
 refine S.pure tOk zOk rfl rfl rfl ?_
 refine S.pure tOk zOk rfl rfl rfl ?_
 refine ⟨rfl, ?_⟩
 refine S.pure tOk zOk rfl rfl rfl ?_
 refine S.pure tOk zOk rfl rfl rfl ?_
 refine S.pure tOk zOk rfl rfl rfl ?_
 refine S.hcallD rfl rfl rfl rfl (pc_BLoad 1 _ _) ?_
 refine S.pure tOk zOk rfl rfl rfl ?_
 refine ⟨rfl, ?_⟩
 refine S.pure tOk zOk rfl rfl rfl ?_
 refine S.pure tOk zOk rfl rfl rfl ?_
 refine S.pure tOk zOk rfl rfl rfl ?_
 refine ⟨rfl, ?_⟩
 refine S.pure tOk zOk rfl rfl rfl ?_
 refine S.callBnd rfl pc_buildOnce ?_
 exact ⟨rfl, rfl, rfl⟩
theorem pc_Do  :
  HCall Tryz.prog J 177 ([.one (.ptr 0 0), .one (.wr (.bnd 178) 0 0)]) ([[.d (.int .u32 0), .d (.int .i32 0), .d (.int .u32 0), .d (.err true), .d (.vec 1 [[.str [92]], [.str [92, 92]], [.str [34]], [.str [92, 34]]])]]) ([]) ([]) (isH (.tup []) ([[.d (.int .u32 1), .d (.int .i32 0), .d (.int .u32 0), .wr (.ifc 265) 1 0, .d .nilsl], bsr]) ([some ⟨true, 2, 1, 9, [[.str [34]], [.str [92]]]⟩]) ([])) := by
 refine HCall.ofD tOk ⟨2, 1, 0⟩ (fn := Tryz.f177) Tryz.func177 (by kernel_rfl) rfl (Nat.le_of_ble_eq_true rfl) (fun E => ?_)
 apply Y1
 iterate 3 refine Yp rfl ?_
 refine S.hcallD rfl rfl rfl rfl (pc_BLoad 0 _ _) ?_
 refine Yp rfl ?_
 apply Yn
 refine W.condT rfl rfl ?_
 apply Yr
 iterate 2 refine Yp rfl ?_
 refine S.hcallD rfl rfl rfl rfl (pc_doSlow) ?_
 exact ⟨_, rfl, rfl, LeG.refl _, rfl, rfl, rfl⟩
theorem pc_NewReplacer  :
  HCall Tryz.prog J 131 ([.one (.d (.vec 1 [[.str [92]], [.str [92, 92]], [.str [34]], [.str [92, 34]]]))]) ([]) ([]) ([]) (isH (.one (.ptr 0 0)) ([[.d (.int .u32 0), .d (.int .i32 0), .d (.int .u32 0), .d (.err true), .d (.vec 1 [[.str [92]], [.str [92, 92]], [.str [34]], [.str [92, 34]]])]]) ([]) ([])) := by
 refine HCall.ofD tOk ⟨1, 0, 0⟩ (fn := Tryz.f131) Tryz.func131 (by kernel_rfl) rfl (Nat.le_of_ble_eq_true rfl) (fun E => ?_)
 iterate 10 first|refine Yp rfl ?_|apply Y1|apply Yn|apply Ys
 refine W.condF rfl rfl ?_
 apply Yk
 apply Y3
 refine Yp rfl ?_
 refine S.appendNil tOk (news := [.str [92], .str [92, 92], .str [34], .str [92, 34]]) rfl rfl rfl rfl rfl rfl (by decide) (by decide) ?_
 iterate 5 first|refine Yp rfl ?_|apply Yt|refine S.box rfl rfl rfl rfl ?_|apply Yn
 exact ⟨_, rfl, rfl, LeG.refl _, rfl, rfl, rfl⟩
theorem bsr_row {off : Nat} (h : off = 256) : bsr[off]? = some (.row 0 2 0 2) := by subst h; rfl
theorem bsr_34 {off : Nat} (h : off = 34) : bsr[off]? = some (.d (.vec 1 (byteRow [92, 34]))) := by subst h; rfl
theorem bsr_92 {off : Nat} (h : off = 92) : bsr[off]? = some (.d (.vec 1 (byteRow [92, 92]))) := by subst h; rfl
theorem replD_s {c : UInt8} (h : spec c = true) : replD c = .vec 1 (byteRow [92, c]) := by
  unfold spec at h
  unfold replD
  by_cases h1 : c = 92
  · subst h1; rfl
  · have e1 : (c == 92) = false := by simpa using h1
    rw [e1] at h ⊢
    have e2 : (c == 34) = true := by simpa using h
    rw [e2]
    have : c = 34 := by simpa using e2
    subst this; rfl
theorem replD_n {c : UInt8} (h : spec c = false) : replD c = .nilsl := by
 unfold spec at h
 rw [Bool.or_eq_false_iff] at h
 unfold replD
 rw [h.1, h.2]; rfl
theorem replD_nil (c : UInt8) : isNil (replD c) (!spec c) := by
 cases h : spec c with
 | true => exact .inr ⟨1, _, _, replD_s h, rfl⟩
 | false => exact .inl ⟨replD_n h, rfl⟩
theorem bsr_at (c : UInt8) {off : Nat} (h : off = c.toNat) : bsr[off]? = some (.d (replD c)) := by
  subst h
  have hc : c.toNat < 256 := c.toNat_lt
  by_cases h1 : c = 92
  · subst h1; rfl
  · by_cases h2 : c = 34
    · subst h2; rfl
    · have n1 : c.toNat ≠ 92 := fun h => h1 (UInt8.toNat_inj.1 h)
      have n2 : c.toNat ≠ 34 := fun h => h2 (UInt8.toNat_inj.1 h)
      rw [replD_n (by unfold spec; rw [show (c == 92) = false by simpa using h1, show (c == 34) = false by simpa using h2]; rfl)]
      generalize c.toNat = n at *
      unfold bsr
      by_cases a1 : n < 34
      · rw [List.getElem?_append_left (by simpa using a1), List.getElem?_replicate, if_pos a1]
      · rw [List.getElem?_append_right (by simp; omega)]
        obtain ⟨k, hk⟩ : ∃ k, n - (List.replicate 34 (C.d D.nilsl)).length = k + 1 := ⟨n - 35, by simp; omega⟩
        rw [hk, List.getElem?_cons_succ]
        have hk' : n = k + 35 := by simp at hk; omega
        by_cases a2 : k < 57
        · rw [List.getElem?_append_left (by simpa using a2), List.getElem?_replicate, if_pos a2]
        · rw [List.getElem?_append_right (by simp; omega)]
          obtain ⟨j, hj⟩ : ∃ j, k - (List.replicate 57 (C.d D.nilsl)).length = j + 1 := ⟨k - 58, by simp; omega⟩
          rw [hj, List.getElem?_cons_succ]
          have hj' : k = j + 58 := by simp at hj; omega
          rw [List.getElem?_append_left (by simp; omega), List.getElem?_replicate, if_pos (by omega)]
theorem bsr_sp {c : UInt8} (hs : spec c = true) {off : Nat} (h : off = c.toNat) : bsr[off]? = some (.d (.vec 1 (byteRow [92, c]))) := by rw [bsr_at c h, replD_s hs]
theorem arr_ok (c : UInt8) : (decide (0 ≤ (c.toNat : Int)) && decide ((c.toNat : Int) < ((256 : Nat) : Int))) = true := by
 have : c.toNat < 256 := c.toNat_lt
 simp; omega
theorem len_m1 (c : UInt8) : V.one (.d (.int .i64 (IntKind.i64.wrap (((byteRow [92, c]).length : Int) - 1)))) = V.one (.d (.int .i64 1)) := rfl
theorem mul_1 {x : Int} (h0 : 0 ≤ x) (h1 : x ≤ 4611686018427387904) : V.one (.d (.int .i64 (IntKind.i64.wrap (x * 1)))) = V.one (.d (.int .i64 x)) := by rw [Int.mul_one, wrap_i64 (by omega) (by omega)]
theorem add_i {x y : Int} (h0 : 0 ≤ x + y) (h1 : x + y ≤ 4611686018427387904) : V.one (.d (.int .i64 (IntKind.i64.wrap (x + y)))) = V.one (.d (.int .i64 (x + y))) := by rw [wrap_i64 (by omega) (by omega)]
theorem len_is {z : Int} {k : Nat} (h : z = (k : Int)) : V.one (.d (.int .i64 z)) = V.one (.d (.int .i64 (k : Int))) := by rw [h]
theorem len_eq {j k : Nat} (h : j = k) : V.one (.d (.int .i64 (j : Int))) = V.one (.d (.int .i64 (k : Int))) := by rw [h]
theorem bool_eq {j k : Bool} (h : j = k) : V.one (.d (.bool j)) = V.one (.d (.bool k)) := by rw [h]
theorem nn {b : Bool} (h : (!!b) = true) : b = true := by simpa using h
theorem nf {b : Bool} (h : (!!b) = false) : b = false := by simpa using h
theorem esc_2 {s : L8} {i : Nat} (hi : i < s.length) (h : spec (s.getD i 0) = true) : (escB (s.take (i + 1))).length = (escB (s.take i)).length + 2 := by rw [esc_take hi, List.length_append, esc1_len, if_pos h]
theorem esc_1 {s : L8} {i : Nat} (hi : i < s.length) (h : spec (s.getD i 0) = false) : (escB (s.take (i + 1))).length = (escB (s.take i)).length + 1 := by rw [esc_take hi, List.length_append, esc1_len, if_neg (by rw [h]; simp)]
theorem esc_add {s : L8} {i : Nat} (hi : i < s.length) (h : spec (s.getD i 0) = true) (hs : s.length ≤ 4000000) : V.one (.d (.int .i64 (IntKind.i64.wrap (((escB (s.take i)).length : Int) + ((2 : Nat) : Int))))) = V.one (.d (.int .i64 ((escB (s.take (i + 1))).length : Int))) := by
 have h1 := escTake_le (s := s) i
 have h2 := esc_le s
 rw [esc_2 hi h, wrap_i64 (by omega) (by omega)]; rfl
theorem esc_inc {s : L8} {i : Nat} (hi : i < s.length) (h : spec (s.getD i 0) = false) (hs : s.length ≤ 4000000) : V.one (.d (.int .i64 (IntKind.i64.wrap (((escB (s.take i)).length : Int) + 1)))) = V.one (.d (.int .i64 ((escB (s.take (i + 1))).length : Int))) := by
 have h1 := escTake_le (s := s) i
 have h2 := esc_le s
 rw [esc_1 hi h]; exact inc_i64 (by omega)
theorem fill_set {s : L8} {i k : Nat} (hk : k = (escB (s.take i)).length) (hi : i < s.length) (h : spec (s.getD i 0) = false) : (fillTo s i).set k (putD ((fillTo s i).getD k []) 0 [.int .u8 ((s.getD i 0).toNat : Int)]) = fillTo s (i + 1) := by
 subst hk
 obtain ⟨x, hx, rfl⟩ := fill_at hi
 rw [List.getD_eq_getElem?_getD, hx]
 exact fill_n hi h
end
end Go.Proofs.YtfcdmcdhhikhaaaGreatDoor
