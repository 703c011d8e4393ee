/- AlwaysMatches: where what it reads is of bulk at most 1048576, it returns true, and what it was given reads as it did. -/
import Derived.Test.YtfcdmcdhhikhaaaGreatDoorRows
import Derived.Lib.LaidTab
import Derived.Carry
import Derived.ChangeSame
import Derived.OpenVars
import Derived.OpenShut
import Derived.WalkKit
import Derived.ProofKit
import Derived.Deep.DeepHandedRow
import Derived.Test.YtfcdmcdhhikhaaaGreatDoorCards
import Derived.Test.YtfcdmcdhhikhaaaGreatDoorTie
import Derived.Lib.LaidU8
import Derived.Shelf.Vars
import Derived.Deep.DeepLaidRun
import Derived.Test.YtfcdmcdhhikhaaaGreatDoorMCAlwaysMatches3
set_option linter.unusedVariables false
set_option linter.unusedSimpArgs false
set_option maxRecDepth 100000
set_option maxHeartbeats 4000000
namespace Go.Proofs.YtfcdmcdhhikhaaaGreatDoor
section
open Go
open Go.RowKit
attribute [local irreducible] thenK blockK W
attribute [local irreducible] rangeB rangeR pathB nameB valueB visit visits checkP sortS useK useL
def strE (s : L8) : List D := [.str s]
def eqRZ (x y : L8) : Bool := x == y
def cqZ (l : List L8) (n : Nat) : List L8 := compactF eqRZ (l.take n)
def rowCZ (l : List L8) (n : Nat) : List L8 := cqZ l n ++ l.drop (cqZ l n).length
def padCZ (l : List L8) : List L8 := compactF eqRZ l ++ List.replicate (l.length - (compactF eqRZ l).length) ([] : L8)
theorem compactG_lenZ {α : Type} {eq : α → α → Bool} : ∀ {l : List α} {p : α}, (compactG eq p l).length ≤ l.length
  | [], _ => Nat.le_refl _
  | y :: l, p => by
    unfold compactG
    split
    · have := compactG_lenZ (eq := eq) (l := l) (p := y); simp; omega
    · have := compactG_lenZ (eq := eq) (l := l) (p := y); simp; omega
theorem compactF_lenZ {α : Type} {eq : α → α → Bool} {l : List α} : (compactF eq l).length ≤ l.length := by
 cases l with
 | nil => exact Nat.le_refl _
 | cons x l => have := compactG_lenZ (eq := eq) (l := l) (p := x); simp [compactF]; omega
theorem compactG_snocZ {α : Type} {eq : α → α → Bool} {y : α} : ∀ {l : List α} {p : α}, compactG eq p (l ++ [y]) = if eq y (l.getLastD p) then compactG eq p l else compactG eq p l ++ [y]
  | [], p => by simp [compactG]
  | z :: l, p => by
    have ih := compactG_snocZ (eq := eq) (y := y) (l := l) (p := z)
    have e : (z :: l).getLastD p = l.getLastD z := by cases l <;> rfl
    rw [e, List.cons_append]
    unfold compactG
    split
    · exact ih
    · rw [ih]; split <;> rfl
theorem cq_sZ {l : List L8} {n : Nat} (h0 : 1 ≤ n) (h : n < l.length) : cqZ l (n + 1) = if eqRZ (l.getD n ([] : L8)) (l.getD (n - 1) ([] : L8)) then cqZ l n else cqZ l n ++ [l.getD n ([] : L8)] := by
 unfold cqZ
 rw [take_getD (d := ([] : L8)) h]
 cases l with
 | nil => simp at h
 | cons x l =>
  obtain ⟨k, rfl⟩ : ∃ k, n = k + 1 := ⟨n - 1, by omega⟩
  have e : (x :: l).getD (k + 1 - 1) ([] : L8) = (l.take k).getLastD x := by
   rw [Nat.add_sub_cancel]
   cases k with
   | zero => simp
   | succ k =>
    have hk : k < l.length := by simp at h; omega
    rw [take_getD (d := ([] : L8)) hk]
    simp
  rw [e, List.take_succ_cons, List.cons_append]
  show x :: compactG eqRZ x _ = if _ then x :: compactG eqRZ x _ else x :: compactG eqRZ x _ ++ [_]
  rw [compactG_snocZ]
  split <;> rfl
theorem cq_tZ {l : List L8} {n : Nat} (h0 : 1 ≤ n) (h : n < l.length) (c : eqRZ (l.getD n ([] : L8)) (l.getD (n - 1) ([] : L8)) = true) : cqZ l (n + 1) = cqZ l n := by rw [cq_sZ h0 h, if_pos c]
theorem cq_fZ {l : List L8} {n : Nat} (h0 : 1 ≤ n) (h : n < l.length) (c : eqRZ (l.getD n ([] : L8)) (l.getD (n - 1) ([] : L8)) = false) : cqZ l (n + 1) = cqZ l n ++ [l.getD n ([] : L8)] := by rw [cq_sZ h0 h, if_neg (by rw [c]; simp)]
theorem cq_1Z (l : List L8) : cqZ l 1 = l.take 1 := by cases l <;> rfl
theorem cq_leZ (l : List L8) (n : Nat) : (cqZ l n).length ≤ n := by
 have := compactF_lenZ (eq := eqRZ) (l := l.take n)
 simp at this
 unfold cqZ; omega
theorem cq_allZ {l : List L8} {n : Nat} (h : l.length ≤ n) : cqZ l n = compactF eqRZ l := by unfold cqZ; rw [List.take_of_length_le h]
theorem rowC_lenZ {l : List L8} {n : Nat} (h : n ≤ l.length) : (rowCZ l n).length = l.length := by
 have := cq_leZ l n
 unfold rowCZ; simp; omega
theorem rowC_getZ {l : List L8} {n p : Nat} (h : (cqZ l n).length ≤ p) : (rowCZ l n).getD p ([] : L8) = l.getD p ([] : L8) := by
 unfold rowCZ
 rw [List.getD_eq_getElem?_getD, List.getElem?_append_right h, List.getElem?_drop, show (cqZ l n).length + (p - (cqZ l n).length) = p by omega, List.getD_eq_getElem?_getD]
theorem mapD_getZ {l : List L8} {p : Nat} (h : p < l.length) : (l.map strE).getD p [] = strE (l.getD p ([] : L8)) := by
 rw [List.getD_eq_getElem?_getD, List.getElem?_map, List.getElem?_eq_getElem h, List.getD_eq_getElem?_getD, List.getElem?_eq_getElem h]; rfl
theorem row_at0Z {l : List L8} {i : Nat} (h : i < l.length) : (l.map strE).getD (0 + ((i : Int)).toNat) [] = strE (l.getD i ([] : L8)) := by
 rw [Nat.zero_add, Int.toNat_natCast]; exact mapD_getZ h
theorem row_at2Z {l : List L8} {k j n : Nat} (hn : n ≤ l.length) (hk : k + j < l.length) (hc : (cqZ l n).length ≤ k + j) : ((rowCZ l n).map strE).getD (k + ((j : Int)).toNat) [] = strE (l.getD (k + j) ([] : L8)) := by
 rw [Int.toNat_natCast, mapD_getZ (by rw [rowC_lenZ hn]; exact hk), rowC_getZ hc]
theorem row_at3Z {l : List L8} {k j n : Nat} (hn : n ≤ l.length) (h1 : 1 ≤ j) (hk : k + j < l.length) (hc : (cqZ l n).length < k + j) : ((rowCZ l n).map strE).getD (k + (((j - 1 : Nat) : Int)).toNat) [] = strE (l.getD (k + j - 1) ([] : L8)) := by
 rw [row_at2Z hn (by omega) (by omega), show k + (j - 1) = k + j - 1 by omega]
theorem ix_okZ {i n : Nat} (h : i < n) : (decide (0 ≤ (i : Int)) && decide ((i : Int) < (n : Int))) = true := by simp; omega
theorem rowC_firstZ {l : List L8} {k : Nat} (hk : k < l.length) (h0 : 1 ≤ k) (hq : cqZ l k = l.take k) (c : eqRZ (l.getD k ([] : L8)) (l.getD (k - 1) ([] : L8)) = true) : rowCZ l (k + 1) = l ∧ (cqZ l (k + 1)).length = k := by
 have e : cqZ l (k + 1) = l.take k := by rw [cq_tZ h0 hk c, hq]
 have e2 : (l.take k).length = k := by simp; omega
 unfold rowCZ
 rw [e, e2]
 exact ⟨List.take_append_drop _ _, rfl⟩
theorem rowC_tZ {l : List L8} {n : Nat} (h0 : 1 ≤ n) (h : n < l.length) (c : eqRZ (l.getD n ([] : L8)) (l.getD (n - 1) ([] : L8)) = true) : rowCZ l (n + 1) = rowCZ l n := by unfold rowCZ; rw [cq_tZ h0 h c]
theorem rowC_fZ {l : List L8} {n : Nat} (h0 : 1 ≤ n) (h : n < l.length) (hl : (cqZ l n).length < l.length) (c : eqRZ (l.getD n ([] : L8)) (l.getD (n - 1) ([] : L8)) = false) : (rowCZ l n).set (cqZ l n).length (l.getD n ([] : L8)) = rowCZ l (n + 1) := by
 unfold rowCZ
 rw [cq_fZ h0 h c, List.set_append_right _ _ (Nat.le_refl _), Nat.sub_self, List.append_assoc]
 congr 1
 rw [List.drop_eq_getElem_cons hl, List.set_cons_zero]
 simp
theorem row_setZ {l : List L8} {n : Nat} (h0 : 1 ≤ n) (h : n < l.length) (hl : (cqZ l n).length < l.length) (c : eqRZ (l.getD n ([] : L8)) (l.getD (n - 1) ([] : L8)) = false) :
  ((rowCZ l n).map strE).set (0 + (((cqZ l n).length : Nat) : Int).toNat) (putD (((rowCZ l n).map strE).getD (0 + (((cqZ l n).length : Nat) : Int).toNat) []) 0 (strE (l.getD n ([] : L8)))) = (rowCZ l (n + 1)).map strE := by
 rw [Nat.zero_add, Int.toNat_natCast, mapD_getZ (by rw [rowC_lenZ (by omega)]; exact hl)]
 have e : putD (strE ((rowCZ l n).getD (cqZ l n).length ([] : L8))) 0 (strE (l.getD n ([] : L8))) = strE (l.getD n ([] : L8)) := rfl
 rw [e, ← rowC_fZ h0 h hl c, List.map_set]
theorem clear_rowZ {l : List L8} : ((compactF eqRZ l ++ l.drop (compactF eqRZ l).length).map strE).take (compactF eqRZ l).length ++ List.replicate (l.length - (compactF eqRZ l).length) (strE ([] : L8))
  ++ ((compactF eqRZ l ++ l.drop (compactF eqRZ l).length).map strE).drop ((compactF eqRZ l).length + (l.length - (compactF eqRZ l).length)) = (padCZ l).map strE := by
 have h := compactF_lenZ (eq := eqRZ) (l := l)
 unfold padCZ
 rw [List.map_append, List.map_append, List.map_replicate, List.take_left' (by simp), List.drop_eq_nil_of_le (by simp <;> omega), List.append_nil]
theorem pad_sameZ {l : List L8} (h : compactF eqRZ l = l) : padCZ l = l := by unfold padCZ; rw [h, Nat.sub_self]; simp
theorem compact_smallZ {l : List L8} (h : l.length < 2) : compactF eqRZ l = l := by
 match l, h with
 | [], _ => rfl
 | [x], _ => rfl
 | x :: y :: l, h => simp at h; omega
theorem add_1Z {n : Nat} (h : n ≤ 2000000) : V.one (.d (.int .i64 (IntKind.i64.wrap ((n : Int) + 1)))) = V.one (.d (.int .i64 ((n + 1 : Nat) : Int))) := by
 rw [wrap_i64 (by omega) (by omega)]; rfl
theorem cmG_eq : ∀ (l : List L8) (p : L8), compactG eqRZ p l = cmG p l
  | [], p => rfl
  | y :: l, p => by
    unfold compactG cmG
    rw [cmG_eq l y]; rfl
theorem cmS_eq : ∀ l : List L8, compactF eqRZ l = cmS l
 | [] => rfl
 | x :: l => congrArg (x :: ·) (cmG_eq l x)
theorem padZ_take (l : List L8) : ((padCZ l).map strE).take (compactF eqRZ l).length = (cmS l).map strE := by
 unfold padCZ
 rw [List.map_append, List.take_left' (by simp), cmS_eq]
theorem snocE (s : List L8) (q : L8) : s.map strE ++ [[D.str q]] = (s ++ [q]).map strE := by simp [strE]
theorem pc_CompactS (l : List L8) (al : Bool) (hl : l.length ≤ 2000000) :
  HCall Tryz.prog J 58 ([.one (.row 0 0 0 l.length)]) ([]) ([some ⟨al, 0, 1, 9, (l).map strE⟩]) ([]) (isH (.one (.row 0 0 0 (compactF eqRZ l).length)) ([]) ([some ⟨al, 0, 1, 9, (padCZ l).map strE⟩]) ([])) := by
 refine HCall.ofD tOk ⟨0, 1, 0⟩ (fn := Tryz.f58) Tryz.func58 (by kernel_rfl) rfl (Nat.le_of_ble_eq_true rfl) (fun E => ?_)
 iterate 9 first|refine Yp rfl ?_|apply Y1|apply Yn|apply Ys
 refine W.cond rfl (fun c1=>?_) fun c1=>?_
 ·skip
  have hs : compactF eqRZ l = l := compact_smallZ (by simp at c1; omega)
  iterate 6 first|refine Yp rfl ?_|apply Yu|apply Yt|apply Y1|apply Yn
  exact ⟨_, rfl, rfl, (by rw [hs]; exact LeG.refl _), rfl, (by rw [pad_sameZ hs]; rfl), rfl⟩
 apply Yk
 apply Yn
 apply Ys
 apply Y1
 refine Yp rfl ?_
 apply Yn
 apply Yb
 refine W.loop (fun k st => ∃ a : Nat, 1 ≤ a ∧ a ≤ l.length ∧ cqZ l a = l.take a ∧ k = l.length - a ∧ ∃ t b2 r2 m2, st = ⟨t, [] ++ b2, [some ⟨al, 0, 1, 9, (l).map strE⟩] ++ r2, [] ++ m2⟩ ∧ holdsL t [(0, .one (.row 0 0 0 l.length)), (3, .one (.d (.int .i64 (a : Int))))]) (l.length - 1) ⟨1, Nat.le_refl _, (by simp at c1; omega), cq_1Z l, rfl, _, _, _, _, rfl, rfl, rfl, trivial⟩ ?_
 rintro k0 _ ⟨a, f0_0, f0_1, f0_2, rfl, t0, bb0, rr0, mm0, rfl, hh0⟩
 refine W.keepR _ _ _ _ _ _ _ hh0 rfl ?_
 apply Ys
 apply Y1
 iterate 4 refine Yp rfl ?_
 apply Yn
 refine W.cond rfl (fun c2=>?_) fun c2=>?_
 ·skip
  have hk : a < l.length := by simpa using c2
  iterate 5 first|apply Yb|apply Yk|apply Ys|apply Yn
  refine W.regionD mixed (by kernel_rfl) ?_
  iterate 2 refine Ym rfl rfl ?_
  refine D.pure tOk zOk rfl rfl (ix_okZ hk) rfl ?_
  refine D.rload tOk rfl rfl rfl (row_at0Z hk) rfl rfl ?_
  iterate 2 refine Ym rfl rfl ?_
  refine D.pureE tOk zOk rfl rfl rfl (dec_i64 (by simp; omega) (by omega)) rfl ?_
  refine D.pure tOk zOk rfl rfl (ix_okZ (by omega)) rfl ?_
  refine D.rload tOk rfl rfl rfl (row_at0Z (by omega)) rfl rfl ?_
  refine Ym rfl rfl ?_
  apply Yn
  refine W.cond rfl (fun c3=>?_) fun c3=>?_
  ·skip
   have c3 : eqRZ (l.getD a []) (l.getD (a - 1) []) = true := c3
   have hC := rowC_firstZ hk f0_0 f0_2 c3
   apply Y1
   iterate 2 refine Yp rfl ?_
   refine S.sliceRow tOk a l.length rfl rfl rfl rfl rfl rfl rfl rfl rfl rfl ⟨by omega, Nat.le_refl _, hk⟩ (Nat.zero_add a) rfl ?_
   iterate 6 first|refine Yp rfl ?_|apply Y1|apply Yn|apply Ys
   rw [show l.map strE = (rowCZ l (a + 1)).map strE from by rw [hC.1]]
   apply Yb
   refine W.loop (fun k st => ∃ j : Nat, 1 ≤ j ∧ a + j ≤ l.length ∧ (cqZ l (a + j)).length < a + j ∧ k = l.length - (a + j) ∧ ∃ t b2 r2 m2, st = ⟨t, [] ++ b2, [some ⟨al, 0, 1, 9, (rowCZ l (a + j)).map strE⟩] ++ r2, [] ++ m2⟩ ∧ holdsL t [(0, .one (.row 0 0 0 l.length)), (3, .one (.d (.int .i64 ((cqZ l (a + j)).length : Int)))), (4, .one (.row 0 0 a (l.length - a))), (5, .one (.d (.int .i64 (j : Int))))]) (l.length - (a + 1)) ⟨1, Nat.le_refl _, hk, (by rw [hC.2]; omega), rfl, _, _, _, _, rfl, rfl, (by rw [hC.2]; rfl), rfl, rfl, trivial⟩ ?_
   rintro k2 _ ⟨j, f2_0, f2_1, f2_2, rfl, t2, bb2, rr2, mm2, rfl, hh2⟩
   refine W.keepR _ _ _ _ _ _ _ hh2 rfl ?_
   iterate 7 first|refine Yp rfl ?_|apply Y1|apply Yn|apply Ys
   refine W.cond rfl (fun c4=>?_) fun c4=>?_
   ·skip
    have hj : a + j < l.length := by simp at c4; omega
    iterate 5 first|apply Yb|apply Yk|apply Ys|apply Yn
    refine W.regionD mixed (by kernel_rfl) ?_
    iterate 2 refine Ym rfl rfl ?_
    refine D.pure tOk zOk rfl rfl (ix_okZ (by omega)) rfl ?_
    refine D.rload tOk rfl rfl rfl (row_at2Z (by omega) hj (by omega)) rfl rfl ?_
    iterate 2 refine Ym rfl rfl ?_
    refine D.pureE tOk zOk rfl rfl rfl (dec_i64 (by simp; omega) (by omega)) rfl ?_
    refine D.pure tOk zOk rfl rfl (ix_okZ (by omega)) rfl ?_
    refine D.rload tOk rfl rfl rfl (row_at3Z (by omega) f2_0 hj f2_2) rfl rfl ?_
    refine Ym rfl rfl ?_
    apply Yn
    refine W.cond rfl (fun c5=>?_) fun c5=>?_
    ·skip
     have c5 : eqRZ (l.getD (a + j) []) (l.getD (a + j - 1) []) = false := by unfold eqRZ; simpa using c5
     apply Y1
     iterate 4 refine Yp rfl ?_
     refine YP rfl (ix_okZ (by omega)) rfl ?_
     refine S.rload tOk rfl rfl rfl (row_at2Z (by omega) hj (by omega)) rfl rfl ?_
     refine YP rfl (ix_okZ (by omega)) rfl ?_
     refine S.rstore tOk rfl rfl rfl rfl rfl rfl rfl (row_setZ (by omega) hj (by omega) c5) rfl ?_
     iterate 9 first|refine Yp rfl ?_|apply Yw|apply Y4
     first | rw [show rowCZ l (a + j) = rowCZ l (a + (j + 1)) from by rw [← Nat.add_assoc, rowC_tZ (by omega) hj c5]] | rw [show rowCZ l (a + j + 1) = rowCZ l (a + (j + 1)) from rfl]
     refine loop_n (l.length - (a + (j + 1))) (by omega) ⟨j + 1, (by omega), (by omega), (by rw [← Nat.add_assoc, cq_fZ (by omega) hj c5]; simp; omega), rfl, _, _, _, _, rfl, rfl, (by rw [← Nat.add_assoc, cq_fZ (by omega) hj c5]; simp only [List.length_append, List.length_cons, List.length_nil, Nat.zero_add]; first | rfl | exact add_1Z (by omega)), rfl, inc_i64 (by omega), trivial⟩
    have c5 : eqRZ (l.getD (a + j) []) (l.getD (a + j - 1) []) = true := by unfold eqRZ; simpa using c5
    iterate 6 first|refine Yp rfl ?_|apply Yw|apply Yk|apply Y4
    first | rw [show rowCZ l (a + j) = rowCZ l (a + (j + 1)) from by rw [← Nat.add_assoc, rowC_tZ (by omega) hj c5]] | rw [show rowCZ l (a + j + 1) = rowCZ l (a + (j + 1)) from rfl]
    refine loop_n (l.length - (a + (j + 1))) (by omega) ⟨j + 1, (by omega), (by omega), (by rw [← Nat.add_assoc, cq_tZ (by omega) hj c5]; omega), rfl, _, _, _, _, rfl, rfl, (by rw [← Nat.add_assoc, cq_tZ (by omega) hj c5]; rfl), rfl, inc_i64 (by omega), trivial⟩
   have hj : a + j = l.length := by simp at c4; omega
   have e1 := cq_allZ (l := l) (n := a + j) (by omega)
   have e2 : rowCZ l (a + j) = compactF eqRZ l ++ l.drop (compactF eqRZ l).length := by unfold rowCZ; rw [e1]
   rw [e1] at f2_2
   rw [e2, e1]
   have hcl : (compactF eqRZ l).length < l.length := by omega
   iterate 7 first|refine Yp rfl ?_|apply Ye|apply Yx|apply Yq|apply Y3
   refine S.sliceRow tOk (compactF eqRZ l).length l.length rfl rfl rfl rfl rfl rfl rfl rfl rfl rfl ⟨by omega, Nat.le_refl _, hcl⟩ (Nat.zero_add _) rfl ?_
   refine S.clearRow tOk (strE []) rfl rfl rfl rfl rfl rfl rfl (List.all_eq_true.1 rfl) clear_rowZ rfl ?_
   apply Y3
   iterate 2 refine Yp rfl ?_
   refine S.sliceRow tOk 0 (compactF eqRZ l).length rfl rfl rfl rfl rfl rfl rfl rfl rfl rfl ⟨by omega, by omega, by omega⟩ rfl rfl ?_
   iterate 8 first|apply Yu|apply Yv|apply Yt|refine Yp rfl ?_|apply Yn
   exact ⟨_, rfl, rfl, LeG.refl _, rfl, rfl, rfl⟩
  have c3 : eqRZ (l.getD a []) (l.getD (a - 1) []) = false := c3
  apply Yk
  apply Yw
  apply Y4
  iterate 3 refine Yp rfl ?_
  refine loop_n (l.length - (a + 1)) (by omega) ⟨a + 1, (by omega), (by omega), (by rw [cq_fZ f0_0 hk c3, f0_2, take_getD (d := ([] : L8)) hk]), rfl, _, _, _, _, rfl, rfl, inc_i64 (by omega), trivial⟩
 have hs : compactF eqRZ l = l := by rw [← cq_allZ (show l.length ≤ a by simpa using c2), f0_2, List.take_of_length_le (by simpa using c2)]
 iterate 9 first|refine Yp rfl ?_|apply Ye|apply Yt|apply Yx|apply Yq|apply Y3|apply Yn
 exact ⟨_, rfl, rfl, (by rw [hs]; exact LeG.refl _), rfl, (by rw [pad_sameZ hs]; rfl), rfl⟩
theorem pc_us1 (x : Int) (n v : L8) (xs : List (List D)) (hn : n.length < 4294967000) (lv : Int) (s : List L8) (hs : s.length ≤ 2000000) :
  HCall Tryz.prog J 56 ([.agg [.d (.int .i64 x), .d (.str n), .d (.str v), .d (.vec 4 xs)], .one (.d (.int .i64 lv)), .one (.ptr 0 0)]) ([[.row 0 (s).length 0 ((s).map strE).length]]) ([some ⟨!(s).isEmpty, (s).length, 1, 9, (s).map strE⟩]) ([]) (isH (.tup []) ([[.row 0 (s ++ (useK x n).toList).length 0 ((s ++ (useK x n).toList).map strE).length]]) ([some ⟨!(s ++ (useK x n).toList).isEmpty, (s ++ (useK x n).toList).length, 1, 9, (s ++ (useK x n).toList).map strE⟩]) ([])) := by
 refine HCall.ofD tOk ⟨1, 1, 0⟩ (fn := Tryz.f56) Tryz.func56 (by kernel_rfl) rfl (Nat.le_of_ble_eq_true rfl) (fun E => ?_)
 iterate 12 first|refine Yp rfl ?_|apply Yb|refine S.box rfl rfl rfl rfl ?_|apply Y1|apply Y3|apply Yn|apply Ys
 refine W.cond rfl (fun c1=>?_) fun c1=>?_
 ·skip
  apply Yk
  apply Yn
  refine W.cond rfl (fun c2=>?_) fun c2=>?_
  ·skip
   apply Yr
   iterate 3 refine Yp rfl ?_
   refine YP rfl (cat_ok (by simp [-List.getD_eq_getElem?_getD]; omega)) rfl ?_
   refine S.slice tOk rfl rfl ?_
   refine S.append tOk rfl rfl rfl rfl rfl rfl rfl rfl rfl rfl rfl rfl (by show _ + 1 ≤ _; rw [List.length_map]; omega) rfl (snocE _ _) rfl ?_
   refine S.store tOk rfl rfl rfl rfl rfl rfl rfl rfl ?_
   apply Yw
   exact ⟨_, rfl, rfl, LeG.refl _, (by rw [use_2 c1]; simp), (by rw [use_2 c1]; simp; first | done | exact ⟨by cases s <;> rfl, rfl⟩), rfl⟩
  exact absurd (c1.symm.trans c2) (by decide)
 apply Yr
 iterate 2 refine Yp rfl ?_
 apply Yn
 refine W.cond rfl (fun c3=>?_) fun c3=>?_
 ·skip
  apply Yr
  iterate 3 refine Yp rfl ?_
  refine YP rfl (cat_ok (by simp [-List.getD_eq_getElem?_getD]; omega)) rfl ?_
  refine S.slice tOk rfl rfl ?_
  refine S.append tOk rfl rfl rfl rfl rfl rfl rfl rfl rfl rfl rfl rfl (by show _ + 1 ≤ _; rw [List.length_map]; omega) rfl (snocE _ _) rfl ?_
  refine S.store tOk rfl rfl rfl rfl rfl rfl rfl rfl ?_
  apply Yw
  exact ⟨_, rfl, rfl, LeG.refl _, (by rw [use_5 c3]; simp), (by rw [use_5 c3]; simp; first | done | exact ⟨by cases s <;> rfl, rfl⟩), rfl⟩
 apply Ys
 apply Y1
 iterate 2 refine Yp rfl ?_
 apply Yn
 refine W.cond rfl (fun c4=>?_) fun c4=>?_
 ·skip
  apply Yk
  apply Yn
  refine W.cond rfl (fun c5=>?_) fun c5=>?_
  ·skip
   apply Yr
   iterate 3 refine Yp rfl ?_
   refine YP rfl (cat_ok (by simp [-List.getD_eq_getElem?_getD]; omega)) rfl ?_
   refine S.slice tOk rfl rfl ?_
   refine S.append tOk rfl rfl rfl rfl rfl rfl rfl rfl rfl rfl rfl rfl (by show _ + 1 ≤ _; rw [List.length_map]; omega) rfl (snocE _ _) rfl ?_
   refine S.store tOk rfl rfl rfl rfl rfl rfl rfl rfl ?_
   apply Yw
   exact ⟨_, rfl, rfl, LeG.refl _, (by rw [use_3 c1 c3 c4]; simp), (by rw [use_3 c1 c3 c4]; simp; first | done | exact ⟨by cases s <;> rfl, rfl⟩), rfl⟩
  exact absurd (c4.symm.trans c5) (by decide)
 apply Yr
 iterate 2 refine Yp rfl ?_
 apply Yn
 refine W.cond rfl (fun c6=>?_) fun c6=>?_
 ·skip
  apply Yr
  iterate 3 refine Yp rfl ?_
  refine YP rfl (cat_ok (by simp [-List.getD_eq_getElem?_getD]; omega)) rfl ?_
  refine S.slice tOk rfl rfl ?_
  refine S.append tOk rfl rfl rfl rfl rfl rfl rfl rfl rfl rfl rfl rfl (by show _ + 1 ≤ _; rw [List.length_map]; omega) rfl (snocE _ _) rfl ?_
  refine S.store tOk rfl rfl rfl rfl rfl rfl rfl rfl ?_
  apply Yw
  exact ⟨_, rfl, rfl, LeG.refl _, (by rw [use_4 c1 c3 c6]; simp), (by rw [use_4 c1 c3 c6]; simp; first | done | exact ⟨by cases s <;> rfl, rfl⟩), rfl⟩
 apply Yk
 apply Yw
 exact ⟨_, rfl, rfl, LeG.refl _, (by rw [use_0 c1 c3 c4 c6]; simp), (by rw [use_0 c1 c3 c4 c6]; simp; first | done | exact ⟨by cases s <;> rfl, rfl⟩), rfl⟩
theorem us_t (c : CT) (lv : Int) (s : List L8) : (visit usS c lv s).1 = true := by rw [visit_us]
theorem us_room {c : CT} {lv : Int} {s s1 : List L8} {i : Nat} (hi : i < c.l.length) (h : visits (fun a => visit usS a (up1 lv)) (c.l.take i) (usS c lv s).2 = (true, s1)) : s1.length + (c.l.getD i CT.z).w ≤ s.length + c.w := by
 rw [visits_runs _ _ _ _ (Nat.le_refl _), runs_us] at h
 have h1 : (usS c lv s).2 ++ useL (CT.pts (c.l.take i) (up1 lv)) = s1 := (Prod.mk.inj h).2
 have h2 := useL_le (CT.pts (c.l.take i) (up1 lv))
 rw [pts_len _ _ _ (Nat.le_refl _)] at h2
 have h3 : (useK c.k c.n).toList.length ≤ 1 := by cases useK c.k c.n <;> simp
 have h4 : CT.ws c.l = CT.ws (c.l.take i) + ((c.l.getD i CT.z).w + CT.ws (c.l.drop (i + 1))) := by
  conv => lhs; rw [← List.take_append_drop i c.l, ws_app]
  have : c.l.drop i = c.l.getD i CT.z :: c.l.drop (i + 1) := by
   rw [List.drop_eq_getElem_cons hi, List.getD_eq_getElem?_getD, List.getElem?_eq_getElem hi]; rfl
  rw [this]; rfl
 have h5 : c.w = CT.ws c.l + 1 := by cases c; rfl
 rw [← h1]
 show (s ++ (useK c.k c.n).toList ++ _).length + _ ≤ _
 simp only [List.length_append]
 omega
theorem pc_partsUs (c : CT) (lv : Int) (s : List L8) (hc : CtBig c) (hs : s.length + c.w ≤ 2000000) (ih : ∀ a ∈ c.l, ∀ (lv : Int) (s : List L8), CtBig a → s.length + a.w ≤ 2000000 → HCall Tryz.prog J 30 [ctV a, .one (.d (.int .i64 lv)), .one (.clo 56 [.ptr 0 0])] [[.row 0 (s).length 0 ((s).map strE).length]] [some ⟨!(s).isEmpty, (s).length, 1, 9, (s).map strE⟩] [] (isH (.tup []) [[.row 0 ((visit usS a lv s).2).length 0 (((visit usS a lv s).2).map strE).length]] [some ⟨!((visit usS a lv s).2).isEmpty, ((visit usS a lv s).2).length, 1, 9, ((visit usS a lv s).2).map strE⟩] [])) :
  HCall Tryz.prog J 30 ([ctV c, .one (.d (.int .i64 lv)), .one (.clo 56 [.ptr 0 0])]) ([[.row 0 (s).length 0 ((s).map strE).length]]) ([some ⟨!(s).isEmpty, (s).length, 1, 9, (s).map strE⟩]) ([]) (isH (.tup []) ([[.row 0 ((visit usS c lv s).2).length 0 (((visit usS c lv s).2).map strE).length]]) ([some ⟨!((visit usS c lv s).2).isEmpty, ((visit usS c lv s).2).length, 1, 9, ((visit usS c lv s).2).map strE⟩]) ([])) := by
 have hbig := hc.ll
 have hf : (usS c lv s).1 = true := rfl
 have hpos := c.pos
 unfold ctV
 rw [ds_map]
 have hlen : ((c.l.map CT.d).length : Int) = (c.l.length : Int) := by rw [List.length_map]
 refine HCall.ofD tOk ⟨1, 1, 0⟩ (fn := Tryz.f30) Tryz.func30 (by kernel_rfl) rfl (Nat.le_of_ble_eq_true rfl) (fun E => ?_)
 apply Y1
 refine S.box rfl rfl rfl rfl ?_
 apply Y3
 iterate 3 refine Yp rfl ?_
 refine S.hcallD rfl rfl rfl rfl ((pc_us1 c.k c.n c.v _ hc.n lv s (by omega)).fd [0] [0] [] rfl) ?_
 apply Y3
 iterate 4 refine Yp rfl ?_
 apply Yn
 apply Yb
 refine W.loop (fun k st => ∃ i : Nat, ∃ s1 : List L8, i ≤ c.l.length ∧ visits (fun a => visit usS a (up1 lv)) (c.l.take i) (usS c lv s).2 = (true, s1) ∧ k = c.l.length - i ∧ ∃ t b2 r2 m2, st = ⟨t, [[.row 0 (s1).length 0 ((s1).map strE).length], [.d (.int .i64 c.k), .d (.str c.n), .d (.str c.v), .d (.vec 4 (c.l.map CT.d))]] ++ b2, [some ⟨!(s1).isEmpty, (s1).length, 1, 9, (s1).map strE⟩] ++ r2, [] ++ m2⟩ ∧ holdsL t [(1, .one (.d (.int .i64 lv))), (2, .one (.clo 56 [.ptr 0 0])), (13, .one (.d (.vec 4 (c.l.map CT.d)))), (14, .one (.d (.int .i64 ((c.l.map CT.d).length : Int)))), (15, .one (.d (.int .i64 (i : Int))))]) (c.l.length) ⟨0, _, Nat.zero_le _, visits_nil, rfl, _, _, _, _, rfl, rfl, rfl, rfl, rfl, rfl, trivial⟩ ?_
 rintro k0 _ ⟨i, s1, f0_0, f0_1, rfl, t0, bb0, rr0, mm0, rfl, hh0⟩
 refine W.keepR _ _ _ _ _ _ _ hh0 rfl ?_
 apply Y1
 refine Yp rfl ?_
 apply Yn
 apply Ys
 refine W.cond rfl (fun c1=>?_) fun c1=>?_
 ·skip
  have hi := row_lt c1
  apply Yk
  apply Yn
  apply Ys
  apply Yb
  apply Y1
  refine YE rfl (row_ok hi) (getD_map_ct hi) rfl ?_
  iterate 8 first|refine Yp rfl ?_|refine S.store tOk rfl rfl rfl rfl rfl rfl rfl rfl ?_|refine S.alloc tOk rfl rfl rfl rfl ?_|apply Y4
  refine S.hcallD rfl rfl rfl rfl ((ih (c.l.getD i CT.z) (mem_ct hi) (up1 lv) s1 (hc.l _ (mem_ct hi)) (by have := us_room hi f0_1; omega)).fd [0] [0] [] rfl) ?_
  apply Yw
  apply Y4
  iterate 2 refine Yp rfl ?_
  refine loop_n (c.l.length - (i + 1)) (by omega) ⟨i + 1, _, hi, visit_next hi f0_1 (us_t _ _ _), rfl, _, _, _, _, rfl, rfl, rfl, rfl, rfl, inc_i64 (by omega), trivial⟩
 have hi := row_ge c1
 have hv := visit_all hf hi f0_1
 apply Yq
 apply Ye
 apply Ye
 apply Yx
 exact ⟨_, rfl, rfl, LeG.refl _, (by rw [hv]; rfl), (by rw [hv]; rfl), rfl⟩
theorem pc_partsU : ∀ (n : Nat) (c : CT), c.w ≤ n → ∀ (lv : Int) (s : List L8), CtBig c → s.length + c.w ≤ 2000000 → HCall Tryz.prog J 30 [ctV c, .one (.d (.int .i64 lv)), .one (.clo 56 [.ptr 0 0])] [[.row 0 (s).length 0 ((s).map strE).length]] [some ⟨!(s).isEmpty, (s).length, 1, 9, (s).map strE⟩] [] (isH (.tup []) [[.row 0 ((visit usS c lv s).2).length 0 (((visit usS c lv s).2).map strE).length]] [some ⟨!((visit usS c lv s).2).isEmpty, ((visit usS c lv s).2).length, 1, 9, ((visit usS c lv s).2).map strE⟩] [])
 | 0, c, h => by have := c.pos; omega
 | n + 1, c, h => fun lv s hc hs => pc_partsUs c lv s hc hs (fun a ha => pc_partsU n a (by have := CT.sz ha; omega))
theorem sortStr : Sort1Ok Tryz.prog J 57 1 (fun s : L8 => [encStr s]) sortS := Sort1Ok.str Tryz.sort57 rfl ⟨Tryz.f57, Tryz.func57, by kernel_rfl, rfl⟩
theorem useL_w (c : CT) : (useL (c.pt 0)).length ≤ c.w := by have := useL_le (c.pt 0); rwa [pt_len] at this
theorem usesP_eq (c : CT) : D.vec 1 (((padCZ (sortS (useL (c.pt 0)))).map strE).take (compactF eqRZ (sortS (useL (c.pt 0)))).length) = strsD (usesP c) := by
 rw [padZ_take]; rfl
theorem sortS_len (l : List L8) : (sortS l).length = l.length := by unfold sortS; exact List.length_mergeSort _
theorem pc_outref2_Uses (c : CT) (hc : CtBig c) (hw : c.w ≤ 2000000) :
  PureCall Tryz.prog J 17 [ctV c] (.one (.d (strsD (usesP c)))) := by
 have hul := useL_w c
 have hsl := sortS_len (useL (c.pt 0))
 have hv := visit_us c 0 []
 rw [List.nil_append] at hv
 have pu := pc_partsU _ c (Nat.le_refl _) 0 [] hc (by simpa using hw)
 rw [hv] at pu
 have pcc := fun al => pc_CompactS (sortS (useL (c.pt 0))) al (by omega)
 rw [show (sortS (useL (c.pt 0))).length = ((useL (c.pt 0)).map strE).length from by rw [hsl, List.length_map]] at pcc
 refine PureCall.of_body tOk (fn := Tryz.f17) Tryz.func17 (by kernel_rfl) rfl (Nat.le_of_ble_eq_true rfl) (fun E => ?_)
 apply Y1
 refine S.box rfl rfl rfl rfl ?_
 refine Yp rfl ?_
 apply Y3
 refine S.alloc tOk rfl rfl rfl rfl ?_
 apply Yn
 apply Ys
 refine W.newRowB 1 0 1 9 rfl rfl rfl ?_
 apply Yr
 refine Yp rfl ?_
 refine S.makeFunc rfl rfl rfl ?_
 refine S.hcallD rfl rfl rfl rfl (pu.fd [1] [0] [] rfl) ?_
 apply Yn
 apply Ys
 refine W.keep [(3, .one (.ptr 1 0))] ⟨rfl, trivial⟩ ?_
 refine W.reVer (l := [(3, .one (.ptr 1 0))]) (b := [[.d (.int .i64 c.k), .d (.str c.n), .d (.str c.v), .d (.vec 4 (CT.ds c.l))], [.row 0 0 0 ((useL (c.pt 0)).map strE).length]]) 0 rfl rfl rfl rfl rfl ?_
 apply Yr
 refine Yp rfl ?_
 refine S.sortOwn (fD := strE) (useL (c.pt 0)) rfl rfl rfl sortStr rfl (fun _ => rfl) (fun _ => rfl) (by omega) rfl ?_
 apply Y3
 refine Yp rfl ?_
 refine S.hcallD rfl rfl rfl rfl ((pcc _).fd [] [0] [] rfl) ?_
 refine Yp rfl ?_
 apply Yn
 refine W.freezeQ (ri := 0) (q := ⟨_, _, _, _, _⟩) [2] rfl (by intro k hk; simp at hk; subst hk; rfl) rfl ?_
 apply Yt
 exact Yz rfl rfl rfl (congrArg (fun x => V.one (C.d x)) (usesP_eq c))
end
section
open Go
open Go.RowKit
attribute [local irreducible] thenK blockK W
attribute [local irreducible] rangeB pathB nameB valueB parseB hasB CT.ho holdK domsE domAt valE valAt capW prodL markB sizeD okN wTab stepW alwA alwN alwP namesP usesP checkP tellH holdW unkn
theorem pc_alw1 (d : Dom) (n : L8) (hn : d.n.length ≤ 2000000) :
  HCall Tryz.prog J 25 ([.agg [.d (.str d.n), .d (.bool d.st), .d (.bool d.ab), .d (.vec 1 (d.vs.map fun x => [.str x]))], .one (.ptr 0 0)]) ([[.d (.str n)]]) ([]) ([]) (isH (.one (.d (.bool (markB d == n)))) ([[.d (.str n)]]) ([]) ([])) := by
 refine HCall.ofD tOk ⟨1, 0, 0⟩ (fn := Tryz.f25) Tryz.func25 (by kernel_rfl) rfl (Nat.le_of_ble_eq_true rfl) (fun E => ?_)
 apply Y1
 refine S.box rfl rfl rfl rfl ?_
 refine Yp rfl ?_
 apply Yn
 apply Ys
 refine W.regionD mixed (by kernel_rfl) ?_
 refine Ym rfl rfl ?_
 refine D.call rfl rfl rfl rfl rfl (pc_mark d hn) ?_
 iterate 3 refine Ym rfl rfl ?_
 apply Yn
 apply Yt
 exact ⟨_, rfl, rfl, LeG.refl _, rfl, rfl, rfl⟩
theorem pc_alw2 (h : L8) (U : Tab) :
  HCall Tryz.prog J 27 ([.one (.d (.str h)), .one (.ptr 0 0)]) ([[.map 0]]) ([]) ([tabD U]) (isH (.one (.clo 28 [.ptr 0 0, .ptr 1 0])) ([[.map 0], [.d (.str h)]]) ([]) ([tabD U])) := by
 refine HCall.ofD tOk ⟨2, 0, 1⟩ (fn := Tryz.f27) Tryz.func27 (by kernel_rfl) rfl (Nat.le_of_ble_eq_true rfl) (fun E => ?_)
 apply Y1
 refine S.box rfl rfl rfl rfl ?_
 refine Yp rfl ?_
 apply Y3
 refine S.makeFunc rfl rfl rfl ?_
 refine Yp rfl ?_
 apply Yn
 apply Yt
 exact ⟨_, rfl, rfl, LeG.refl _, rfl, rfl, rfl⟩
theorem tellH_1 (U : Tab) (h q : L8) : (getL beqS [] U (h ++ q), hasL beqS U (h ++ q)) = tellH U h q := by unfold tellH; rfl
theorem tellH_len {U : Tab} (hw : TabB U) (h q : L8) : (tellH U h q).1.length < 4294967000 := by unfold tellH; exact hw.v _
theorem pc_inW (U : Tab) (h q : L8) (h1 : h.length ≤ 2000000) (h2 : q.length ≤ 2000000) :
  HCall Tryz.prog J 28 ([.one (.d (.str q)), .one (.ptr 0 0), .one (.ptr 1 0)]) ([[.map 0], [.d (.str h)]]) ([]) ([tabD U]) (isH (.tup [.one (.d (.str (tellH U h q).1)), .one (.d (.bool (tellH U h q).2))]) ([[.map 0], [.d (.str h)]]) ([]) ([tabD U])) := by
 refine HCall.ofD tOk ⟨2, 0, 1⟩ (fn := Tryz.f28) Tryz.func28 (by kernel_rfl) rfl (Nat.le_of_ble_eq_true rfl) (fun E => ?_)
 iterate 7 first|refine Yp rfl ?_|apply Y3|apply Y1
 refine YP rfl (cat_ok (by omega)) rfl ?_
 refine S.lookup tOk keyS (fD := fun v : List UInt8 => DV.one (.str v)) [] (U) rfl rfl rfl rfl rfl rfl rfl rfl rfl rfl (show mapV true _ _ = V.tup [_, _] from rfl) ?_
 iterate 12 first|refine Yp rfl ?_|apply Yt|apply Y3|apply Yn
 exact ⟨_, rfl, rfl, LeG.of_force rfl (by rw [← tellH_1]), rfl, rfl, rfl⟩
theorem pc_onW1 (U : Tab) (a : CT) (ha : HCall Tryz.prog J 29 [ctV a, .one (.clo 28 [.ptr 0 0, .ptr 1 0]), .one (.clo 28 [.ptr 0 0, .ptr 2 0])] [[.map 0], [.d (.str wFac)], [.d (.str wSet)]] [] [tabD U] (isH (.one (.d (.bool (a.ho (tellH U wFac) (tellH U wSet))))) [[.map 0], [.d (.str wFac)], [.d (.str wSet)]] [] [tabD U])) :
  HCall Tryz.prog J 73 ([ctV a, .one (.ptr 3 0), .one (.ptr 4 0)]) ([[.map 0], [.d (.str wFac)], [.d (.str wSet)], [.clo 28 [.ptr 0 0, .ptr 1 0]], [.clo 28 [.ptr 0 0, .ptr 2 0]]]) ([]) ([tabD U]) (isH (.one (.d (.bool (a.ho (tellH U wFac) (tellH U wSet))))) ([[.map 0], [.d (.str wFac)], [.d (.str wSet)], [.clo 28 [.ptr 0 0, .ptr 1 0]], [.clo 28 [.ptr 0 0, .ptr 2 0]]]) ([]) ([tabD U])) := by
 refine HCall.ofD tOk ⟨5, 0, 1⟩ (fn := Tryz.f73) Tryz.func73 (by kernel_rfl) rfl (Nat.le_of_ble_eq_true rfl) (fun E => ?_)
 iterate 7 first|refine Yp rfl ?_|refine S.box rfl rfl rfl rfl ?_|apply Y3|apply Y1
 refine S.hcallD rfl rfl rfl rfl (ha.fd [0, 1, 2] [] [0] rfl) ?_
 refine Yp rfl ?_
 apply Yn
 apply Yt
 exact ⟨_, rfl, rfl, LeG.refl _, rfl, rfl, rfl⟩
theorem pc_onW2 (U : Tab) (a : CT) (ha : HCall Tryz.prog J 29 [ctV a, .one (.clo 28 [.ptr 0 0, .ptr 1 0]), .one (.clo 28 [.ptr 0 0, .ptr 2 0])] [[.map 0], [.d (.str wFac)], [.d (.str wSet)]] [] [tabD U] (isH (.one (.d (.bool (a.ho (tellH U wFac) (tellH U wSet))))) [[.map 0], [.d (.str wFac)], [.d (.str wSet)]] [] [tabD U])) :
  HCall Tryz.prog J 77 ([ctV a, .one (.ptr 5 0)]) ([[.map 0], [.d (.str wFac)], [.d (.str wSet)], [.clo 28 [.ptr 0 0, .ptr 1 0]], [.clo 28 [.ptr 0 0, .ptr 2 0]], [.clo 73 [.ptr 3 0, .ptr 4 0]]]) ([]) ([tabD U]) (isH (.one (.d (.bool (!(a.ho (tellH U wFac) (tellH U wSet)))))) ([[.map 0], [.d (.str wFac)], [.d (.str wSet)], [.clo 28 [.ptr 0 0, .ptr 1 0]], [.clo 28 [.ptr 0 0, .ptr 2 0]], [.clo 73 [.ptr 3 0, .ptr 4 0]]]) ([]) ([tabD U])) := by
 refine HCall.ofD tOk ⟨6, 0, 1⟩ (fn := Tryz.f77) Tryz.func77 (by kernel_rfl) rfl (Nat.le_of_ble_eq_true rfl) (fun E => ?_)
 iterate 6 first|refine Yp rfl ?_|refine S.box rfl rfl rfl rfl ?_|apply Y3|apply Y1
 refine S.hcallD rfl rfl rfl rfl ((pc_onW1 U a ha).fd [0, 1, 2, 3, 4] [] [0] rfl) ?_
 iterate 2 refine Yp rfl ?_
 apply Yn
 apply Yt
 exact ⟨_, rfl, rfl, LeG.refl _, rfl, rfl, rfl⟩
theorem pc_holdWs (U : Tab) (hw : TabB U) (c : CT) (hc : CtT c) (ih : ∀ a ∈ c.l, HCall Tryz.prog J 29 [ctV a, .one (.clo 28 [.ptr 0 0, .ptr 1 0]), .one (.clo 28 [.ptr 0 0, .ptr 2 0])] [[.map 0], [.d (.str wFac)], [.d (.str wSet)]] [] [tabD U] (isH (.one (.d (.bool (a.ho (tellH U wFac) (tellH U wSet))))) [[.map 0], [.d (.str wFac)], [.d (.str wSet)]] [] [tabD U])) :
  HCall Tryz.prog J 29 ([ctV c, .one (.clo 28 [.ptr 0 0, .ptr 1 0]), .one (.clo 28 [.ptr 0 0, .ptr 2 0])]) ([[.map 0], [.d (.str wFac)], [.d (.str wSet)]]) ([]) ([tabD U]) (isH (.one (.d (.bool (c.ho (tellH U wFac) (tellH U wSet))))) ([[.map 0], [.d (.str wFac)], [.d (.str wSet)]]) ([]) ([tabD U])) := by
 have hl := hc.ll
 have hv := hc.v
 have hfl := tellH_len hw wFac c.n
 have hpe := parse_e (tellH U wFac c.n).1
 have hrl := rangeB_len c.v
 unfold ctV
 rw [ds_map]
 refine HCall.ofD tOk ⟨3, 0, 1⟩ (fn := Tryz.f29) Tryz.func29 (by kernel_rfl) rfl (Nat.le_of_ble_eq_true rfl) (fun E => ?_)
 apply Y1
 iterate 3 refine S.box rfl rfl rfl rfl ?_
 refine Yp rfl ?_
 apply Y3
 refine S.makeFunc rfl rfl rfl ?_
 iterate 13 first|refine Yp rfl ?_|apply Yb|refine S.store tOk rfl rfl rfl rfl rfl rfl rfl rfl ?_|refine S.alloc tOk rfl rfl rfl rfl ?_|apply Y1|apply Yn|apply Ys
 refine W.cond rfl (fun c1=>?_) fun c1=>?_
 ·skip
  apply Y1
  iterate 3 refine Yp rfl ?_
  refine S.hcallD rfl rfl rfl rfl ((pc_inW U wFac c.n (by decide) hc.n).fd [0, 1] [] [0] rfl) ?_
  iterate 18 first|refine S.pickAnd tOk zOk rfl rfl tg ?_|refine Yp rfl ?_|refine Yg rfl rfl tg ?_|apply Yu|apply Yv|apply Yt|apply Y3|apply Yn
  exact ⟨_, rfl, rfl, LeG.of_force rfl (by first | (rw [ho_2 c1]; done) | (rw [ho_3 c1 c2]; done) | (rw [ho_4 c1 c2 c3]; rfl) | (rw [ho_5 c1 c2 c3 c4]; done) | (rw [ho_6 c5 h0]; done) | (rw [ho_7 c6]; done) | (rw [ho_8 c7]; done) | (rw [ho_0 c1 c2 c3 c4 c5 c6 c7]; rfl)), rfl, rfl, rfl⟩
 apply Y1
 iterate 2 refine Yp rfl ?_
 apply Yn
 refine W.cond rfl (fun c2=>?_) fun c2=>?_
 ·skip
  apply Y1
  iterate 3 refine Yp rfl ?_
  refine S.hcallD rfl rfl rfl rfl ((pc_inW U wSet c.n (by decide) hc.n).fd [0, 2] [] [0] rfl) ?_
  iterate 18 first|refine S.pickAnd tOk zOk rfl rfl tg ?_|refine Yp rfl ?_|refine Yg rfl rfl tg ?_|apply Yu|apply Yv|apply Yt|apply Y3|apply Yn
  exact ⟨_, rfl, rfl, LeG.of_force rfl (by first | (rw [ho_2 c1]; done) | (rw [ho_3 c1 c2]; done) | (rw [ho_4 c1 c2 c3]; rfl) | (rw [ho_5 c1 c2 c3 c4]; done) | (rw [ho_6 c5 h0]; done) | (rw [ho_7 c6]; done) | (rw [ho_8 c7]; done) | (rw [ho_0 c1 c2 c3 c4 c5 c6 c7]; rfl)), rfl, rfl, rfl⟩
 apply Y1
 iterate 2 refine Yp rfl ?_
 apply Yn
 refine W.cond rfl (fun c3=>?_) fun c3=>?_
 ·skip
  apply Y1
  iterate 3 refine Yp rfl ?_
  refine S.hcallD rfl rfl rfl rfl ((pc_inW U wSet c.n (by decide) hc.n).fd [0, 2] [] [0] rfl) ?_
  iterate 12 first|refine Yp rfl ?_|apply Yu|apply Yv|apply Yt|apply Y3|apply Yn
  exact ⟨_, rfl, rfl, LeG.of_force rfl (by first | (rw [ho_2 c1]; done) | (rw [ho_3 c1 c2]; done) | (rw [ho_4 c1 c2 c3]; rfl) | (rw [ho_5 c1 c2 c3 c4]; done) | (rw [ho_6 c5 h0]; done) | (rw [ho_7 c6]; done) | (rw [ho_8 c7]; done) | (rw [ho_0 c1 c2 c3 c4 c5 c6 c7]; rfl)), rfl, rfl, rfl⟩
 apply Y1
 iterate 2 refine Yp rfl ?_
 apply Yn
 refine W.cond rfl (fun c4=>?_) fun c4=>?_
 ·skip
  apply Y1
  iterate 3 refine Yp rfl ?_
  refine S.hcallD rfl rfl rfl rfl ((pc_inW U wFac c.n (by decide) hc.n).fd [0, 1] [] [0] rfl) ?_
  iterate 7 first|refine Yp rfl ?_|apply Y3
  refine S.call rfl rfl rfl rfl rfl (pc_ver_Parse (tellH U wFac c.n).1 (by omega)) ?_
  iterate 9 first|refine Yp rfl ?_|refine S.store tOk rfl rfl rfl rfl rfl rfl rfl rfl ?_|refine S.alloc tOk rfl rfl rfl rfl ?_|apply Y3
  refine S.call rfl rfl rfl rfl rfl (pc_ver_ParseRange c.v (by omega)) ?_
  iterate 19 first|refine S.pickAnd tOk zOk rfl rfl tg ?_|refine Yp rfl ?_|refine Yg rfl rfl tg ?_|refine S.store tOk rfl rfl rfl rfl rfl rfl rfl rfl ?_|refine S.alloc tOk rfl rfl rfl rfl ?_|apply Y3
  refine S.callG rfl rfl rfl rfl tg rfl rfl (fun _ => pc_ver_has (rangeB c.v).1 (by omega) (range_sp c.v) (parseB (tellH U wFac c.n).1).1 (by omega)) ?_
  refine S.pickAnd tOk zOk rfl rfl tg ?_
  refine Yp rfl ?_
  apply Yn
  apply Yt
  apply Yv
  apply Yu
  exact ⟨_, rfl, rfl, LeG.of_force rfl (by first | (rw [ho_2 c1]; done) | (rw [ho_3 c1 c2]; done) | (rw [ho_4 c1 c2 c3]; rfl) | (rw [ho_5 c1 c2 c3 c4]; done) | (rw [ho_6 c5 h0]; done) | (rw [ho_7 c6]; done) | (rw [ho_8 c7]; done) | (rw [ho_0 c1 c2 c3 c4 c5 c6 c7]; rfl)), rfl, rfl, rfl⟩
 apply Y1
 iterate 2 refine Yp rfl ?_
 apply Yn
 refine W.cond rfl (fun c5=>?_) fun c5=>?_
 ·skip
  have hk6 := hc.not (by simpa using c5)
  have h0 : 0 < c.l.length := by omega
  apply Ys
  refine W.regionS 5 mixed rfl (by kernel_rfl) ?_
  refine AnyZ.eager 1 rfl (by kernel_rfl) (Eag.pure tOk zOk rfl (fun _ _ _ => rfl) rfl rfl) ?_
  refine AnyZ.two 0 2 (by kernel_rfl) rfl rfl ?_ ?_
  ·skip
   refine OpZ.d ?_
   refine Ym rfl rfl ?_
   refine WD.nil ?_
   refine AnyZ.one 2 (by kernel_rfl) rfl ?_
   refine OpZ.d ?_
   refine Ym rfl rfl ?_
   refine WD.nil ?_
   refine AnyZ.one 3 (by kernel_rfl) rfl ?_
   refine OpZ.d ?_
   refine D.pureE tOk zOk rfl rfl (row_ok (i := 0) h0) (getD_map_ct (i := 0) h0) rfl ?_
   refine WD.nil ?_
   refine AnyZ.one 4 (by kernel_rfl) rfl ?_
   refine OpZ.d ?_
   refine Ym rfl rfl ?_
   refine WD.nil ?_
   refine AnyZ.nil (by kernel_rfl) ?_
   refine S.hcallD rfl rfl rfl rfl ((pc_onW1 U (c.l.getD 0 CT.z) (ih _ (mem_ct h0))).fd [0, 1, 2, 4, 5] [] [0] rfl) ?_
   iterate 6 first|refine Yp rfl ?_|apply Yu|apply Yv|apply Yt|apply Yn
   exact ⟨_, rfl, rfl, LeG.of_force rfl (by first | (rw [ho_2 c1]; done) | (rw [ho_3 c1 c2]; done) | (rw [ho_4 c1 c2 c3]; rfl) | (rw [ho_5 c1 c2 c3 c4]; done) | (rw [ho_6 c5 h0]; done) | (rw [ho_7 c6]; done) | (rw [ho_8 c7]; done) | (rw [ho_0 c1 c2 c3 c4 c5 c6 c7]; rfl)), rfl, rfl, rfl⟩
  refine OpZ.d ?_
  refine Ym rfl rfl ?_
  refine WD.nil ?_
  refine AnyZ.two 0 3 (by kernel_rfl) rfl rfl ?_ ?_
  ·skip
   refine OpZ.d ?_
   refine Ym rfl rfl ?_
   refine WD.nil ?_
   refine AnyZ.one 3 (by kernel_rfl) rfl ?_
   refine OpZ.d ?_
   refine D.pureE tOk zOk rfl rfl (row_ok (i := 0) h0) (getD_map_ct (i := 0) h0) rfl ?_
   refine WD.nil ?_
   refine AnyZ.one 4 (by kernel_rfl) rfl ?_
   refine OpZ.d ?_
   refine Ym rfl rfl ?_
   refine WD.nil ?_
   refine AnyZ.nil (by kernel_rfl) ?_
   refine S.hcallD rfl rfl rfl rfl ((pc_onW1 U (c.l.getD 0 CT.z) (ih _ (mem_ct h0))).fd [0, 1, 2, 4, 5] [] [0] rfl) ?_
   iterate 6 first|refine Yp rfl ?_|apply Yu|apply Yv|apply Yt|apply Yn
   exact ⟨_, rfl, rfl, LeG.of_force rfl (by first | (rw [ho_2 c1]; done) | (rw [ho_3 c1 c2]; done) | (rw [ho_4 c1 c2 c3]; rfl) | (rw [ho_5 c1 c2 c3 c4]; done) | (rw [ho_6 c5 h0]; done) | (rw [ho_7 c6]; done) | (rw [ho_8 c7]; done) | (rw [ho_0 c1 c2 c3 c4 c5 c6 c7]; rfl)), rfl, rfl, rfl⟩
  refine OpZ.d ?_
  refine D.pureE tOk zOk rfl rfl (row_ok (i := 0) h0) (getD_map_ct (i := 0) h0) rfl ?_
  refine WD.nil ?_
  refine AnyZ.two 0 4 (by kernel_rfl) rfl rfl ?_ ?_
  ·skip
   refine OpZ.d ?_
   refine Ym rfl rfl ?_
   refine WD.nil ?_
   refine AnyZ.one 4 (by kernel_rfl) rfl ?_
   refine OpZ.d ?_
   refine Ym rfl rfl ?_
   refine WD.nil ?_
   refine AnyZ.nil (by kernel_rfl) ?_
   refine S.hcallD rfl rfl rfl rfl ((pc_onW1 U (c.l.getD 0 CT.z) (ih _ (mem_ct h0))).fd [0, 1, 2, 4, 5] [] [0] rfl) ?_
   iterate 6 first|refine Yp rfl ?_|apply Yu|apply Yv|apply Yt|apply Yn
   exact ⟨_, rfl, rfl, LeG.of_force rfl (by first | (rw [ho_2 c1]; done) | (rw [ho_3 c1 c2]; done) | (rw [ho_4 c1 c2 c3]; rfl) | (rw [ho_5 c1 c2 c3 c4]; done) | (rw [ho_6 c5 h0]; done) | (rw [ho_7 c6]; done) | (rw [ho_8 c7]; done) | (rw [ho_0 c1 c2 c3 c4 c5 c6 c7]; rfl)), rfl, rfl, rfl⟩
  refine OpZ.d ?_
  refine Ym rfl rfl ?_
  refine WD.nil ?_
  refine AnyZ.one 0 (by kernel_rfl) rfl ?_
  refine OpZ.d ?_
  refine Ym rfl rfl ?_
  refine WD.nil ?_
  refine AnyZ.nil (by kernel_rfl) ?_
  refine S.hcallD rfl rfl rfl rfl ((pc_onW1 U (c.l.getD 0 CT.z) (ih _ (mem_ct h0))).fd [0, 1, 2, 4, 5] [] [0] rfl) ?_
  iterate 6 first|refine Yp rfl ?_|apply Yu|apply Yv|apply Yt|apply Yn
  exact ⟨_, rfl, rfl, LeG.of_force rfl (by first | (rw [ho_2 c1]; done) | (rw [ho_3 c1 c2]; done) | (rw [ho_4 c1 c2 c3]; rfl) | (rw [ho_5 c1 c2 c3 c4]; done) | (rw [ho_6 c5 h0]; done) | (rw [ho_7 c6]; done) | (rw [ho_8 c7]; done) | (rw [ho_0 c1 c2 c3 c4 c5 c6 c7]; rfl)), rfl, rfl, rfl⟩
 apply Y1
 iterate 2 refine Yp rfl ?_
 apply Yn
 refine W.cond rfl (fun c6=>?_) fun c6=>?_
 ·skip
  apply Y1
  iterate 2 refine Yp rfl ?_
  refine S.makeFunc rfl rfl rfl ?_
  refine S.hcallD rfl rfl rfl rfl (pc_ContainsFunc_Cond 77 [.ptr 6 0] _ _ _ (fun a => !(a.ho (tellH U wFac) (tellH U wSet))) c.l (by omega) (fun a ha => (pc_onW2 U a (ih a ha)).fd [0, 1, 2, 4, 5, 6] [] [0] rfl)) ?_
  iterate 6 first|refine Yp rfl ?_|apply Yu|apply Yv|apply Yt|apply Yn
  exact ⟨_, rfl, rfl, LeG.of_force rfl (by first | (rw [ho_2 c1]; done) | (rw [ho_3 c1 c2]; done) | (rw [ho_4 c1 c2 c3]; rfl) | (rw [ho_5 c1 c2 c3 c4]; done) | (rw [ho_6 c5 h0]; done) | (rw [ho_7 c6]; done) | (rw [ho_8 c7]; done) | (rw [ho_0 c1 c2 c3 c4 c5 c6 c7]; rfl)), rfl, rfl, rfl⟩
 apply Y1
 iterate 2 refine Yp rfl ?_
 apply Yn
 refine W.cond rfl (fun c7=>?_) fun c7=>?_
 ·skip
  apply Y1
  iterate 3 refine Yp rfl ?_
  refine S.hcallD rfl rfl rfl rfl (pc_ContainsFunc_Cond 73 [.ptr 4 0, .ptr 5 0] _ _ _ (fun a => (a.ho (tellH U wFac) (tellH U wSet))) c.l (by omega) (fun a ha => (pc_onW1 U a (ih a ha)).fd [0, 1, 2, 4, 5] [] [0] rfl)) ?_
  refine Yp rfl ?_
  apply Yn
  apply Yt
  apply Yv
  apply Yu
  exact ⟨_, rfl, rfl, LeG.of_force rfl (by first | (rw [ho_2 c1]; done) | (rw [ho_3 c1 c2]; done) | (rw [ho_4 c1 c2 c3]; rfl) | (rw [ho_5 c1 c2 c3 c4]; done) | (rw [ho_6 c5 h0]; done) | (rw [ho_7 c6]; done) | (rw [ho_8 c7]; done) | (rw [ho_0 c1 c2 c3 c4 c5 c6 c7]; rfl)), rfl, rfl, rfl⟩
 apply Yk
 apply Yw
 apply Y3
 refine Yp rfl ?_
 apply Yn
 apply Yt
 exact ⟨_, rfl, rfl, LeG.of_force rfl (by first | (rw [ho_2 c1]; done) | (rw [ho_3 c1 c2]; done) | (rw [ho_4 c1 c2 c3]; rfl) | (rw [ho_5 c1 c2 c3 c4]; done) | (rw [ho_6 c5 h0]; done) | (rw [ho_7 c6]; done) | (rw [ho_8 c7]; done) | (rw [ho_0 c1 c2 c3 c4 c5 c6 c7]; rfl)), rfl, rfl, rfl⟩
theorem names2' (c : CT) : (namesP c).2 = checkP c := by
 cases h : (checkP c != 0) with
 | true => rw [np_1 h]
 | false => rw [np_2 h]; simpa using (show checkP c = 0 by simpa using h).symm
theorem pc_holdW (U : Tab) (hw : TabB U) : ∀ (n : Nat) (c : CT), c.w ≤ n → CtT c → HCall Tryz.prog J 29 [ctV c, .one (.clo 28 [.ptr 0 0, .ptr 1 0]), .one (.clo 28 [.ptr 0 0, .ptr 2 0])] [[.map 0], [.d (.str wFac)], [.d (.str wSet)]] [] [tabD U] (isH (.one (.d (.bool (c.ho (tellH U wFac) (tellH U wSet))))) [[.map 0], [.d (.str wFac)], [.d (.str wSet)]] [] [tabD U])
 | 0, c, h => by have := c.pos; omega
 | n + 1, c, h => fun hc => pc_holdWs U hw c hc (fun a ha => pc_holdW U hw n a (by have := CT.sz ha; omega) (hc.l a ha))
theorem wTab_b {l : List Dom} (h : DomB l) (w : Nat) : TabB (wTab l w []) := ⟨fun q => by
 have := wTab_len (N := 2000000) l w [] (fun d hd v hv => (h.d d hd).2.2 v hv) (fun q => Nat.zero_le _) q
 omega⟩
theorem unk_t {l : List Dom} {n : L8} (h : (!l.any fun d => markB d == n) = true) : unkn l n = true := by unfold unkn; exact h
theorem unk_f {l : List Dom} {n : L8} (h : (!l.any fun d => markB d == n) = false) : unkn l n = false := by unfold unkn; exact h
theorem rest0 {w : Nat} {l : List Dom} : w = w / prodL (l.take 0) := by unfold prodL; simp
theorem wt0 {w : Nat} {l : List Dom} : tabD [] = tabD (wTab (l.take 0) w []) := by unfold wTab; rfl
theorem rest_le {w : Nat} {l : List Dom} {i : Nat} (h : w ≤ 1048576) : w / prodL (l.take i) ≤ 1048576 := Nat.le_trans (Nat.div_le_self _ _) h
theorem rest_v {l : List Dom} {i w : Nat} (hi : i < l.length) : V.one (.d (.int .i64 ((w / prodL (l.take i) / sizeD (l.getD i Dom.z) : Nat) : Int))) = V.one (.d (.int .i64 ((w / prodL (l.take (i + 1)) : Nat) : Int))) := by rw [rest_s hi]
theorem rest_v0 {w : Nat} {l : List Dom} : V.one (.d (.int .i64 ((w : Nat) : Int))) = V.one (.d (.int .i64 ((w / prodL (l.take 0) : Nat) : Int))) := by rw [← rest0]
theorem pc_ver_Always (c : CT) (hs : CtSm c) (hw : c.w ≤ 1048576) (hnm : NmOk c) (l : List Dom) (hb : DomB l) :
  PureCall Tryz.prog J 5 [ctV c, .one (.d (.vec 4 (l.map domD)))] (.tup [.one (.d (.bool (alwP c l).1)), .one (.d (.bool (alwP c l).2.1)), .one (.d (.int .i64 (alwP c l).2.2))]) := by
 have hbig := hs.big
 have hn := hb.n
 have hn2 := names2' c
 have hdf := df_fst l
 refine PureCall.of_body tOk (fn := Tryz.f5) Tryz.func5 (by kernel_rfl) rfl (Nat.le_of_ble_eq_true rfl) (fun E => ?_)
 iterate 7 first|refine Yp rfl ?_|refine S.box rfl rfl rfl rfl ?_|apply Y3|apply Y1
 refine S.call rfl rfl rfl rfl rfl (pc_ver_Names c hbig hnm) ?_
 iterate 11 first|refine Yp rfl ?_|apply Y1|apply Yn|apply Ys
 refine W.cond rfl (fun c1=>?_) fun c1=>?_
 ·skip
  have c0 : (checkP c != 0) = true := by rw [← hn2]; assumption
  have hres := ap_1 (l := l) c0
  rw [hn2]
  iterate 8 first|refine Yp rfl ?_|apply Yu|apply Yt|apply Y1|apply Yn
  exact Yz rfl rfl rfl (by rw [hres]; rfl)
 have c0 : (checkP c != 0) = false := by rw [← hn2]; assumption
 have h0 : checkP c = 0 := by simpa using c0
 have hT := check_T hs h0
 have hnu : (namesP c).1 = usesP c := by rw [np_2 c0, uses_eq]
 have hnl : (namesP c).1.length ≤ 1000000000 := by
  rw [hnu, uses_eq, sortS_len, List.length_map]
  have := (nm_facts c).2.2
  omega
 apply Yk
 apply Y3
 refine Yp rfl ?_
 refine S.call rfl rfl rfl rfl rfl (pc_ver_domainsFault l hb) ?_
 iterate 11 first|refine Yp rfl ?_|apply Y1|apply Yn|apply Ys
 refine W.cond rfl (fun c2=>?_) fun c2=>?_
 ·skip
  have d0 : (domF l != 0) = true := by rw [← hdf]; assumption
  have hres := ap_2 c0 d0
  rw [hdf]
  iterate 8 first|refine Yp rfl ?_|apply Yu|apply Yt|apply Y1|apply Yn
  exact Yz rfl rfl rfl (by rw [hres]; rfl)
 have d0 : (domF l != 0) = false := by rw [← hdf]; assumption
 have hsd := df_snd d0
 iterate 7 first|refine Yp rfl ?_|apply Yk|apply Y1|apply Yn|apply Ys
 refine W.cond rfl (fun c3=>?_) fun c3=>?_
 ·skip
  have p0 : prodL l > 1000 := (cap_big (M := 1001) (by decide)).1 (by have := of_decide_eq_true (by assumption : decide (((dfP l).2 : Int) > 1000) = true); rw [hsd] at this; omega)
  have hres := ap_3 c0 d0 p0
  iterate 7 first|refine Yp rfl ?_|apply Yu|apply Yt|apply Y1|apply Yn
  exact Yz rfl rfl rfl (by rw [hres]; rfl)
 have p1 : ¬ capW 1001 l > 1000 := by have := of_decide_eq_false (by assumption : decide (((dfP l).2 : Int) > 1000) = false); rw [hsd] at this; omega
 have p0 : ¬ prodL l > 1000 := fun h => p1 ((cap_big (M := 1001) (by decide)).2 h)
 have hpl := hsd.trans (cap_small (M := 1001) (by decide) p1)
 rw [hpl]
 iterate 9 first|refine Yp rfl ?_|apply Yb|apply Yk|apply Y1|apply Yn|apply Ys
 refine W.loop (fun k st => ∃ j : Nat, j ≤ (namesP c).1.length ∧ ((namesP c).1.take j).any (unkn l) = false ∧ k = (namesP c).1.length - j ∧ ∃ t b2 r2 m2, st = ⟨t, [[.d (.int .i64 c.k), .d (.str c.n), .d (.str c.v), .d (.vec 4 (CT.ds c.l))]] ++ b2, [] ++ r2, [] ++ m2⟩ ∧ holdsL t [(1, .one (.d (.vec 4 (l.map domD)))), (2, .one (.ptr 0 0)), (9, .one (.d (.int .i64 ((prodL l : Nat) : Int)))), (39, .one (.d (.vec 1 ((namesP c).1.map fun x => [.str x])))), (40, .one (.d (.int .i64 (((namesP c).1.map fun x => ([.str x] : List D)).length : Int)))), (41, .one (.d (.int .i64 (j : Int))))]) ((namesP c).1.length) ⟨0, Nat.zero_le _, by simp, rfl, _, _, _, _, rfl, rfl, rfl, rfl, rfl, rfl, rfl, trivial⟩ ?_
 rintro k0 _ ⟨j, f0_0, f0_1, rfl, t0, bb0, rr0, mm0, rfl, hh0⟩
 refine W.keepR _ _ _ _ _ _ _ hh0 rfl ?_
 apply Y1
 refine Yp rfl ?_
 apply Yn
 apply Ys
 refine W.cond rfl (fun c4=>?_) fun c4=>?_
 ·skip
  have hj := row_lt (by assumption)
  apply Yk
  apply Yn
  apply Ys
  apply Yb
  apply Y1
  refine YE rfl (row_ok hj) (row_at [] hj) rfl ?_
  iterate 5 first|refine Yp rfl ?_|refine S.store tOk rfl rfl rfl rfl rfl rfl rfl rfl ?_|refine S.alloc tOk rfl rfl rfl rfl ?_|apply Y3
  refine S.makeFunc rfl rfl rfl ?_
  refine S.hcallD rfl rfl rfl rfl (pc_ContainsFunc_Dom 25 [.ptr 1 0] _ _ _ (fun d => markB d == (namesP c).1.getD j []) l (by omega) (fun d hd => (pc_alw1 d ((namesP c).1.getD j []) (hb.d d hd).1).fd [1] [] [] rfl)) ?_
  refine Yp rfl ?_
  apply Yn
  refine W.cond rfl (fun c5=>?_) fun c5=>?_
  ·skip
   have hun := unk_t (by assumption : (!l.any fun d => markB d == (namesP c).1.getD j []) = true)
   have hua : (usesP c).any (unkn l) = true := by rw [← hnu]; exact List.any_eq_true.2 ⟨_, mem_getD (d := ([] : L8)) hj, hun⟩
   have hres := ap_4 c0 d0 p0 hua
   iterate 11 first|apply Yu|refine Yp rfl ?_|apply Yv|apply Yt|apply Y1|apply Yn
   exact Yz rfl rfl rfl (by rw [hres]; rfl)
  have hun := unk_f (by assumption : (!l.any fun d => markB d == (namesP c).1.getD j []) = false)
  apply Yk
  apply Yw
  apply Y4
  iterate 2 refine Yp rfl ?_
  refine loop_n ((namesP c).1.length - (j + 1)) (by omega) ⟨j + 1, hj, any_take (d := ([] : L8)) hj f0_1 hun, rfl, _, _, _, _, rfl, rfl, rfl, rfl, rfl, rfl, inc_i64 (by omega), trivial⟩
 have hj := row_ge (by assumption)
 have hua : (usesP c).any (unkn l) = false := by rw [← hnu]; exact any_end hj f0_1
 have hres := ap_5 c0 d0 p0 hua
 iterate 14 first|refine Yp rfl ?_|apply Ye|apply Yb|apply Yx|apply Yq|apply Y1|apply Y3|apply Yn|apply Ys
 refine W.loop (fun k st => ∃ w : Nat, w ≤ prodL l ∧ k = prodL l - w ∧ ∃ t b2 r2 m2, st = ⟨t, [[.d (.int .i64 c.k), .d (.str c.n), .d (.str c.v), .d (.vec 4 (CT.ds c.l))]] ++ b2, [] ++ r2, [] ++ m2⟩ ∧ holdsL t [(1, .one (.d (.vec 4 (l.map domD)))), (2, .one (.ptr 0 0)), (12, .one (.d (.bool (alwA c l w)))), (13, .one (.d (.bool (alwN c l w)))), (50, .one (.d (.int .i64 ((prodL l : Nat) : Int)))), (51, .one (.d (.int .i64 (w : Int))))]) (prodL l) ⟨0, Nat.zero_le _, rfl, _, _, _, _, rfl, rfl, rfl, (by unfold alwA; rfl), (by unfold alwN; rfl), rfl, rfl, trivial⟩ ?_
 rintro k2 _ ⟨w, f2_0, rfl, t2, bb2, rr2, mm2, rfl, hh2⟩
 refine W.keepR _ _ _ _ _ _ _ hh2 rfl ?_
 apply Y1
 refine Yp rfl ?_
 apply Yn
 apply Ys
 refine W.cond rfl (fun c6=>?_) fun c6=>?_
 ·skip
  have hwl : w < prodL l := by have := of_decide_eq_true (by assumption : decide ((w : Int) < ((prodL l : Nat) : Int)) = true); omega
  iterate 8 first|refine Yp rfl ?_|apply Yb|apply Yk|apply Y3|apply Y1|apply Ys|apply Yn
  refine S.makeMap rfl ?_
  iterate 9 first|refine Yp rfl ?_|refine S.store tOk rfl rfl rfl rfl rfl rfl rfl rfl ?_|refine S.alloc tOk rfl rfl rfl rfl ?_|apply Y1|apply Yn|apply Ys
  rw [show ([] : List (DV × DV)) = tabD (wTab (l.take 0) w []) from wt0]
  apply Yb
  refine W.loop (fun k st => ∃ i : Nat, i ≤ l.length ∧ k = l.length - i ∧ ∃ t b2 r2 m2, st = ⟨t, [[.d (.int .i64 c.k), .d (.str c.n), .d (.str c.v), .d (.vec 4 (CT.ds c.l))], [.map 0]] ++ b2, [] ++ r2, [tabD (wTab (l.take i) w [])] ++ m2⟩ ∧ holdsL t [(1, .one (.d (.vec 4 (l.map domD)))), (2, .one (.ptr 0 0)), (12, .one (.d (.bool (alwA c l w)))), (13, .one (.d (.bool (alwN c l w)))), (50, .one (.d (.int .i64 ((prodL l : Nat) : Int)))), (51, .one (.d (.int .i64 (w : Int)))), (14, .one (.d (.int .i64 ((w / prodL (l.take i) : Nat) : Int)))), (15, .one (.ptr 1 0)), (55, .one (.d (.vec 4 (l.map domD)))), (56, .one (.d (.int .i64 ((l.map domD).length : Int)))), (57, .one (.d (.int .i64 (i : Int))))]) (l.length) ⟨0, Nat.zero_le _, rfl, _, _, _, _, rfl, rfl, rfl, rfl, rfl, rfl, rfl, rest_v0, rfl, rfl, rfl, rfl, trivial⟩ ?_
  rintro k4 _ ⟨i, f4_0, rfl, t4, bb4, rr4, mm4, rfl, hh4⟩
  refine W.keepR _ _ _ _ _ _ _ hh4 rfl ?_
  apply Y1
  refine Yp rfl ?_
  apply Yn
  apply Ys
  refine W.cond rfl (fun c7=>?_) fun c7=>?_
  ·skip
   have hi := row_lt (by assumption)
   have hdi := dom_at hb hi
   have hpos := da_pos (doms_at d0 hi)
   have hrl := rest_le (l := l) (i := i) (w := w) (by omega)
   apply Yk
   apply Yn
   apply Ys
   apply Yb
   apply Y1
   refine YE rfl (row_ok hi) (row_at Dom.z hi) rfl ?_
   iterate 14 first|refine Yp rfl ?_|refine S.store tOk rfl rfl rfl rfl rfl rfl rfl rfl ?_|refine S.alloc tOk rfl rfl rfl rfl ?_|apply Y1|apply Y3|apply Yn|apply Ys
   refine W.cond rfl (fun c8=>?_) fun c8=>?_
   ·skip
    have hsz : ((sizeD (l.getD i Dom.z) : Nat) : Int) = ((sizeD (l.getD i Dom.z) : Nat) : Int) := rfl
    have hab : (l.getD i Dom.z).ab = true := by assumption
    apply Yr
    refine Yp rfl ?_
    refine YE rfl rfl (size_t hab hpos.2.1) rfl ?_
    iterate 6 first|refine Yp rfl ?_|apply Y1|apply Ys|apply Yn
    refine YE rfl (rem_ok hsz hpos.1) (rem_eq hsz) rfl ?_
    iterate 8 first|refine Yp rfl ?_|apply Y3|apply Yn
    refine W.cond rfl (fun c9=>?_) fun c9=>?_
    ·skip
     have hk : (w / prodL (l.take i) % sizeD (l.getD i Dom.z)) < (l.getD i Dom.z).vs.length := by have := of_decide_eq_true (by assumption : decide ((((w / prodL (l.take i) % sizeD (l.getD i Dom.z)) : Nat) : Int) < (((l.getD i Dom.z).vs.map fun x => ([.str x] : List D)).length : Int)) = true); rw [List.length_map] at this; omega
     refine W.regionC 8 mixed rfl (by kernel_rfl) ?_
     iterate 2 refine Ym rfl rfl ?_
     refine D.call rfl rfl rfl rfl rfl (pc_mark (l.getD i Dom.z) hdi.1) ?_
     iterate 3 refine Ym rfl rfl ?_
     refine D.pureE tOk zOk rfl rfl (row_ok hk) (row_at [] hk) rfl ?_
     refine Ym rfl rfl ?_
     refine WD.nil ?_
     refine S.mapUpdate tOk keyS (fD := fun v : List UInt8 => DV.one (.str v)) ((l.getD i Dom.z).vs.getD (w / prodL (l.take i) % sizeD (l.getD i Dom.z)) []) (wTab (l.take i) w []) rfl rfl rfl rfl rfl rfl rfl rfl (show _ = [tabD (wTab (l.take (i + 1)) w [])] from congrArg (fun x => [tabD x]) (step_t hi hk)) ?_
     apply Y4
     iterate 2 refine Yp rfl ?_
     refine YE rfl (rem_ok hsz hpos.1) (quo_eq hsz hrl) rfl ?_
     iterate 5 first|refine Yp rfl ?_|apply Yw|apply Y4
     refine loop_n (l.length - (i + 1)) (by omega) ⟨i + 1, hi, rfl, _, _, _, _, rfl, rfl, rfl, rfl, rfl, rfl, rfl, rest_v hi, rfl, rfl, rfl, inc_i64 (by omega), trivial⟩
    have hk : ¬ (w / prodL (l.take i) % sizeD (l.getD i Dom.z)) < (l.getD i Dom.z).vs.length := by have := of_decide_eq_false (by assumption : decide ((((w / prodL (l.take i) % sizeD (l.getD i Dom.z)) : Nat) : Int) < (((l.getD i Dom.z).vs.map fun x => ([.str x] : List D)).length : Int)) = false); rw [List.length_map] at this; omega
    rw [step_f hi hk]
    iterate 4 first|refine Yp rfl ?_|apply Yk|apply Y4
    refine YE rfl (rem_ok hsz hpos.1) (quo_eq hsz hrl) rfl ?_
    iterate 5 first|refine Yp rfl ?_|apply Yw|apply Y4
    refine loop_n (l.length - (i + 1)) (by omega) ⟨i + 1, hi, rfl, _, _, _, _, rfl, rfl, rfl, rfl, rfl, rfl, rfl, rest_v hi, rfl, rfl, rfl, inc_i64 (by omega), trivial⟩
   have hab : (l.getD i Dom.z).ab = false := by assumption
   have hsz := size_f hab
   iterate 6 first|refine Yp rfl ?_|apply Yk|apply Y1|apply Ys|apply Yn
   refine YE rfl (rem_ok hsz hpos.1) (rem_eq hsz) rfl ?_
   iterate 8 first|refine Yp rfl ?_|apply Y3|apply Yn
   refine W.cond rfl (fun c10=>?_) fun c10=>?_
   ·skip
    have hk : (w / prodL (l.take i) % sizeD (l.getD i Dom.z)) < (l.getD i Dom.z).vs.length := by have := of_decide_eq_true (by assumption : decide ((((w / prodL (l.take i) % sizeD (l.getD i Dom.z)) : Nat) : Int) < (((l.getD i Dom.z).vs.map fun x => ([.str x] : List D)).length : Int)) = true); rw [List.length_map] at this; omega
    refine W.regionC 8 mixed rfl (by kernel_rfl) ?_
    iterate 2 refine Ym rfl rfl ?_
    refine D.call rfl rfl rfl rfl rfl (pc_mark (l.getD i Dom.z) hdi.1) ?_
    iterate 3 refine Ym rfl rfl ?_
    refine D.pureE tOk zOk rfl rfl (row_ok hk) (row_at [] hk) rfl ?_
    refine Ym rfl rfl ?_
    refine WD.nil ?_
    refine S.mapUpdate tOk keyS (fD := fun v : List UInt8 => DV.one (.str v)) ((l.getD i Dom.z).vs.getD (w / prodL (l.take i) % sizeD (l.getD i Dom.z)) []) (wTab (l.take i) w []) rfl rfl rfl rfl rfl rfl rfl rfl (show _ = [tabD (wTab (l.take (i + 1)) w [])] from congrArg (fun x => [tabD x]) (step_t hi hk)) ?_
    apply Y4
    iterate 2 refine Yp rfl ?_
    refine YE rfl (rem_ok hsz hpos.1) (quo_eq hsz hrl) rfl ?_
    iterate 5 first|refine Yp rfl ?_|apply Yw|apply Y4
    refine loop_n (l.length - (i + 1)) (by omega) ⟨i + 1, hi, rfl, _, _, _, _, rfl, rfl, rfl, rfl, rfl, rfl, rfl, rest_v hi, rfl, rfl, rfl, inc_i64 (by omega), trivial⟩
   have hk : ¬ (w / prodL (l.take i) % sizeD (l.getD i Dom.z)) < (l.getD i Dom.z).vs.length := by have := of_decide_eq_false (by assumption : decide ((((w / prodL (l.take i) % sizeD (l.getD i Dom.z)) : Nat) : Int) < (((l.getD i Dom.z).vs.map fun x => ([.str x] : List D)).length : Int)) = false); rw [List.length_map] at this; omega
   rw [step_f hi hk]
   apply Yk
   apply Y4
   iterate 2 refine Yp rfl ?_
   refine YE rfl (rem_ok hsz hpos.1) (quo_eq hsz hrl) rfl ?_
   iterate 5 first|refine Yp rfl ?_|apply Yw|apply Y4
   refine loop_n (l.length - (i + 1)) (by omega) ⟨i + 1, hi, rfl, _, _, _, _, rfl, rfl, rfl, rfl, rfl, rfl, rfl, rest_v hi, rfl, rfl, rfl, inc_i64 (by omega), trivial⟩
  have hi := row_ge (by assumption)
  obtain rfl : i = l.length := by omega
  rw [List.take_length]
  have hW := wTab_b hb w
  have ph := pc_holdW (wTab l w []) hW _ c (Nat.le_refl _) hT
  apply Yq
  iterate 2 apply Ye
  apply Yx
  apply Y3
  refine S.makeFunc rfl rfl rfl ?_
  refine Yp rfl ?_
  apply Yn
  apply Ys
  refine W.regionS 6 mixed rfl (by kernel_rfl) ?_
  refine AnyZ.eager 1 rfl (by kernel_rfl) (Eag.pure tOk zOk rfl (fun _ _ _ => rfl) rfl rfl) ?_
  refine AnyZ.eager 3 rfl (by kernel_rfl) (Eag.pure tOk zOk rfl (fun _ _ _ => rfl) rfl rfl) ?_
  refine AnyZ.two 0 2 (by kernel_rfl) rfl rfl ?_ ?_
  ·skip
   refine OpZ.d ?_
   refine Ym rfl rfl ?_
   refine WD.nil ?_
   refine AnyZ.one 2 (by kernel_rfl) rfl ?_
   refine OpZ.hcall rfl rfl rfl rfl ((pc_alw2 wFac (wTab l w [])).fd (B' := [[.d (.int .i64 c.k), .d (.str c.n), .d (.str c.v), .d (.vec 4 (CT.ds c.l))], [.map 0], [.d (.str wFac)]]) [1] [] [0] rfl) ?_
   refine AnyZ.one 4 (by kernel_rfl) rfl ?_
   refine OpZ.hcall rfl rfl rfl rfl ((pc_alw2 wSet (wTab l w [])).fd (B' := [[.d (.int .i64 c.k), .d (.str c.n), .d (.str c.v), .d (.vec 4 (CT.ds c.l))], [.map 0], [.d (.str wFac)], [.d (.str wSet)]]) [1] [] [0] rfl) ?_
   refine AnyZ.one 5 (by kernel_rfl) rfl ?_
   refine OpZ.hcall rfl rfl rfl rfl (ph.fd (B' := [[.d (.int .i64 c.k), .d (.str c.n), .d (.str c.v), .d (.vec 4 (CT.ds c.l))], [.map 0], [.d (.str wFac)], [.d (.str wSet)]]) [1, 2, 3] [] [0] rfl) ?_
   refine AnyZ.nil (by kernel_rfl) ?_
   apply Yn
   refine W.cond rfl (fun c11=>?_) fun c11=>?_
   ·skip
    have hh : holdW c (wTab l w []) = true := by rw [holdW_eq]; assumption
    iterate 6 first|refine Yp rfl ?_|apply Yw|apply Y4|apply Yr
    refine loop_n (prodL l - (w + 1)) (by omega) ⟨w + 1, hwl, rfl, _, _, _, _, rfl, rfl, rfl, congrArg (fun x => V.one (C.d (D.bool x))) (alwA_t hh), congrArg (fun x => V.one (C.d (D.bool x))) (alwN_t hh), rfl, inc_i64 (by omega), trivial⟩
   have hh : holdW c (wTab l w []) = false := by rw [holdW_eq]; assumption
   iterate 6 first|refine Yp rfl ?_|apply Yw|apply Y4|apply Yr
   refine loop_n (prodL l - (w + 1)) (by omega) ⟨w + 1, hwl, rfl, _, _, _, _, rfl, rfl, rfl, congrArg (fun x => V.one (C.d (D.bool x))) (alwA_f hh), congrArg (fun x => V.one (C.d (D.bool x))) (alwN_f hh), rfl, inc_i64 (by omega), trivial⟩
  refine OpZ.hcall rfl rfl rfl rfl ((pc_alw2 wFac (wTab l w [])).fd (B' := [[.d (.int .i64 c.k), .d (.str c.n), .d (.str c.v), .d (.vec 4 (CT.ds c.l))], [.map 0], [.d (.str wFac)]]) [1] [] [0] rfl) ?_
  refine AnyZ.two 0 4 (by kernel_rfl) rfl rfl ?_ ?_
  ·skip
   refine OpZ.d ?_
   refine Ym rfl rfl ?_
   refine WD.nil ?_
   refine AnyZ.one 4 (by kernel_rfl) rfl ?_
   refine OpZ.hcall rfl rfl rfl rfl ((pc_alw2 wSet (wTab l w [])).fd (B' := [[.d (.int .i64 c.k), .d (.str c.n), .d (.str c.v), .d (.vec 4 (CT.ds c.l))], [.map 0], [.d (.str wFac)], [.d (.str wSet)]]) [1] [] [0] rfl) ?_
   refine AnyZ.one 5 (by kernel_rfl) rfl ?_
   refine OpZ.hcall rfl rfl rfl rfl (ph.fd (B' := [[.d (.int .i64 c.k), .d (.str c.n), .d (.str c.v), .d (.vec 4 (CT.ds c.l))], [.map 0], [.d (.str wFac)], [.d (.str wSet)]]) [1, 2, 3] [] [0] rfl) ?_
   refine AnyZ.nil (by kernel_rfl) ?_
   apply Yn
   refine W.cond rfl (fun c12=>?_) fun c12=>?_
   ·skip
    have hh : holdW c (wTab l w []) = true := by rw [holdW_eq]; assumption
    iterate 6 first|refine Yp rfl ?_|apply Yw|apply Y4|apply Yr
    refine loop_n (prodL l - (w + 1)) (by omega) ⟨w + 1, hwl, rfl, _, _, _, _, rfl, rfl, rfl, congrArg (fun x => V.one (C.d (D.bool x))) (alwA_t hh), congrArg (fun x => V.one (C.d (D.bool x))) (alwN_t hh), rfl, inc_i64 (by omega), trivial⟩
   have hh : holdW c (wTab l w []) = false := by rw [holdW_eq]; assumption
   iterate 6 first|refine Yp rfl ?_|apply Yw|apply Y4|apply Yr
   refine loop_n (prodL l - (w + 1)) (by omega) ⟨w + 1, hwl, rfl, _, _, _, _, rfl, rfl, rfl, congrArg (fun x => V.one (C.d (D.bool x))) (alwA_f hh), congrArg (fun x => V.one (C.d (D.bool x))) (alwN_f hh), rfl, inc_i64 (by omega), trivial⟩
  refine OpZ.hcall rfl rfl rfl rfl ((pc_alw2 wSet (wTab l w [])).fd (B' := [[.d (.int .i64 c.k), .d (.str c.n), .d (.str c.v), .d (.vec 4 (CT.ds c.l))], [.map 0], [.d (.str wFac)], [.d (.str wSet)]]) [1] [] [0] rfl) ?_
  refine AnyZ.one 0 (by kernel_rfl) rfl ?_
  refine OpZ.d ?_
  refine Ym rfl rfl ?_
  refine WD.nil ?_
  refine AnyZ.one 5 (by kernel_rfl) rfl ?_
  refine OpZ.hcall rfl rfl rfl rfl (ph.fd (B' := [[.d (.int .i64 c.k), .d (.str c.n), .d (.str c.v), .d (.vec 4 (CT.ds c.l))], [.map 0], [.d (.str wFac)], [.d (.str wSet)]]) [1, 2, 3] [] [0] rfl) ?_
  refine AnyZ.nil (by kernel_rfl) ?_
  apply Yn
  refine W.cond rfl (fun c13=>?_) fun c13=>?_
  ·skip
   have hh : holdW c (wTab l w []) = true := by rw [holdW_eq]; assumption
   iterate 6 first|refine Yp rfl ?_|apply Yw|apply Y4|apply Yr
   refine loop_n (prodL l - (w + 1)) (by omega) ⟨w + 1, hwl, rfl, _, _, _, _, rfl, rfl, rfl, congrArg (fun x => V.one (C.d (D.bool x))) (alwA_t hh), congrArg (fun x => V.one (C.d (D.bool x))) (alwN_t hh), rfl, inc_i64 (by omega), trivial⟩
  have hh : holdW c (wTab l w []) = false := by rw [holdW_eq]; assumption
  iterate 6 first|refine Yp rfl ?_|apply Yw|apply Y4|apply Yr
  refine loop_n (prodL l - (w + 1)) (by omega) ⟨w + 1, hwl, rfl, _, _, _, _, rfl, rfl, rfl, congrArg (fun x => V.one (C.d (D.bool x))) (alwA_f hh), congrArg (fun x => V.one (C.d (D.bool x))) (alwN_f hh), rfl, inc_i64 (by omega), trivial⟩
 have hwl : w = prodL l := by have := of_decide_eq_false (by assumption : decide ((w : Int) < ((prodL l : Nat) : Int)) = false); omega
 subst hwl
 iterate 12 first|refine Yp rfl ?_|apply Ye|apply Yt|apply Yx|apply Yq|apply Y3|apply Yn
 exact Yz rfl rfl rfl (by rw [hres]; rfl)
end
section
open Go
theorem getB_set (s : SetT) (k q : L8) : getL beqS false (setL beqS s k true) q = (q == k || getL beqS false s q) := by
  induction s with
  | nil =>
    show (bif beqS q k then true else false) = (q == k || false)
    unfold beqS
    cases (q == k) <;> rfl
  | cons x l ih =>
    unfold setL
    by_cases h : (k == x.1) = true
    · have hk : k = x.1 := by simpa using h
      simp only [beqS, h, cond_true]
      show (bif beqS q k then true else getL beqS false l q) = (q == k || (bif beqS q x.1 then x.2 else getL beqS false l q))
      unfold beqS
      rw [← hk]
      cases (q == k) <;> rfl
    · simp only [beqS, h, cond_false]
      show (bif beqS q x.1 then x.2 else getL beqS false (setL beqS l k true) q) = (q == k || (bif beqS q x.1 then x.2 else getL beqS false l q))
      rw [ih]
      unfold beqS
      by_cases h2 : (q == x.1) = true
      · have : (q == k) = false := by
          cases hq : (q == k) with
          | false => rfl
          | true =>
            have e1 : q = k := by simpa using hq
            have e2 : q = x.1 := by simpa using h2
            exact absurd (by rw [← e1, e2]; simp) h
        rw [h2, this]; rfl
      · rw [Bool.eq_false_iff.2 h2]; rfl
def knT (l : List Dom) (i : Nat) : SetT := (l.take i).foldl (fun s d => setL beqS s (markB d) true) []
def seT (vs : List L8) (k : Nat) : SetT := (vs.take k).foldl (fun s v => setL beqS s v true) []
theorem knT_0 (l : List Dom) : knT l 0 = [] := rfl
theorem seT_0 (vs : List L8) : seT vs 0 = [] := rfl
theorem knT_s {l : List Dom} {i : Nat} (hi : i < l.length) {q : L8} (hq : markB (l.getD i Dom.z) = q) : setL beqS (knT l i) q true = knT l (i + 1) := by
 unfold knT; rw [take_getD (d := Dom.z) hi, List.foldl_append, ← hq]; rfl
theorem seT_s {vs : List L8} {k : Nat} (hk : k < vs.length) : setL beqS (seT vs k) (vs.getD k []) true = seT vs (k + 1) := by
 unfold seT; rw [take_getD (d := ([] : L8)) hk, List.foldl_append]; rfl
theorem knT_get (l : List Dom) (q : L8) : ∀ i, i ≤ l.length → getL beqS false (knT l i) q = (l.take i).any fun d => markB d == q
  | 0, _ => rfl
  | i + 1, hi => by
    have ih := knT_get l q i (by omega)
    rw [← knT_s (by omega) rfl, getB_set, ih, take_getD (d := Dom.z) (by omega), List.any_append]
    simp only [List.any_cons, List.any_nil, Bool.or_false]
    rw [Bool.or_comm]
    congr 1
    rw [Bool.eq_iff_iff]; simp only [beq_iff_eq]; exact eq_comm
theorem seT_get (vs : List L8) (q : L8) : ∀ k, k ≤ vs.length → getL beqS false (seT vs k) q = (vs.take k).any fun y => q == y
  | 0, _ => rfl
  | k + 1, hk => by
    have ih := seT_get vs q k (by omega)
    rw [← seT_s (by omega), getB_set, ih, take_getD (d := ([] : L8)) (by omega), List.any_append]
    simp only [List.any_cons, List.any_nil, Bool.or_false]
    rw [Bool.or_comm]
theorem kn_like {l : List Dom} {i : Nat} (hi : i < l.length) {q : L8} (hq : markB (l.getD i Dom.z) = q) : getL beqS false (knT l i) q = (l.take i).any (likeD (l.getD i Dom.z)) := by
 rw [knT_get l q i (by omega), ← hq]
 exact congrArg (fun f => (l.take i).any f) (funext fun d => mark_same d _)
theorem kn_unk (l : List Dom) (q : L8) : (!getL beqS false (knT l l.length) q) = unkn l q := by
 rw [knT_get l q l.length (Nat.le_refl _), List.take_length]; rfl
theorem dR_1 {c : CT} {l : List Dom} {e : Int} (h : domF l = e) (he : e ≠ 0) : domR c l = e := by
 unfold domR; rw [h, if_pos (by simpa using he)]
theorem dom_zero {c : CT} {l : List Dom} (h : domR c l = 0) : domF l = 0 := by
 unfold domR at h
 split at h
 ·skip
  exact h
 ·skip
  rename_i h1; simpa using h1
theorem dF_4 {l : List Dom} (h : decide ((l.length : Int) > 20) = true) : domF l = 4 := if_pos h
theorem dF_e {l : List Dom} (h : decide ((l.length : Int) > 20) = false) {e : Int} (he : domsE l = e) : domF l = e := by unfold domF; rw [if_neg (Bool.eq_false_iff.1 h), he]
section
variable {c : CT} {l : List Dom} (h : domF l = 0)
include h
theorem dR_2 (h2 : prodL l > 1000) : domR c l = 4 := by unfold domR; rw [if_neg (by rw [h]; decide), if_pos (by simpa using h2)]
variable (h2 : ¬ prodL l > 1000)
include h2
theorem dR_3 (h3 : (usesP c).any (unkn l) = true) : domR c l = 10 := by unfold domR; rw [if_neg (by rw [h]; decide), if_neg (by simpa using h2), if_pos h3]
theorem dR_4 (h3 : (usesP c).any (unkn l) = false) : domR c l = 0 := by unfold domR; rw [if_neg (by rw [h]; decide), if_neg (by simpa using h2), if_neg (Bool.eq_false_iff.1 h3)]
end
theorem set_new : ∀ {t : Tab} {k v : L8}, hasL beqS t k = false → setL beqS t k v = t ++ [(k, v)]
  | [], k, v, _ => rfl
  | x :: l, k, v, h => by
    have h1 : (beqS k x.1 || hasL beqS l k) = false := h
    rw [Bool.or_eq_false_iff] at h1
    unfold setL
    rw [h1.1, cond_false, set_new h1.2]; rfl
theorem del_new : ∀ {t : Tab} {k v : L8}, hasL beqS t k = false → delL beqS (t ++ [(k, v)]) k = t
  | [], k, v, _ => by
    show (bif beqS k k then [] else _) = []
    have : beqS k k = true := by simp [beqS]
    rw [this]; rfl
  | x :: l, k, v, h => by
    have h1 : (beqS k x.1 || hasL beqS l k) = false := h
    rw [Bool.or_eq_false_iff] at h1
    show (bif beqS k x.1 then _ else x :: delL beqS (l ++ [(k, v)]) k) = x :: l
    rw [h1.1, cond_false, del_new h1.2]
theorem del_none : ∀ {t : Tab} {k : L8}, hasL beqS t k = false → delL beqS t k = t
  | [], k, _ => rfl
  | x :: l, k, h => by
    have h1 : (beqS k x.1 || hasL beqS l k) = false := h
    rw [Bool.or_eq_false_iff] at h1
    show (bif beqS k x.1 then _ else x :: delL beqS l k) = x :: l
    rw [h1.1, cond_false, del_none h1.2]
theorem set_over : ∀ {t : Tab} {k a b : L8}, setL beqS (setL beqS t k a) k b = setL beqS t k b
  | [], k, a, b => by
    show (bif beqS k k then [(k, b)] else _) = [(k, b)]
    have : beqS k k = true := by simp [beqS]
    rw [this]; rfl
  | x :: l, k, a, b => by
    have hkk : beqS k k = true := by simp [beqS]
    rw [show setL beqS (x :: l) k a = (bif beqS k x.1 then (k, a) :: l else x :: setL beqS l k a) from rfl, show setL beqS (x :: l) k b = (bif beqS k x.1 then (k, b) :: l else x :: setL beqS l k b) from rfl]
    cases h : beqS k x.1 with
    | true =>
      show (bif beqS k k then (k, b) :: l else _) = (k, b) :: l
      rw [hkk]; rfl
    | false =>
      show (bif beqS k x.1 then _ else x :: setL beqS (setL beqS l k a) k b) = x :: setL beqS l k b
      rw [h, cond_false, set_over]
def tabV (t : Tab) (k : L8) (vs : List L8) : Nat → Tab
 | 0 => t
 | i + 1 => setL beqS t k (vs.getD i [])
theorem tabV_s (t : Tab) (k : L8) (vs : List L8) (i : Nat) : setL beqS (tabV t k vs i) k (vs.getD i []) = tabV t k vs (i + 1) := by
 cases i with
 | zero => rfl
 | succ i => exact set_over
theorem tabV_del {t : Tab} {k : L8} (h : hasL beqS t k = false) (vs : List L8) (i : Nat) : delL beqS (tabV t k vs i) k = t := by
 cases i with
 | zero => exact del_none h
 | succ i => show delL beqS (setL beqS t k _) k = t; rw [set_new h, del_new h]
def Fresh (l : List Dom) (k : Nat) (F G : Tab) : Prop := ∀ j, k ≤ j → j < l.length → ((l.getD j Dom.z).st = false → hasL beqS F (l.getD j Dom.z).n = false) ∧ ((l.getD j Dom.z).st = true → hasL beqS G (l.getD j Dom.z).n = false)
theorem fresh_0 (l : List Dom) : Fresh l 0 [] [] := fun j _ _ => ⟨fun _ => rfl, fun _ => rfl⟩
theorem Fresh.up {l : List Dom} {k : Nat} {F G : Tab} (h : Fresh l k F G) : Fresh l (k + 1) F G := fun j hj hl => h j (by omega) hl
def Apart (l : List Dom) : Prop := ∀ i j, i < j → j < l.length → likeD (l.getD j Dom.z) (l.getD i Dom.z) = false
theorem apart_of {l : List Dom} (h : domF l = 0) : Apart l := fun i j hij hj => by
 have hd := doms_at (l := l) (i := j) (by rw [h]; rfl) hj
 unfold domAt at hd
 split at hd
 ·skip
  cases hd
 ·skip
  split at hd
  ·skip
   cases hd
  ·skip
   rename_i h2
   have h3 : (l.take j).any (likeD (l.getD j Dom.z)) = false := Bool.eq_false_iff.2 h2
   rw [List.any_eq_false] at h3
   have hm : l.getD i Dom.z ∈ l.take j := by
    have : (l.take j).getD i Dom.z = l.getD i Dom.z := by
     rw [List.getD_eq_getElem?_getD, List.getElem?_take, if_pos hij, List.getD_eq_getElem?_getD]
    rw [← this]; exact mem_getD (by simp; omega)
   exact Bool.eq_false_iff.2 (h3 _ hm)
theorem has_set (t : Tab) (k v q : L8) : hasL beqS (setL beqS t k v) q = (q == k || hasL beqS t q) := by
 have := congrArg Prod.snd (tell_set t k v q)
 have h1 : hasL beqS (setL beqS t k v) q = (if q == k then (v, true) else (getL beqS [] t q, hasL beqS t q)).2 := this
 rw [h1]
 cases (q == k) <;> rfl
section
variable {l : List Dom} {k : Nat} {F G : Tab} (ha : Apart l) (h : Fresh l k F G) (v : L8)
include ha h
theorem Fresh.setF (hs : (l.getD k Dom.z).st = false) : Fresh l (k + 1) (setL beqS F (l.getD k Dom.z).n v) G := fun j hj hl => by
 refine ⟨fun h1 => ?_, (h j (by omega) hl).2⟩
 rw [has_set, (h j (by omega) hl).1 h1, Bool.or_false]
 have := ha k j (by omega) hl
 unfold likeD at this
 rw [hs, h1] at this
 simp only [beq_self_eq_true, Bool.and_true] at this
 rw [← this, Bool.eq_iff_iff]; simp only [beq_iff_eq]; exact eq_comm
theorem Fresh.setG (hs : (l.getD k Dom.z).st = true) : Fresh l (k + 1) F (setL beqS G (l.getD k Dom.z).n v) := fun j hj hl => by
 refine ⟨(h j (by omega) hl).1, fun h1 => ?_⟩
 rw [has_set, (h j (by omega) hl).2 h1, Bool.or_false]
 have := ha k j (by omega) hl
 unfold likeD at this
 rw [hs, h1] at this
 simp only [beq_self_eq_true, Bool.and_true] at this
 rw [← this, Bool.eq_iff_iff]; simp only [beq_iff_eq]; exact eq_comm
end
def vAll (φ : Tab → Tab → Bool) (l : List Dom) (k : Nat) (F G : Tab) (i : Nat) : Bool :=
 ((l.getD k Dom.z).vs.take i).all fun v => leafs φ (l.drop (k + 1)) (if (l.getD k Dom.z).st then F else setL beqS F (l.getD k Dom.z).n v) (if (l.getD k Dom.z).st then setL beqS G (l.getD k Dom.z).n v else G)
theorem vAll_0 (φ : Tab → Tab → Bool) (l : List Dom) (k : Nat) (F G : Tab) : vAll φ l k F G 0 = true := rfl
theorem vAll_s {φ : Tab → Tab → Bool} {l : List Dom} {k : Nat} {F G : Tab} {i : Nat} (hi : i < (l.getD k Dom.z).vs.length) : vAll φ l k F G (i + 1) = (vAll φ l k F G i && leafs φ (l.drop (k + 1)) (if (l.getD k Dom.z).st then F else tabV F (l.getD k Dom.z).n (l.getD k Dom.z).vs (i + 1)) (if (l.getD k Dom.z).st then tabV G (l.getD k Dom.z).n (l.getD k Dom.z).vs (i + 1) else G)) := by
 unfold vAll
 rw [take_getD (d := ([] : L8)) hi, List.all_append]
 simp only [List.all_cons, List.all_nil, Bool.and_true]; rfl
theorem drop_dom {l : List Dom} {k : Nat} (hk : k < l.length) : l.drop k = l.getD k Dom.z :: l.drop (k + 1) := by
 rw [List.drop_eq_getElem_cons hk, List.getD_eq_getElem?_getD, List.getElem?_eq_getElem hk]; rfl
theorem leafs_s {φ : Tab → Tab → Bool} {l : List Dom} {k : Nat} {F G : Tab} (hk : k < l.length) {i : Nat} (hi : (l.getD k Dom.z).vs.length ≤ i) :
  leafs φ (l.drop k) F G = (vAll φ l k F G i && (if (l.getD k Dom.z).ab then leafs φ (l.drop (k + 1)) F G else true)) := by
 rw [drop_dom hk]
 unfold vAll
 rw [List.take_of_length_le hi]; rfl
theorem leafs_end {φ : Tab → Tab → Bool} {l : List Dom} {k : Nat} {F G : Tab} (hk : l.length ≤ k) : leafs φ (l.drop k) F G = φ F G := by
 rw [List.drop_of_length_le hk]; rfl
section
variable {φ : Tab → Tab → Bool} {l : List Dom} {k : Nat} {F G : Tab} {i : Nat} {a : Bool}
theorem vnext_t (hi : i < (l.getD k Dom.z).vs.length) (hst : (l.getD k Dom.z).st = true) : ((a && vAll φ l k F G i) && leafs φ (l.drop (k + 1)) F (tabV G (l.getD k Dom.z).n (l.getD k Dom.z).vs (i + 1))) = (a && vAll φ l k F G (i + 1)) := by
 rw [vAll_s hi, if_pos hst, if_pos hst, Bool.and_assoc]
theorem vnext_f (hi : i < (l.getD k Dom.z).vs.length) (hst : (l.getD k Dom.z).st = false) : ((a && vAll φ l k F G i) && leafs φ (l.drop (k + 1)) (tabV F (l.getD k Dom.z).n (l.getD k Dom.z).vs (i + 1)) G) = (a && vAll φ l k F G (i + 1)) := by
 rw [vAll_s hi, if_neg (Bool.eq_false_iff.1 hst), if_neg (Bool.eq_false_iff.1 hst), Bool.and_assoc]
theorem lend_t (hk : k < l.length) (hi : (l.getD k Dom.z).vs.length ≤ i) (hab : (l.getD k Dom.z).ab = true) : ((a && vAll φ l k F G i) && leafs φ (l.drop (k + 1)) F G) = (a && leafs φ (l.drop k) F G) := by
 rw [leafs_s hk hi, if_pos hab, Bool.and_assoc]
theorem lend_f (hk : k < l.length) (hi : (l.getD k Dom.z).vs.length ≤ i) (hab : (l.getD k Dom.z).ab = false) : (a && vAll φ l k F G i) = (a && leafs φ (l.drop k) F G) := by
 rw [leafs_s hk hi, if_neg (Bool.eq_false_iff.1 hab), Bool.and_true]
theorem v0 : (a && vAll φ l k F G 0) = a := by rw [vAll_0, Bool.and_true]
end
end
section
open Go
open Go.RowKit
attribute [local irreducible] thenK blockK W
attribute [local irreducible] pathB nameB valueB domsE domAt valE valAt capW prodL markB sizeD okN usesP checkP unkn domR domF CT.ho tellT leafs vAll holdT
theorem pc_outref2_DomainsError (c : CT) (hc : CtBig c) (hw : c.w ≤ 1048576) (l : List Dom) (hb : DomB l) :
  PureCall Tryz.prog J 8 [ctV c, .one (.d (.vec 4 (l.map domD)))] (.one (.d (.int .i64 (domR c l)))) := by
 have hn := hb.n
 have hul : (usesP c).length ≤ 1000000000 := by
  rw [uses_eq, sortS_len, List.length_map]
  have := (nm_facts c).2.2
  omega
 refine PureCall.of_body tOk (fn := Tryz.f8) Tryz.func8 (by kernel_rfl) rfl (Nat.le_of_ble_eq_true rfl) (fun E => ?_)
 iterate 10 first|refine Yp rfl ?_|refine S.box rfl rfl rfl rfl ?_|apply Y1|apply Yn|apply Ys
 refine W.cond rfl (fun c1=>?_) fun c1=>?_
 ·skip
  have hres := dR_1 (c := c) (dF_4 (l := l) (by simpa using c1)) (by decide)
  apply Y1
  refine Yp rfl ?_
  apply Yn
  apply Yt
  apply Yu
  exact Yz rfl rfl rfl (by rw [hres]; rfl)
 have c1 : decide ((l.length : Int) > 20) = false := by simpa using c1
 apply Yk
 apply Y3
 refine S.makeMap rfl ?_
 iterate 11 first|refine Yp rfl ?_|apply Yb|apply Y1|apply Y3|apply Yn|apply Ys
 refine W.loop (fun k st => ∃ i : Nat, i ≤ l.length ∧ OkTo (domAt l) i ∧ k = l.length - i ∧ ∃ t b2 r2 m2, st = ⟨t, [[.d (.int .i64 c.k), .d (.str c.n), .d (.str c.v), .d (.vec 4 (CT.ds c.l))]] ++ b2, [] ++ r2, [setD (knT l i)] ++ m2⟩ ∧ holdsL t [(1, .one (.d (.vec 4 (l.map domD)))), (2, .one (.ptr 0 0)), (5, .one (.map 0)), (6, .one (.d (.int .i64 ((capW 1048576 (l.take i) : Nat) : Int)))), (21, .one (.d (.vec 4 (l.map domD)))), (22, .one (.d (.int .i64 ((l.map domD).length : Int)))), (23, .one (.d (.int .i64 (i : Int))))]) (l.length) ⟨0, Nat.zero_le _, ok_0 _, rfl, _, _, _, _, rfl, rfl, rfl, rfl, (by unfold capW prodL; rfl), rfl, rfl, rfl, trivial⟩ ?_
 rintro k0 _ ⟨i, f0_0, f0_1, rfl, t0, bb0, rr0, mm0, rfl, hh0⟩
 refine W.keepR _ _ _ _ _ _ _ hh0 rfl ?_
 apply Y1
 refine Yp rfl ?_
 apply Yn
 apply Ys
 refine W.cond rfl (fun c2=>?_) fun c2=>?_
 ·skip
  have hi := row_lt (by assumption)
  have hdi := dom_at hb hi
  apply Yk
  apply Yn
  apply Ys
  apply Yb
  apply Y1
  refine YE rfl (row_ok hi) (row_at Dom.z hi) rfl ?_
  iterate 6 first|refine Yp rfl ?_|refine S.store tOk rfl rfl rfl rfl rfl rfl rfl rfl ?_|refine S.alloc tOk rfl rfl rfl rfl ?_|apply Y3
  refine YP rfl (cat_ok (by simp [-List.getD_eq_getElem?_getD]; omega)) rfl ?_
  iterate 4 first|refine Yp rfl ?_|apply Y3
  refine S.call rfl rfl rfl rfl rfl (pc_outref2_NameOf (l.getD i Dom.z).n (by omega)) ?_
  iterate 7 first|refine Yp rfl ?_|apply Y1|apply Yn|apply Ys
  refine W.cond rfl (fun c3=>?_) fun c3=>?_
  ·skip
   have hst : (l.getD i Dom.z).st = true := by assumption
   have hmk := mark_t hst
   have hok := okN_t hst
   refine W.regionD mixed (by kernel_rfl) ?_
   iterate 2 refine Ym rfl rfl ?_
   refine D.pure tOk zOk rfl rfl (cat_ok (by simp [-List.getD_eq_getElem?_getD]; omega)) rfl ?_
   iterate 2 refine Ym rfl rfl ?_
   refine D.call rfl rfl rfl rfl rfl (pc_outref2_PathOf (l.getD i Dom.z).n (by omega)) ?_
   iterate 2 refine Ym rfl rfl ?_
   iterate 8 first|refine Yp rfl ?_|apply Yb|apply Y1|apply Yn|apply Ys
   refine W.cond rfl (fun c4=>?_) fun c4=>?_
   ·skip
    have e5 : (!okN (l.getD i Dom.z)) = true := by rw [hok]; assumption
    have hres := dR_1 (c := c) (dF_e c1 (doms_hit hi f0_1 (da_5 e5) (by decide))) (by decide)
    iterate 11 first|apply Yu|apply Yv|apply Yt|refine Yp rfl ?_|apply Y1|apply Yn
    exact Yz rfl rfl rfl (by rw [hres]; rfl)
   have e5 : (!okN (l.getD i Dom.z)) = false := by rw [hok]; assumption
   apply Y1
   iterate 2 refine Yp rfl ?_
   refine S.lookup tOk keyS (fD := fun v : Bool => DV.one (.bool v)) false (knT l i) rfl rfl rfl rfl rfl rfl rfl rfl rfl rfl (show mapV false _ _ = _ from rfl) ?_
   refine Yp rfl ?_
   apply Yn
   refine W.cond rfl (fun c5=>?_) fun c5=>?_
   ·skip
    have e6 : (l.take i).any (likeD (l.getD i Dom.z)) = true := by rw [← kn_like hi hmk]; assumption
    have hres := dR_1 (c := c) (dF_e c1 (doms_hit hi f0_1 (da_6 e5 e6) (by decide))) (by decide)
    iterate 11 first|apply Yu|apply Yv|apply Yt|refine Yp rfl ?_|apply Y1|apply Yn
    exact Yz rfl rfl rfl (by rw [hres]; rfl)
   have e6 : (l.take i).any (likeD (l.getD i Dom.z)) = false := by rw [← kn_like hi hmk]; assumption
   iterate 12 first|refine S.pickAnd tOk zOk rfl rfl tg ?_|refine Yp rfl ?_|refine Yg rfl rfl tg ?_|apply Y1|apply Yn
   refine W.cond rfl (fun c6=>?_) fun c6=>?_
   ·skip
    have e9 : ((((l.getD i Dom.z).vs.length : Int) == 0) && !(l.getD i Dom.z).ab) = true := by rw [← List.length_map (f := fun x => ([.str x] : List D))]; assumption
    have hres := dR_1 (c := c) (dF_e c1 (doms_hit hi f0_1 (da_9 e5 e6 e9) (by decide))) (by decide)
    iterate 11 first|apply Yu|apply Yv|apply Yt|refine Yp rfl ?_|apply Y1|apply Yn
    exact Yz rfl rfl rfl (by rw [hres]; rfl)
   have e9 : ((((l.getD i Dom.z).vs.length : Int) == 0) && !(l.getD i Dom.z).ab) = false := by rw [← List.length_map (f := fun x => ([.str x] : List D))]; assumption
   apply Y1
   iterate 5 refine Yp rfl ?_
   apply Yn
   refine W.cond rfl (fun c7=>?_) fun c7=>?_
   ·skip
    have e4 : decide (((l.getD i Dom.z).vs.length : Int) > 20) = true := by rw [← List.length_map (f := fun x => ([.str x] : List D))]; assumption
    have hres := dR_1 (c := c) (dF_e c1 (doms_hit hi f0_1 (da_4 e5 e6 e9 e4) (by decide))) (by decide)
    iterate 11 first|apply Yu|apply Yv|apply Yt|refine Yp rfl ?_|apply Y1|apply Yn
    exact Yz rfl rfl rfl (by rw [hres]; rfl)
   have e4 : decide (((l.getD i Dom.z).vs.length : Int) > 20) = false := by rw [← List.length_map (f := fun x => ([.str x] : List D))]; assumption
   apply Yk
   apply Yw
   apply Y3
   refine S.makeMap rfl ?_
   iterate 10 first|refine Yp rfl ?_|apply Yb|apply Y1|apply Yn|apply Ys
   refine W.loop (fun k st => ∃ j : Nat, j ≤ (l.getD i Dom.z).vs.length ∧ OkTo (valAt (l.getD i Dom.z).vs) j ∧ k = (l.getD i Dom.z).vs.length - j ∧ ∃ t b2 r2 m2, st = ⟨t, [[.d (.int .i64 c.k), .d (.str c.n), .d (.str c.v), .d (.vec 4 (CT.ds c.l))], [.d (.str (l.getD i Dom.z).n), .d (.bool (l.getD i Dom.z).st), .d (.bool (l.getD i Dom.z).ab), .d (.vec 1 ((l.getD i Dom.z).vs.map fun x => [.str x]))]] ++ b2, [] ++ r2, [setD (knT l i), setD (seT (l.getD i Dom.z).vs j)] ++ m2⟩ ∧ holdsL t [(1, .one (.d (.vec 4 (l.map domD)))), (2, .one (.ptr 0 0)), (5, .one (.map 0)), (6, .one (.d (.int .i64 ((capW 1048576 (l.take i) : Nat) : Int)))), (21, .one (.d (.vec 4 (l.map domD)))), (22, .one (.d (.int .i64 ((l.map domD).length : Int)))), (23, .one (.d (.int .i64 (i : Int)))), (8, .one (.ptr 1 0)), (11, .one (.map 1)), (9, .one (.d (.str (markB (l.getD i Dom.z))))), (65, .one (.d (.vec 1 ((l.getD i Dom.z).vs.map fun x => [.str x])))), (66, .one (.d (.int .i64 (((l.getD i Dom.z).vs.map fun x => ([.str x] : List D)).length : Int)))), (67, .one (.d (.int .i64 (j : Int))))]) ((l.getD i Dom.z).vs.length) ⟨0, Nat.zero_le _, ok_0 _, rfl, _, _, _, _, rfl, rfl, rfl, rfl, rfl, rfl, rfl, rfl, rfl, rfl, congrArg (fun x => V.one (C.d (D.str x))) hmk.symm, rfl, rfl, rfl, trivial⟩ ?_
   rintro k3 _ ⟨j, f3_0, f3_1, rfl, t3, bb3, rr3, mm3, rfl, hh3⟩
   refine W.keepR _ _ _ _ _ _ _ hh3 rfl ?_
   apply Y1
   refine Yp rfl ?_
   apply Yn
   apply Ys
   refine W.cond rfl (fun c8=>?_) fun c8=>?_
   ·skip
    have hk := row_lt (by assumption)
    have hvl := hdi.2.2 ((l.getD i Dom.z).vs.getD j []) (mem_getD (d := ([] : L8)) hk)
    apply Yk
    apply Yn
    apply Ys
    apply Yb
    apply Y1
    refine YE rfl (row_ok hk) (row_at [] hk) rfl ?_
    iterate 6 first|refine Yp rfl ?_|apply Y1|apply Ys|apply Yn
    refine S.call rfl rfl rfl rfl rfl (pc_outref2_ValueOf ((l.getD i Dom.z).vs.getD j []) (by omega)) ?_
    refine Yp rfl ?_
    apply Yn
    refine W.cond rfl (fun c9=>?_) fun c9=>?_
    ·skip
     have e2 : (!valueB ((l.getD i Dom.z).vs.getD j [])) = true := by assumption
     have hres := dR_1 (c := c) (dF_e c1 (doms_hit hi f0_1 ((da_v e5 e6 e9 e4).trans (vals_hit hk f3_1 (va_2 e2) (by decide))) (by decide))) (by decide)
     iterate 15 first|apply Yu|apply Yv|apply Yt|refine Yp rfl ?_|apply Y1|apply Yn
     exact Yz rfl rfl rfl (by rw [hres]; rfl)
    have e2 : (!valueB ((l.getD i Dom.z).vs.getD j [])) = false := by assumption
    iterate 6 first|refine Yp rfl ?_|apply Yk|apply Y1|apply Ys|apply Yn
    refine S.lookup tOk keyS (fD := fun v : Bool => DV.one (.bool v)) false (seT (l.getD i Dom.z).vs j) rfl rfl rfl rfl rfl rfl rfl rfl rfl rfl (show mapV false _ _ = _ from rfl) ?_
    apply Yn
    refine W.cond rfl (fun c10=>?_) fun c10=>?_
    ·skip
     have h6 : ((l.getD i Dom.z).vs.take j).any (fun y => ((l.getD i Dom.z).vs.getD j []) == y) = true := by rw [← seT_get (l.getD i Dom.z).vs ((l.getD i Dom.z).vs.getD j []) j (by omega)]; assumption
     have hres := dR_1 (c := c) (dF_e c1 (doms_hit hi f0_1 ((da_v e5 e6 e9 e4).trans (vals_hit hk f3_1 (va_6 e2 h6) (by decide))) (by decide))) (by decide)
     iterate 15 first|apply Yu|apply Yv|apply Yt|refine Yp rfl ?_|apply Y1|apply Yn
     exact Yz rfl rfl rfl (by rw [hres]; rfl)
    have h6 : ((l.getD i Dom.z).vs.take j).any (fun y => ((l.getD i Dom.z).vs.getD j []) == y) = false := by rw [← seT_get (l.getD i Dom.z).vs ((l.getD i Dom.z).vs.getD j []) j (by omega)]; assumption
    iterate 4 first|refine Yp rfl ?_|apply Yk|apply Y4
    refine S.mapUpdate tOk keyS (fD := fun v : Bool => DV.one (.bool v)) true (seT (l.getD i Dom.z).vs j) rfl rfl rfl rfl rfl rfl rfl rfl (show _ = [setD (knT l i), setD (seT (l.getD i Dom.z).vs (j + 1))] from congrArg (fun x => [setD (knT l i), setD x]) (seT_s hk)) ?_
    iterate 4 first|refine Yp rfl ?_|apply Yw|apply Y4
    refine loop_n ((l.getD i Dom.z).vs.length - (j + 1)) (by omega) ⟨j + 1, hk, ok_s f3_1 (va_0 e2 h6), rfl, _, _, _, _, rfl, rfl, rfl, rfl, rfl, rfl, rfl, rfl, rfl, rfl, rfl, rfl, rfl, inc_i64 (by omega), trivial⟩
   have hk := row_ge (by assumption)
   have hd0 : domAt l i = 0 := (da_v e5 e6 e9 e4).trans (vals_none hk f3_1)
   have hpos := da_pos hd0
   have hsl := size_le hpos.2.1
   have hcl := cap_le 1048576 (l.take i)
   iterate 7 first|refine Yp rfl ?_|apply Ye|apply Yx|apply Yq|apply Y3
   refine S.mapUpdate tOk keyS (fD := fun v : Bool => DV.one (.bool v)) true (knT l i) rfl rfl rfl rfl rfl rfl rfl rfl (show _ = [setD (knT l (i + 1)), setD (seT (l.getD i Dom.z).vs j)] from congrArg (fun x => [setD x, setD (seT (l.getD i Dom.z).vs j)]) (knT_s hi rfl)) ?_
   iterate 11 first|refine Yp rfl ?_|apply Y1|apply Y3|apply Yn|apply Ys
   refine W.cond rfl (fun c11=>?_) fun c11=>?_
   ·skip
    have hab : (l.getD i Dom.z).ab = true := by assumption
    have hsz : ((sizeD (l.getD i Dom.z) : Nat) : Int) = ((sizeD (l.getD i Dom.z) : Nat) : Int) := rfl
    apply Yr
    refine Yp rfl ?_
    refine YE rfl rfl (size_t hab hpos.2.1) rfl ?_
    iterate 4 first|refine Yp rfl ?_|apply Y4
    refine YE rfl rfl (mul_cap hsz hcl (by decide) hsl) rfl ?_
    iterate 6 first|refine Yp rfl ?_|apply Yw|apply Y4
    refine loop_n (l.length - (i + 1)) (by omega) ⟨i + 1, hi, ok_s f0_1 hd0, rfl, _, _, _, _, rfl, rfl, rfl, rfl, min_cap rfl hi hpos.1, rfl, rfl, inc_i64 (by omega), trivial⟩
   have hab : (l.getD i Dom.z).ab = false := by assumption
   have hsz := size_f hab
   apply Yk
   apply Y4
   iterate 2 refine Yp rfl ?_
   refine YE rfl rfl (mul_cap hsz hcl (by decide) hsl) rfl ?_
   iterate 6 first|refine Yp rfl ?_|apply Yw|apply Y4
   refine loop_n (l.length - (i + 1)) (by omega) ⟨i + 1, hi, ok_s f0_1 hd0, rfl, _, _, _, _, rfl, rfl, rfl, rfl, min_cap rfl hi hpos.1, rfl, rfl, inc_i64 (by omega), trivial⟩
  have hst : (l.getD i Dom.z).st = false := by assumption
  have hmk := mark_f hst
  have hok := okN_f hst
  iterate 9 first|refine Yp rfl ?_|apply Yb|apply Yk|apply Y1|apply Yn|apply Ys
  refine W.cond rfl (fun c12=>?_) fun c12=>?_
  ·skip
   have e5 : (!okN (l.getD i Dom.z)) = true := by rw [hok]; assumption
   have hres := dR_1 (c := c) (dF_e c1 (doms_hit hi f0_1 (da_5 e5) (by decide))) (by decide)
   iterate 11 first|apply Yu|apply Yv|apply Yt|refine Yp rfl ?_|apply Y1|apply Yn
   exact Yz rfl rfl rfl (by rw [hres]; rfl)
  have e5 : (!okN (l.getD i Dom.z)) = false := by rw [hok]; assumption
  apply Y1
  iterate 2 refine Yp rfl ?_
  refine S.lookup tOk keyS (fD := fun v : Bool => DV.one (.bool v)) false (knT l i) rfl rfl rfl rfl rfl rfl rfl rfl rfl rfl (show mapV false _ _ = _ from rfl) ?_
  refine Yp rfl ?_
  apply Yn
  refine W.cond rfl (fun c13=>?_) fun c13=>?_
  ·skip
   have e6 : (l.take i).any (likeD (l.getD i Dom.z)) = true := by rw [← kn_like hi hmk]; assumption
   have hres := dR_1 (c := c) (dF_e c1 (doms_hit hi f0_1 (da_6 e5 e6) (by decide))) (by decide)
   iterate 11 first|apply Yu|apply Yv|apply Yt|refine Yp rfl ?_|apply Y1|apply Yn
   exact Yz rfl rfl rfl (by rw [hres]; rfl)
  have e6 : (l.take i).any (likeD (l.getD i Dom.z)) = false := by rw [← kn_like hi hmk]; assumption
  iterate 12 first|refine S.pickAnd tOk zOk rfl rfl tg ?_|refine Yp rfl ?_|refine Yg rfl rfl tg ?_|apply Y1|apply Yn
  refine W.cond rfl (fun c14=>?_) fun c14=>?_
  ·skip
   have e9 : ((((l.getD i Dom.z).vs.length : Int) == 0) && !(l.getD i Dom.z).ab) = true := by rw [← List.length_map (f := fun x => ([.str x] : List D))]; assumption
   have hres := dR_1 (c := c) (dF_e c1 (doms_hit hi f0_1 (da_9 e5 e6 e9) (by decide))) (by decide)
   iterate 11 first|apply Yu|apply Yv|apply Yt|refine Yp rfl ?_|apply Y1|apply Yn
   exact Yz rfl rfl rfl (by rw [hres]; rfl)
  have e9 : ((((l.getD i Dom.z).vs.length : Int) == 0) && !(l.getD i Dom.z).ab) = false := by rw [← List.length_map (f := fun x => ([.str x] : List D))]; assumption
  apply Y1
  iterate 5 refine Yp rfl ?_
  apply Yn
  refine W.cond rfl (fun c15=>?_) fun c15=>?_
  ·skip
   have e4 : decide (((l.getD i Dom.z).vs.length : Int) > 20) = true := by rw [← List.length_map (f := fun x => ([.str x] : List D))]; assumption
   have hres := dR_1 (c := c) (dF_e c1 (doms_hit hi f0_1 (da_4 e5 e6 e9 e4) (by decide))) (by decide)
   iterate 11 first|apply Yu|apply Yv|apply Yt|refine Yp rfl ?_|apply Y1|apply Yn
   exact Yz rfl rfl rfl (by rw [hres]; rfl)
  have e4 : decide (((l.getD i Dom.z).vs.length : Int) > 20) = false := by rw [← List.length_map (f := fun x => ([.str x] : List D))]; assumption
  apply Yk
  apply Yw
  apply Y3
  refine S.makeMap rfl ?_
  iterate 10 first|refine Yp rfl ?_|apply Yb|apply Y1|apply Yn|apply Ys
  refine W.loop (fun k st => ∃ j : Nat, j ≤ (l.getD i Dom.z).vs.length ∧ OkTo (valAt (l.getD i Dom.z).vs) j ∧ k = (l.getD i Dom.z).vs.length - j ∧ ∃ t b2 r2 m2, st = ⟨t, [[.d (.int .i64 c.k), .d (.str c.n), .d (.str c.v), .d (.vec 4 (CT.ds c.l))], [.d (.str (l.getD i Dom.z).n), .d (.bool (l.getD i Dom.z).st), .d (.bool (l.getD i Dom.z).ab), .d (.vec 1 ((l.getD i Dom.z).vs.map fun x => [.str x]))]] ++ b2, [] ++ r2, [setD (knT l i), setD (seT (l.getD i Dom.z).vs j)] ++ m2⟩ ∧ holdsL t [(1, .one (.d (.vec 4 (l.map domD)))), (2, .one (.ptr 0 0)), (5, .one (.map 0)), (6, .one (.d (.int .i64 ((capW 1048576 (l.take i) : Nat) : Int)))), (21, .one (.d (.vec 4 (l.map domD)))), (22, .one (.d (.int .i64 ((l.map domD).length : Int)))), (23, .one (.d (.int .i64 (i : Int)))), (8, .one (.ptr 1 0)), (11, .one (.map 1)), (9, .one (.d (.str (markB (l.getD i Dom.z))))), (65, .one (.d (.vec 1 ((l.getD i Dom.z).vs.map fun x => [.str x])))), (66, .one (.d (.int .i64 (((l.getD i Dom.z).vs.map fun x => ([.str x] : List D)).length : Int)))), (67, .one (.d (.int .i64 (j : Int))))]) ((l.getD i Dom.z).vs.length) ⟨0, Nat.zero_le _, ok_0 _, rfl, _, _, _, _, rfl, rfl, rfl, rfl, rfl, rfl, rfl, rfl, rfl, rfl, congrArg (fun x => V.one (C.d (D.str x))) hmk.symm, rfl, rfl, rfl, trivial⟩ ?_
  rintro k3 _ ⟨j, f3_0, f3_1, rfl, t3, bb3, rr3, mm3, rfl, hh3⟩
  refine W.keepR _ _ _ _ _ _ _ hh3 rfl ?_
  apply Y1
  refine Yp rfl ?_
  apply Yn
  apply Ys
  refine W.cond rfl (fun c16=>?_) fun c16=>?_
  ·skip
   have hk := row_lt (by assumption)
   have hvl := hdi.2.2 ((l.getD i Dom.z).vs.getD j []) (mem_getD (d := ([] : L8)) hk)
   apply Yk
   apply Yn
   apply Ys
   apply Yb
   apply Y1
   refine YE rfl (row_ok hk) (row_at [] hk) rfl ?_
   iterate 6 first|refine Yp rfl ?_|apply Y1|apply Ys|apply Yn
   refine S.call rfl rfl rfl rfl rfl (pc_outref2_ValueOf ((l.getD i Dom.z).vs.getD j []) (by omega)) ?_
   refine Yp rfl ?_
   apply Yn
   refine W.cond rfl (fun c17=>?_) fun c17=>?_
   ·skip
    have e2 : (!valueB ((l.getD i Dom.z).vs.getD j [])) = true := by assumption
    have hres := dR_1 (c := c) (dF_e c1 (doms_hit hi f0_1 ((da_v e5 e6 e9 e4).trans (vals_hit hk f3_1 (va_2 e2) (by decide))) (by decide))) (by decide)
    iterate 15 first|apply Yu|apply Yv|apply Yt|refine Yp rfl ?_|apply Y1|apply Yn
    exact Yz rfl rfl rfl (by rw [hres]; rfl)
   have e2 : (!valueB ((l.getD i Dom.z).vs.getD j [])) = false := by assumption
   iterate 6 first|refine Yp rfl ?_|apply Yk|apply Y1|apply Ys|apply Yn
   refine S.lookup tOk keyS (fD := fun v : Bool => DV.one (.bool v)) false (seT (l.getD i Dom.z).vs j) rfl rfl rfl rfl rfl rfl rfl rfl rfl rfl (show mapV false _ _ = _ from rfl) ?_
   apply Yn
   refine W.cond rfl (fun c18=>?_) fun c18=>?_
   ·skip
    have h6 : ((l.getD i Dom.z).vs.take j).any (fun y => ((l.getD i Dom.z).vs.getD j []) == y) = true := by rw [← seT_get (l.getD i Dom.z).vs ((l.getD i Dom.z).vs.getD j []) j (by omega)]; assumption
    have hres := dR_1 (c := c) (dF_e c1 (doms_hit hi f0_1 ((da_v e5 e6 e9 e4).trans (vals_hit hk f3_1 (va_6 e2 h6) (by decide))) (by decide))) (by decide)
    iterate 15 first|apply Yu|apply Yv|apply Yt|refine Yp rfl ?_|apply Y1|apply Yn
    exact Yz rfl rfl rfl (by rw [hres]; rfl)
   have h6 : ((l.getD i Dom.z).vs.take j).any (fun y => ((l.getD i Dom.z).vs.getD j []) == y) = false := by rw [← seT_get (l.getD i Dom.z).vs ((l.getD i Dom.z).vs.getD j []) j (by omega)]; assumption
   apply Yk
   apply Y4
   iterate 2 refine Yp rfl ?_
   refine S.mapUpdate tOk keyS (fD := fun v : Bool => DV.one (.bool v)) true (seT (l.getD i Dom.z).vs j) rfl rfl rfl rfl rfl rfl rfl rfl (show _ = [setD (knT l i), setD (seT (l.getD i Dom.z).vs (j + 1))] from congrArg (fun x => [setD (knT l i), setD x]) (seT_s hk)) ?_
   apply Yw
   apply Y4
   iterate 2 refine Yp rfl ?_
   refine loop_n ((l.getD i Dom.z).vs.length - (j + 1)) (by omega) ⟨j + 1, hk, ok_s f3_1 (va_0 e2 h6), rfl, _, _, _, _, rfl, rfl, rfl, rfl, rfl, rfl, rfl, rfl, rfl, rfl, rfl, rfl, rfl, inc_i64 (by omega), trivial⟩
  have hk := row_ge (by assumption)
  have hd0 : domAt l i = 0 := (da_v e5 e6 e9 e4).trans (vals_none hk f3_1)
  have hpos := da_pos hd0
  have hsl := size_le hpos.2.1
  have hcl := cap_le 1048576 (l.take i)
  iterate 7 first|refine Yp rfl ?_|apply Ye|apply Yx|apply Yq|apply Y3
  refine S.mapUpdate tOk keyS (fD := fun v : Bool => DV.one (.bool v)) true (knT l i) rfl rfl rfl rfl rfl rfl rfl rfl (show _ = [setD (knT l (i + 1)), setD (seT (l.getD i Dom.z).vs j)] from congrArg (fun x => [setD x, setD (seT (l.getD i Dom.z).vs j)]) (knT_s hi rfl)) ?_
  iterate 11 first|refine Yp rfl ?_|apply Y1|apply Y3|apply Yn|apply Ys
  refine W.cond rfl (fun c19=>?_) fun c19=>?_
  ·skip
   have hab : (l.getD i Dom.z).ab = true := by assumption
   have hsz : ((sizeD (l.getD i Dom.z) : Nat) : Int) = ((sizeD (l.getD i Dom.z) : Nat) : Int) := rfl
   apply Yr
   refine Yp rfl ?_
   refine YE rfl rfl (size_t hab hpos.2.1) rfl ?_
   iterate 4 first|refine Yp rfl ?_|apply Y4
   refine YE rfl rfl (mul_cap hsz hcl (by decide) hsl) rfl ?_
   iterate 6 first|refine Yp rfl ?_|apply Yw|apply Y4
   refine loop_n (l.length - (i + 1)) (by omega) ⟨i + 1, hi, ok_s f0_1 hd0, rfl, _, _, _, _, rfl, rfl, rfl, rfl, min_cap rfl hi hpos.1, rfl, rfl, inc_i64 (by omega), trivial⟩
  have hab : (l.getD i Dom.z).ab = false := by assumption
  have hsz := size_f hab
  apply Yk
  apply Y4
  iterate 2 refine Yp rfl ?_
  refine YE rfl rfl (mul_cap hsz hcl (by decide) hsl) rfl ?_
  iterate 6 first|refine Yp rfl ?_|apply Yw|apply Y4
  refine loop_n (l.length - (i + 1)) (by omega) ⟨i + 1, hi, ok_s f0_1 hd0, rfl, _, _, _, _, rfl, rfl, rfl, rfl, min_cap rfl hi hpos.1, rfl, rfl, inc_i64 (by omega), trivial⟩
 have hi := row_ge (by assumption)
 obtain rfl : i = l.length := by omega
 rw [List.take_length]
 have hdf := dF_e c1 (doms_none (Nat.le_refl _) f0_1)
 apply Yq
 iterate 9 first|refine Yp rfl ?_|apply Ye|apply Yx|apply Y1|apply Yn|apply Ys
 refine W.cond rfl (fun c20=>?_) fun c20=>?_
 ·skip
  have p0 : prodL l > 1000 := (cap_big (M := 1048576) (by decide)).1 (by have := of_decide_eq_true (by assumption : decide (((capW 1048576 l : Nat) : Int) > 1000) = true); omega)
  have hres := dR_2 (c := c) hdf p0
  apply Y1
  refine Yp rfl ?_
  apply Yn
  apply Yt
  apply Yu
  exact Yz rfl rfl rfl (by rw [hres]; rfl)
 have p0 : ¬ prodL l > 1000 := fun h => (by have h1 := (cap_big (M := 1048576) (l := l) (by decide)).2 h; have := of_decide_eq_false (by assumption : decide (((capW 1048576 l : Nat) : Int) > 1000) = false); omega)
 apply Yk
 apply Yn
 apply Ys
 apply Y1
 refine Yp rfl ?_
 refine S.call rfl rfl rfl rfl rfl (pc_outref2_Uses c hc (by omega)) ?_
 iterate 2 refine Yp rfl ?_
 apply Yn
 apply Yb
 refine W.loop (fun k st => ∃ j : Nat, j ≤ (usesP c).length ∧ ((usesP c).take j).any (unkn l) = false ∧ k = (usesP c).length - j ∧ ∃ t b2 r2 m2, st = ⟨t, [[.d (.int .i64 c.k), .d (.str c.n), .d (.str c.v), .d (.vec 4 (CT.ds c.l))]] ++ b2, [] ++ r2, [setD (knT l l.length)] ++ m2⟩ ∧ holdsL t [(5, .one (.map 0)), (97, .one (.d (.vec 1 ((usesP c).map fun x => [.str x])))), (98, .one (.d (.int .i64 (((usesP c).map fun x => ([.str x] : List D)).length : Int)))), (99, .one (.d (.int .i64 (j : Int))))]) ((usesP c).length) ⟨0, Nat.zero_le _, by simp, rfl, _, _, _, _, rfl, rfl, rfl, rfl, rfl, trivial⟩ ?_
 rintro k5 _ ⟨j, f5_0, f5_1, rfl, t5, bb5, rr5, mm5, rfl, hh5⟩
 refine W.keepR _ _ _ _ _ _ _ hh5 rfl ?_
 apply Y1
 refine Yp rfl ?_
 apply Yn
 apply Ys
 refine W.cond rfl (fun c21=>?_) fun c21=>?_
 ·skip
  have hj := row_lt (by assumption)
  apply Yk
  apply Yn
  apply Ys
  apply Yb
  apply Y1
  refine YE rfl (row_ok hj) (row_at [] hj) rfl ?_
  iterate 5 first|refine Yp rfl ?_|apply Y3
  refine S.lookup tOk keyS (fD := fun v : Bool => DV.one (.bool v)) false (knT l l.length) rfl rfl rfl rfl rfl rfl rfl rfl rfl rfl (show mapV false _ _ = _ from rfl) ?_
  refine Yp rfl ?_
  apply Yn
  refine W.cond rfl (fun c22=>?_) fun c22=>?_
  ·skip
   have hun : unkn l ((usesP c).getD j []) = true := by rw [← kn_unk]; assumption
   have hres := dR_3 hdf p0 (List.any_eq_true.2 ⟨_, mem_getD (d := ([] : L8)) hj, hun⟩)
   iterate 9 first|apply Yu|apply Yv|apply Yt|refine Yp rfl ?_|apply Y1|apply Yn
   exact Yz rfl rfl rfl (by rw [hres]; rfl)
  have hun : unkn l ((usesP c).getD j []) = false := by rw [← kn_unk]; assumption
  apply Yk
  apply Yw
  apply Y4
  iterate 2 refine Yp rfl ?_
  refine loop_n ((usesP c).length - (j + 1)) (by omega) ⟨j + 1, hj, any_take (d := ([] : L8)) hj f5_1 hun, rfl, _, _, _, _, rfl, rfl, rfl, rfl, inc_i64 (by omega), trivial⟩
 have hj := row_ge (by assumption)
 have hres := dR_4 hdf p0 (any_end hj f5_1)
 apply Yq
 apply Ye
 apply Ye
 apply Yx
 apply Y3
 refine Yp rfl ?_
 apply Yn
 apply Yt
 exact Yz rfl rfl rfl (by rw [hres]; rfl)
structure WkC (l : List Dom) (k : Nat) (F G : Tab) : Prop where
 f : TabB F
 g : TabB G
 r : Fresh l k F G
theorem tabB_set {t : Tab} (h : TabB t) {k v : L8} (hv : v.length ≤ 2000000) : TabB (setL beqS t k v) := ⟨fun q => by
 have h1 := congrArg Prod.fst (tell_set t k v q)
 have h2 : getL beqS [] (setL beqS t k v) q = (if q == k then (v, true) else (getL beqS [] t q, hasL beqS t q)).1 := h1
 rw [h2]
 split
 ·skip
  show v.length < _; omega
 ·skip
  exact h.v q⟩
theorem hold_tell (c : CT) (F G : Tab) : c.ho (tellT F) (tellT G) = holdT c F G := by unfold holdT tellT; rfl
theorem pc_wk1 (c : CT) (hT : CtT c) (l : List Dom) (hb : DomB l) (hap : Apart l) (k0 : Nat) (hk0 : k0 ≤ l.length) (a z : Bool) (F G : Tab) (hc : WkC l k0 F G) (ih : k0 < l.length → ∀ (a z : Bool) (F G : Tab), WkC l (k0 + 1) F G → HCall Tryz.prog J 39 [.one (.d (.int .i64 ((k0 + 1 : Nat) : Int))), .one (.ptr 0 0), .one (.ptr 1 0), .one (.ptr 2 0), .one (.ptr 3 0), .one (.ptr 4 0), .one (.ptr 5 0), .one (.ptr 6 0)] [[.d (.vec 4 (l.map domD))], [.d (.int .i64 c.k), .d (.str c.n), .d (.str c.v), .d (.vec 4 (CT.ds c.l))], [.map 0], [.map 1], [.d (.bool a)], [.d (.bool z)], [.clo 39 [.ptr 0 0, .ptr 1 0, .ptr 2 0, .ptr 3 0, .ptr 4 0, .ptr 5 0, .ptr 6 0]]] [] [tabD F, tabD G] (isH (.tup []) [[.d (.vec 4 (l.map domD))], [.d (.int .i64 c.k), .d (.str c.n), .d (.str c.v), .d (.vec 4 (CT.ds c.l))], [.map 0], [.map 1], [.d (.bool (a && leafs (holdT c) (l.drop (k0 + 1 : Nat)) F G))], [.d (.bool (z && leafs (fun F G => !holdT c F G) (l.drop (k0 + 1 : Nat)) F G))], [.clo 39 [.ptr 0 0, .ptr 1 0, .ptr 2 0, .ptr 3 0, .ptr 4 0, .ptr 5 0, .ptr 6 0]]] [] [tabD F, tabD G])) :
  HCall Tryz.prog J 39 ([.one (.d (.int .i64 (k0 : Int))), .one (.ptr 0 0), .one (.ptr 1 0), .one (.ptr 2 0), .one (.ptr 3 0), .one (.ptr 4 0), .one (.ptr 5 0), .one (.ptr 6 0)]) ([[.d (.vec 4 (l.map domD))], [.d (.int .i64 c.k), .d (.str c.n), .d (.str c.v), .d (.vec 4 (CT.ds c.l))], [.map 0], [.map 1], [.d (.bool a)], [.d (.bool z)], [.clo 39 [.ptr 0 0, .ptr 1 0, .ptr 2 0, .ptr 3 0, .ptr 4 0, .ptr 5 0, .ptr 6 0]]]) ([]) ([tabD F, tabD G]) (isH (.tup []) ([[.d (.vec 4 (l.map domD))], [.d (.int .i64 c.k), .d (.str c.n), .d (.str c.v), .d (.vec 4 (CT.ds c.l))], [.map 0], [.map 1], [.d (.bool (a && leafs (holdT c) (l.drop k0) F G))], [.d (.bool (z && leafs (fun F G => !holdT c F G) (l.drop k0) F G))], [.clo 39 [.ptr 0 0, .ptr 1 0, .ptr 2 0, .ptr 3 0, .ptr 4 0, .ptr 5 0, .ptr 6 0]]]) ([]) ([tabD F, tabD G])) := by
 have hn := hb.n
 have pr := pc_ref F G hc.f hc.g _ c (Nat.le_refl _) hT
 rw [hold_tell] at pr
 refine HCall.ofD tOk ⟨7, 0, 2⟩ (fn := Tryz.f39) Tryz.func39 (by kernel_rfl) rfl (Nat.le_of_ble_eq_true rfl) (fun E => ?_)
 apply Ys
 apply Y1
 iterate 4 refine Yp rfl ?_
 apply Yn
 refine W.cond rfl (fun c1=>?_) fun c1=>?_
 ·skip
  have hk : l.length ≤ k0 := (by have h1 : ((k0 : Int) == ((l.map domD).length : Int)) = true := (by assumption); rw [List.length_map, beq_iff_eq] at h1; omega)
  apply Y1
  iterate 3 refine Yp rfl ?_
  refine S.hcallD rfl rfl rfl rfl (pr.fd (B' := [[.d (.vec 4 (l.map domD))], [.d (.int .i64 c.k), .d (.str c.n), .d (.str c.v), .d (.vec 4 (CT.ds c.l))], [.map 0], [.map 1], [.d (.bool a)], [.d (.bool z)], [.clo 39 [.ptr 0 0, .ptr 1 0, .ptr 2 0, .ptr 3 0, .ptr 4 0, .ptr 5 0, .ptr 6 0]]]) [] [] [0, 1] rfl) ?_
  iterate 16 first|refine S.pickAnd tOk zOk rfl rfl tg ?_|refine Yp rfl ?_|refine Yg rfl rfl tg ?_|refine S.store tOk rfl rfl rfl rfl rfl rfl rfl rfl ?_|apply Yu|apply Yt|apply Y3|apply Yn
  exact ⟨_, rfl, rfl, LeG.refl _, (by rw [leafs_end hk, leafs_end hk]; rfl), rfl, rfl⟩
 have hk : k0 < l.length := (by have h1 : ((k0 : Int) == ((l.map domD).length : Int)) = false := (by assumption); rw [List.length_map, beq_eq_false_iff_ne] at h1; omega)
 have hdk := dom_at hb hk
 iterate 9 first|refine Yp rfl ?_|apply Yk|apply Y1|apply Y3|apply Ys|apply Yn
 refine YE rfl (row_ok hk) (row_at Dom.z hk) rfl ?_
 iterate 2 refine Yp rfl ?_
 apply Yn
 refine W.cond rfl (fun c2=>?_) fun c2=>?_
 ·skip
  have hst : (l.getD k0 Dom.z).st = true := by assumption
  have hfr := (hc.r k0 (Nat.le_refl _) hk).2 hst
  iterate 8 first|refine Yp rfl ?_|apply Y1|apply Ys|apply Yn|apply Yr
  refine YE rfl (row_ok hk) (row_at Dom.z hk) rfl ?_
  iterate 4 refine Yp rfl ?_
  apply Yn
  rw [show ([C.d (D.bool a)] : List C) = [C.d (D.bool (a && vAll (holdT c) l k0 F G 0))] from by rw [v0], show ([C.d (D.bool z)] : List C) = [C.d (D.bool (z && vAll (fun F G => !holdT c F G) l k0 F G 0))] from by rw [v0]]
  apply Yb
  refine W.loop (fun k st => ∃ i : Nat, i ≤ (l.getD k0 Dom.z).vs.length ∧ k = (l.getD k0 Dom.z).vs.length - i ∧ ∃ t b2 r2 m2, st = ⟨t, [[.d (.vec 4 (l.map domD))], [.d (.int .i64 c.k), .d (.str c.n), .d (.str c.v), .d (.vec 4 (CT.ds c.l))], [.map 0], [.map 1], [.d (.bool (a && vAll (holdT c) l k0 F G i))], [.d (.bool (z && vAll (fun F G => !holdT c F G) l k0 F G i))], [.clo 39 [.ptr 0 0, .ptr 1 0, .ptr 2 0, .ptr 3 0, .ptr 4 0, .ptr 5 0, .ptr 6 0]]] ++ b2, [] ++ r2, [tabD F, tabD (tabV G (l.getD k0 Dom.z).n (l.getD k0 Dom.z).vs i)] ++ m2⟩ ∧ holdsL t [(0, .one (.d (.int .i64 (k0 : Int)))), (1, .one (.ptr 0 0)), (2, .one (.ptr 1 0)), (3, .one (.ptr 2 0)), (4, .one (.ptr 3 0)), (5, .one (.ptr 4 0)), (6, .one (.ptr 5 0)), (7, .one (.ptr 6 0)), (10, .one (.map 1)), (41, .one (.d (.vec 1 ((l.getD k0 Dom.z).vs.map fun x => [.str x])))), (42, .one (.d (.int .i64 (((l.getD k0 Dom.z).vs.map fun x => ([.str x] : List D)).length : Int)))), (43, .one (.d (.int .i64 (i : Int))))]) ((l.getD k0 Dom.z).vs.length) ⟨0, Nat.zero_le _, rfl, _, _, _, _, rfl, rfl, rfl, rfl, rfl, rfl, rfl, rfl, rfl, rfl, rfl, rfl, rfl, trivial⟩ ?_
  rintro k0 _ ⟨i, f0_0, rfl, t0, bb0, rr0, mm0, rfl, hh0⟩
  refine W.keepR _ _ _ _ _ _ _ hh0 rfl ?_
  apply Y1
  refine Yp rfl ?_
  apply Yn
  apply Ys
  refine W.cond rfl (fun c3=>?_) fun c3=>?_
  ·skip
   have hi := row_lt (by assumption)
   have hvl := hdk.2.2 ((l.getD k0 Dom.z).vs.getD i []) (mem_getD (d := ([] : L8)) hi)
   first | have hnx : WkC l (k0 + 1) F (tabV G (l.getD k0 Dom.z).n (l.getD k0 Dom.z).vs (i + 1)) := ⟨hc.f, tabB_set hc.g hvl, Fresh.setG hap hc.r _ hst⟩ | have hnx : WkC l (k0 + 1) (tabV F (l.getD k0 Dom.z).n (l.getD k0 Dom.z).vs (i + 1)) G := ⟨tabB_set hc.f hvl, hc.g, Fresh.setF hap hc.r _ hst⟩
   apply Yk
   apply Yn
   apply Ys
   apply Yb
   apply Y1
   refine YE rfl (row_ok hi) (row_at [] hi) rfl ?_
   iterate 6 first|refine Yp rfl ?_|apply Y3
   refine YE rfl (row_ok hk) (row_at Dom.z hk) rfl ?_
   iterate 3 refine Yp rfl ?_
   refine S.mapUpdate tOk keyS (fD := fun v : List UInt8 => DV.one (.str v)) ((l.getD k0 Dom.z).vs.getD i []) (tabV G (l.getD k0 Dom.z).n (l.getD k0 Dom.z).vs i) rfl rfl rfl rfl rfl rfl rfl rfl (show _ = [tabD F, tabD (tabV G (l.getD k0 Dom.z).n (l.getD k0 Dom.z).vs (i + 1))] from congrArg (fun x => [tabD F, tabD x]) (tabV_s G (l.getD k0 Dom.z).n (l.getD k0 Dom.z).vs i)) ?_
   apply Y4
   iterate 2 refine Yp rfl ?_
   refine YE rfl rfl (inc_i64 (by omega)) rfl ?_
   refine S.hcallD rfl rfl rfl rfl ((by have h1 := ih hk (a && vAll (holdT c) l k0 F G i) (z && vAll (fun F G => !holdT c F G) l k0 F G i) F (tabV G (l.getD k0 Dom.z).n (l.getD k0 Dom.z).vs (i + 1)) hnx; rw [vnext_t hi hst, vnext_t hi hst] at h1; exact h1 : HCall Tryz.prog J 39 [.one (.d (.int .i64 ((k0 + 1 : Nat) : Int))), .one (.ptr 0 0), .one (.ptr 1 0), .one (.ptr 2 0), .one (.ptr 3 0), .one (.ptr 4 0), .one (.ptr 5 0), .one (.ptr 6 0)] [[.d (.vec 4 (l.map domD))], [.d (.int .i64 c.k), .d (.str c.n), .d (.str c.v), .d (.vec 4 (CT.ds c.l))], [.map 0], [.map 1], [.d (.bool (a && vAll (holdT c) l k0 F G i))], [.d (.bool (z && vAll (fun F G => !holdT c F G) l k0 F G i))], [.clo 39 [.ptr 0 0, .ptr 1 0, .ptr 2 0, .ptr 3 0, .ptr 4 0, .ptr 5 0, .ptr 6 0]]] [] [tabD F, tabD (tabV G (l.getD k0 Dom.z).n (l.getD k0 Dom.z).vs (i + 1))] (isH (.tup []) [[.d (.vec 4 (l.map domD))], [.d (.int .i64 c.k), .d (.str c.n), .d (.str c.v), .d (.vec 4 (CT.ds c.l))], [.map 0], [.map 1], [.d (.bool (a && vAll (holdT c) l k0 F G (i + 1)))], [.d (.bool (z && vAll (fun F G => !holdT c F G) l k0 F G (i + 1)))], [.clo 39 [.ptr 0 0, .ptr 1 0, .ptr 2 0, .ptr 3 0, .ptr 4 0, .ptr 5 0, .ptr 6 0]]] [] [tabD F, tabD (tabV G (l.getD k0 Dom.z).n (l.getD k0 Dom.z).vs (i + 1))])).fd (B' := [[.d (.vec 4 (l.map domD))], [.d (.int .i64 c.k), .d (.str c.n), .d (.str c.v), .d (.vec 4 (CT.ds c.l))], [.map 0], [.map 1], [.d (.bool (a && vAll (holdT c) l k0 F G (i + 1)))], [.d (.bool (z && vAll (fun F G => !holdT c F G) l k0 F G (i + 1)))], [.clo 39 [.ptr 0 0, .ptr 1 0, .ptr 2 0, .ptr 3 0, .ptr 4 0, .ptr 5 0, .ptr 6 0]]]) [0, 1, 2, 3, 4, 5, 6] [] [0, 1] rfl) ?_
   apply Yw
   apply Y4
   iterate 2 refine Yp rfl ?_
   refine loop_n ((l.getD k0 Dom.z).vs.length - (i + 1)) (by omega) ⟨i + 1, hi, rfl, _, _, _, _, rfl, rfl, rfl, rfl, rfl, rfl, rfl, rfl, rfl, rfl, rfl, rfl, inc_i64 (by omega), trivial⟩
  have hi := row_ge (by assumption)
  iterate 8 first|refine Yp rfl ?_|apply Ye|apply Yx|apply Yq|apply Y3
  refine YE rfl (row_ok hk) (row_at Dom.z hk) rfl ?_
  iterate 2 refine Yp rfl ?_
  refine S.mapDelete tOk keyS (fD := fun v : List UInt8 => DV.one (.str v)) (tabV G (l.getD k0 Dom.z).n (l.getD k0 Dom.z).vs i) rfl rfl rfl rfl rfl rfl rfl (show _ = [tabD F, tabD G] from congrArg (fun x => [tabD F, tabD x]) (tabV_del hfr (l.getD k0 Dom.z).vs i)) ?_
  apply Y3
  iterate 2 refine Yp rfl ?_
  refine YE rfl (row_ok hk) (row_at Dom.z hk) rfl ?_
  iterate 2 refine Yp rfl ?_
  apply Yn
  refine W.cond rfl (fun c4=>?_) fun c4=>?_
  ·skip
   have hab : (l.getD k0 Dom.z).ab = true := by assumption
   apply Yr
   iterate 2 refine Yp rfl ?_
   refine YE rfl rfl (inc_i64 (by omega)) rfl ?_
   refine S.hcallD rfl rfl rfl rfl ((by have h1 := ih hk (a && vAll (holdT c) l k0 F G i) (z && vAll (fun F G => !holdT c F G) l k0 F G i) F G ⟨hc.f, hc.g, hc.r.up⟩; rw [lend_t hk hi hab, lend_t hk hi hab] at h1; exact h1 : HCall Tryz.prog J 39 [.one (.d (.int .i64 ((k0 + 1 : Nat) : Int))), .one (.ptr 0 0), .one (.ptr 1 0), .one (.ptr 2 0), .one (.ptr 3 0), .one (.ptr 4 0), .one (.ptr 5 0), .one (.ptr 6 0)] [[.d (.vec 4 (l.map domD))], [.d (.int .i64 c.k), .d (.str c.n), .d (.str c.v), .d (.vec 4 (CT.ds c.l))], [.map 0], [.map 1], [.d (.bool (a && vAll (holdT c) l k0 F G i))], [.d (.bool (z && vAll (fun F G => !holdT c F G) l k0 F G i))], [.clo 39 [.ptr 0 0, .ptr 1 0, .ptr 2 0, .ptr 3 0, .ptr 4 0, .ptr 5 0, .ptr 6 0]]] [] [tabD F, tabD G] (isH (.tup []) [[.d (.vec 4 (l.map domD))], [.d (.int .i64 c.k), .d (.str c.n), .d (.str c.v), .d (.vec 4 (CT.ds c.l))], [.map 0], [.map 1], [.d (.bool (a && leafs (holdT c) (l.drop k0) F G))], [.d (.bool (z && leafs (fun F G => !holdT c F G) (l.drop k0) F G))], [.clo 39 [.ptr 0 0, .ptr 1 0, .ptr 2 0, .ptr 3 0, .ptr 4 0, .ptr 5 0, .ptr 6 0]]] [] [tabD F, tabD G])).fd (B' := [[.d (.vec 4 (l.map domD))], [.d (.int .i64 c.k), .d (.str c.n), .d (.str c.v), .d (.vec 4 (CT.ds c.l))], [.map 0], [.map 1], [.d (.bool (a && leafs (holdT c) (l.drop k0) F G))], [.d (.bool (z && leafs (fun F G => !holdT c F G) (l.drop k0) F G))], [.clo 39 [.ptr 0 0, .ptr 1 0, .ptr 2 0, .ptr 3 0, .ptr 4 0, .ptr 5 0, .ptr 6 0]]]) [0, 1, 2, 3, 4, 5, 6] [] [0, 1] rfl) ?_
   exact ⟨_, rfl, rfl, LeG.refl _, rfl, rfl, rfl⟩
  have hab : (l.getD k0 Dom.z).ab = false := by assumption
  rw [lend_f (φ := (holdT c)) (F := F) (G := G) (a := a) hk hi hab, lend_f (φ := (fun F G => !holdT c F G)) (F := F) (G := G) (a := z) hk hi hab]
  apply Yk
  exact ⟨_, rfl, rfl, LeG.refl _, rfl, rfl, rfl⟩
 have hst : (l.getD k0 Dom.z).st = false := by assumption
 have hfr := (hc.r k0 (Nat.le_refl _) hk).1 hst
 apply Yk
 apply Yn
 apply Ys
 apply Y1
 iterate 2 refine Yp rfl ?_
 refine YE rfl (row_ok hk) (row_at Dom.z hk) rfl ?_
 iterate 4 refine Yp rfl ?_
 apply Yn
 rw [show ([C.d (D.bool a)] : List C) = [C.d (D.bool (a && vAll (holdT c) l k0 F G 0))] from by rw [v0], show ([C.d (D.bool z)] : List C) = [C.d (D.bool (z && vAll (fun F G => !holdT c F G) l k0 F G 0))] from by rw [v0]]
 apply Yb
 refine W.loop (fun k st => ∃ i : Nat, i ≤ (l.getD k0 Dom.z).vs.length ∧ k = (l.getD k0 Dom.z).vs.length - i ∧ ∃ t b2 r2 m2, st = ⟨t, [[.d (.vec 4 (l.map domD))], [.d (.int .i64 c.k), .d (.str c.n), .d (.str c.v), .d (.vec 4 (CT.ds c.l))], [.map 0], [.map 1], [.d (.bool (a && vAll (holdT c) l k0 F G i))], [.d (.bool (z && vAll (fun F G => !holdT c F G) l k0 F G i))], [.clo 39 [.ptr 0 0, .ptr 1 0, .ptr 2 0, .ptr 3 0, .ptr 4 0, .ptr 5 0, .ptr 6 0]]] ++ b2, [] ++ r2, [tabD (tabV F (l.getD k0 Dom.z).n (l.getD k0 Dom.z).vs i), tabD G] ++ m2⟩ ∧ holdsL t [(0, .one (.d (.int .i64 (k0 : Int)))), (1, .one (.ptr 0 0)), (2, .one (.ptr 1 0)), (3, .one (.ptr 2 0)), (4, .one (.ptr 3 0)), (5, .one (.ptr 4 0)), (6, .one (.ptr 5 0)), (7, .one (.ptr 6 0)), (10, .one (.map 0)), (41, .one (.d (.vec 1 ((l.getD k0 Dom.z).vs.map fun x => [.str x])))), (42, .one (.d (.int .i64 (((l.getD k0 Dom.z).vs.map fun x => ([.str x] : List D)).length : Int)))), (43, .one (.d (.int .i64 (i : Int))))]) ((l.getD k0 Dom.z).vs.length) ⟨0, Nat.zero_le _, rfl, _, _, _, _, rfl, rfl, rfl, rfl, rfl, rfl, rfl, rfl, rfl, rfl, rfl, rfl, rfl, trivial⟩ ?_
 rintro k0 _ ⟨i, f0_0, rfl, t0, bb0, rr0, mm0, rfl, hh0⟩
 refine W.keepR _ _ _ _ _ _ _ hh0 rfl ?_
 apply Y1
 refine Yp rfl ?_
 apply Yn
 apply Ys
 refine W.cond rfl (fun c5=>?_) fun c5=>?_
 ·skip
  have hi := row_lt (by assumption)
  have hvl := hdk.2.2 ((l.getD k0 Dom.z).vs.getD i []) (mem_getD (d := ([] : L8)) hi)
  first | have hnx : WkC l (k0 + 1) F (tabV G (l.getD k0 Dom.z).n (l.getD k0 Dom.z).vs (i + 1)) := ⟨hc.f, tabB_set hc.g hvl, Fresh.setG hap hc.r _ hst⟩ | have hnx : WkC l (k0 + 1) (tabV F (l.getD k0 Dom.z).n (l.getD k0 Dom.z).vs (i + 1)) G := ⟨tabB_set hc.f hvl, hc.g, Fresh.setF hap hc.r _ hst⟩
  apply Yk
  apply Yn
  apply Ys
  apply Yb
  apply Y1
  refine YE rfl (row_ok hi) (row_at [] hi) rfl ?_
  iterate 6 first|refine Yp rfl ?_|apply Y3
  refine YE rfl (row_ok hk) (row_at Dom.z hk) rfl ?_
  iterate 3 refine Yp rfl ?_
  refine S.mapUpdate tOk keyS (fD := fun v : List UInt8 => DV.one (.str v)) ((l.getD k0 Dom.z).vs.getD i []) (tabV F (l.getD k0 Dom.z).n (l.getD k0 Dom.z).vs i) rfl rfl rfl rfl rfl rfl rfl rfl (show _ = [tabD (tabV F (l.getD k0 Dom.z).n (l.getD k0 Dom.z).vs (i + 1)), tabD G] from congrArg (fun x => [tabD x, tabD G]) (tabV_s F (l.getD k0 Dom.z).n (l.getD k0 Dom.z).vs i)) ?_
  apply Y4
  iterate 2 refine Yp rfl ?_
  refine YE rfl rfl (inc_i64 (by omega)) rfl ?_
  refine S.hcallD rfl rfl rfl rfl ((by have h1 := ih hk (a && vAll (holdT c) l k0 F G i) (z && vAll (fun F G => !holdT c F G) l k0 F G i) (tabV F (l.getD k0 Dom.z).n (l.getD k0 Dom.z).vs (i + 1)) G hnx; rw [vnext_f hi hst, vnext_f hi hst] at h1; exact h1 : HCall Tryz.prog J 39 [.one (.d (.int .i64 ((k0 + 1 : Nat) : Int))), .one (.ptr 0 0), .one (.ptr 1 0), .one (.ptr 2 0), .one (.ptr 3 0), .one (.ptr 4 0), .one (.ptr 5 0), .one (.ptr 6 0)] [[.d (.vec 4 (l.map domD))], [.d (.int .i64 c.k), .d (.str c.n), .d (.str c.v), .d (.vec 4 (CT.ds c.l))], [.map 0], [.map 1], [.d (.bool (a && vAll (holdT c) l k0 F G i))], [.d (.bool (z && vAll (fun F G => !holdT c F G) l k0 F G i))], [.clo 39 [.ptr 0 0, .ptr 1 0, .ptr 2 0, .ptr 3 0, .ptr 4 0, .ptr 5 0, .ptr 6 0]]] [] [tabD (tabV F (l.getD k0 Dom.z).n (l.getD k0 Dom.z).vs (i + 1)), tabD G] (isH (.tup []) [[.d (.vec 4 (l.map domD))], [.d (.int .i64 c.k), .d (.str c.n), .d (.str c.v), .d (.vec 4 (CT.ds c.l))], [.map 0], [.map 1], [.d (.bool (a && vAll (holdT c) l k0 F G (i + 1)))], [.d (.bool (z && vAll (fun F G => !holdT c F G) l k0 F G (i + 1)))], [.clo 39 [.ptr 0 0, .ptr 1 0, .ptr 2 0, .ptr 3 0, .ptr 4 0, .ptr 5 0, .ptr 6 0]]] [] [tabD (tabV F (l.getD k0 Dom.z).n (l.getD k0 Dom.z).vs (i + 1)), tabD G])).fd (B' := [[.d (.vec 4 (l.map domD))], [.d (.int .i64 c.k), .d (.str c.n), .d (.str c.v), .d (.vec 4 (CT.ds c.l))], [.map 0], [.map 1], [.d (.bool (a && vAll (holdT c) l k0 F G (i + 1)))], [.d (.bool (z && vAll (fun F G => !holdT c F G) l k0 F G (i + 1)))], [.clo 39 [.ptr 0 0, .ptr 1 0, .ptr 2 0, .ptr 3 0, .ptr 4 0, .ptr 5 0, .ptr 6 0]]]) [0, 1, 2, 3, 4, 5, 6] [] [0, 1] rfl) ?_
  apply Yw
  apply Y4
  iterate 2 refine Yp rfl ?_
  refine loop_n ((l.getD k0 Dom.z).vs.length - (i + 1)) (by omega) ⟨i + 1, hi, rfl, _, _, _, _, rfl, rfl, rfl, rfl, rfl, rfl, rfl, rfl, rfl, rfl, rfl, rfl, inc_i64 (by omega), trivial⟩
 have hi := row_ge (by assumption)
 iterate 8 first|refine Yp rfl ?_|apply Ye|apply Yx|apply Yq|apply Y3
 refine YE rfl (row_ok hk) (row_at Dom.z hk) rfl ?_
 iterate 2 refine Yp rfl ?_
 refine S.mapDelete tOk keyS (fD := fun v : List UInt8 => DV.one (.str v)) (tabV F (l.getD k0 Dom.z).n (l.getD k0 Dom.z).vs i) rfl rfl rfl rfl rfl rfl rfl (show _ = [tabD F, tabD G] from congrArg (fun x => [tabD x, tabD G]) (tabV_del hfr (l.getD k0 Dom.z).vs i)) ?_
 apply Y3
 iterate 2 refine Yp rfl ?_
 refine YE rfl (row_ok hk) (row_at Dom.z hk) rfl ?_
 iterate 2 refine Yp rfl ?_
 apply Yn
 refine W.cond rfl (fun c6=>?_) fun c6=>?_
 ·skip
  have hab : (l.getD k0 Dom.z).ab = true := by assumption
  apply Yr
  iterate 2 refine Yp rfl ?_
  refine YE rfl rfl (inc_i64 (by omega)) rfl ?_
  refine S.hcallD rfl rfl rfl rfl ((by have h1 := ih hk (a && vAll (holdT c) l k0 F G i) (z && vAll (fun F G => !holdT c F G) l k0 F G i) F G ⟨hc.f, hc.g, hc.r.up⟩; rw [lend_t hk hi hab, lend_t hk hi hab] at h1; exact h1 : HCall Tryz.prog J 39 [.one (.d (.int .i64 ((k0 + 1 : Nat) : Int))), .one (.ptr 0 0), .one (.ptr 1 0), .one (.ptr 2 0), .one (.ptr 3 0), .one (.ptr 4 0), .one (.ptr 5 0), .one (.ptr 6 0)] [[.d (.vec 4 (l.map domD))], [.d (.int .i64 c.k), .d (.str c.n), .d (.str c.v), .d (.vec 4 (CT.ds c.l))], [.map 0], [.map 1], [.d (.bool (a && vAll (holdT c) l k0 F G i))], [.d (.bool (z && vAll (fun F G => !holdT c F G) l k0 F G i))], [.clo 39 [.ptr 0 0, .ptr 1 0, .ptr 2 0, .ptr 3 0, .ptr 4 0, .ptr 5 0, .ptr 6 0]]] [] [tabD F, tabD G] (isH (.tup []) [[.d (.vec 4 (l.map domD))], [.d (.int .i64 c.k), .d (.str c.n), .d (.str c.v), .d (.vec 4 (CT.ds c.l))], [.map 0], [.map 1], [.d (.bool (a && leafs (holdT c) (l.drop k0) F G))], [.d (.bool (z && leafs (fun F G => !holdT c F G) (l.drop k0) F G))], [.clo 39 [.ptr 0 0, .ptr 1 0, .ptr 2 0, .ptr 3 0, .ptr 4 0, .ptr 5 0, .ptr 6 0]]] [] [tabD F, tabD G])).fd (B' := [[.d (.vec 4 (l.map domD))], [.d (.int .i64 c.k), .d (.str c.n), .d (.str c.v), .d (.vec 4 (CT.ds c.l))], [.map 0], [.map 1], [.d (.bool (a && leafs (holdT c) (l.drop k0) F G))], [.d (.bool (z && leafs (fun F G => !holdT c F G) (l.drop k0) F G))], [.clo 39 [.ptr 0 0, .ptr 1 0, .ptr 2 0, .ptr 3 0, .ptr 4 0, .ptr 5 0, .ptr 6 0]]]) [0, 1, 2, 3, 4, 5, 6] [] [0, 1] rfl) ?_
  exact ⟨_, rfl, rfl, LeG.refl _, rfl, rfl, rfl⟩
 have hab : (l.getD k0 Dom.z).ab = false := by assumption
 rw [lend_f (φ := (holdT c)) (F := F) (G := G) (a := a) hk hi hab, lend_f (φ := (fun F G => !holdT c F G)) (F := F) (G := G) (a := z) hk hi hab]
 apply Yk
 exact ⟨_, rfl, rfl, LeG.refl _, rfl, rfl, rfl⟩
theorem pc_wk (c : CT) (hT : CtT c) (l : List Dom) (hb : DomB l) (hap : Apart l) : ∀ (n k0 : Nat), l.length - k0 ≤ n → k0 ≤ l.length → ∀ (a z : Bool) (F G : Tab), WkC l k0 F G → HCall Tryz.prog J 39 [.one (.d (.int .i64 (k0 : Int))), .one (.ptr 0 0), .one (.ptr 1 0), .one (.ptr 2 0), .one (.ptr 3 0), .one (.ptr 4 0), .one (.ptr 5 0), .one (.ptr 6 0)] [[.d (.vec 4 (l.map domD))], [.d (.int .i64 c.k), .d (.str c.n), .d (.str c.v), .d (.vec 4 (CT.ds c.l))], [.map 0], [.map 1], [.d (.bool a)], [.d (.bool z)], [.clo 39 [.ptr 0 0, .ptr 1 0, .ptr 2 0, .ptr 3 0, .ptr 4 0, .ptr 5 0, .ptr 6 0]]] [] [tabD F, tabD G] (isH (.tup []) [[.d (.vec 4 (l.map domD))], [.d (.int .i64 c.k), .d (.str c.n), .d (.str c.v), .d (.vec 4 (CT.ds c.l))], [.map 0], [.map 1], [.d (.bool (a && leafs (holdT c) (l.drop k0) F G))], [.d (.bool (z && leafs (fun F G => !holdT c F G) (l.drop k0) F G))], [.clo 39 [.ptr 0 0, .ptr 1 0, .ptr 2 0, .ptr 3 0, .ptr 4 0, .ptr 5 0, .ptr 6 0]]] [] [tabD F, tabD G])
 | 0, k0, h, hk0 => fun a z F G hc => pc_wk1 c hT l hb hap k0 hk0 a z F G hc (fun hk => absurd hk (by omega))
 | n + 1, k0, h, hk0 => fun a z F G hc => pc_wk1 c hT l hb hap k0 hk0 a z F G hc (fun hk => pc_wk c hT l hb hap n (k0 + 1) (by omega) (by omega))
theorem wkC_0 (l : List Dom) : WkC l 0 [] [] := ⟨⟨fun q => by show (0 : Nat) < _; omega⟩, ⟨fun q => by show (0 : Nat) < _; omega⟩, fresh_0 l⟩
theorem pc_outref2_AlwaysOf (c : CT) (hT : CtT c) (l : List Dom) (hb : DomB l) (hap : Apart l) :
  PureCall Tryz.prog J 10 [ctV c, .one (.d (.vec 4 (l.map domD)))] (.tup [.one (.d (.bool (leafs (holdT c) l [] []))), .one (.d (.bool (leafs (fun F G => !holdT c F G) l [] [])))]) := by
 have pw : HCall Tryz.prog J 39 [.one (.d (.int .i64 ((0 : Nat) : Int))), .one (.ptr 0 0), .one (.ptr 1 0), .one (.ptr 2 0), .one (.ptr 3 0), .one (.ptr 4 0), .one (.ptr 5 0), .one (.ptr 6 0)] [[.d (.vec 4 (l.map domD))], [.d (.int .i64 c.k), .d (.str c.n), .d (.str c.v), .d (.vec 4 (CT.ds c.l))], [.map 0], [.map 1], [.d (.bool true)], [.d (.bool true)], [.clo 39 [.ptr 0 0, .ptr 1 0, .ptr 2 0, .ptr 3 0, .ptr 4 0, .ptr 5 0, .ptr 6 0]]] [] [tabD [], tabD []] (isH (.tup []) [[.d (.vec 4 (l.map domD))], [.d (.int .i64 c.k), .d (.str c.n), .d (.str c.v), .d (.vec 4 (CT.ds c.l))], [.map 0], [.map 1], [.d (.bool (true && leafs (holdT c) (l.drop 0) [] []))], [.d (.bool (true && leafs (fun F G => !holdT c F G) (l.drop 0) [] []))], [.clo 39 [.ptr 0 0, .ptr 1 0, .ptr 2 0, .ptr 3 0, .ptr 4 0, .ptr 5 0, .ptr 6 0]]] [] [tabD [], tabD []]) := pc_wk c hT l hb hap _ 0 (Nat.le_refl _) (Nat.zero_le _) true true [] [] (wkC_0 l)
 rw [List.drop_zero, Bool.true_and, Bool.true_and] at pw
 refine PureCall.of_body tOk (fn := Tryz.f10) Tryz.func10 (by kernel_rfl) rfl (Nat.le_of_ble_eq_true rfl) (fun E => ?_)
 iterate 11 first|refine S.store tOk rfl rfl rfl rfl rfl rfl rfl rfl ?_|refine S.alloc tOk rfl rfl rfl rfl ?_|refine Yp rfl ?_|refine S.box rfl rfl rfl rfl ?_|apply Y3|apply Y1
 refine S.makeMap rfl ?_
 refine S.makeMap rfl ?_
 iterate 7 first|refine S.alloc tOk rfl rfl rfl rfl ?_|refine S.store tOk rfl rfl rfl rfl rfl rfl rfl rfl ?_|apply Y3
 refine S.makeFunc rfl rfl rfl ?_
 refine S.store tOk rfl rfl rfl rfl rfl rfl rfl rfl ?_
 apply Y3
 refine Yp rfl ?_
 refine S.hcallD rfl rfl rfl rfl (pw.fd (B' := [[.d (.int .i64 c.k), .d (.str c.n), .d (.str c.v), .d (.vec 4 (CT.ds c.l))], [.d (.vec 4 (l.map domD))], [.d (.bool (leafs (holdT c) l [] []))], [.d (.bool (leafs (fun F G => !holdT c F G) l [] []))], [.map 0], [.map 1], [.clo 39 [.ptr 1 0, .ptr 0 0, .ptr 4 0, .ptr 5 0, .ptr 2 0, .ptr 3 0, .ptr 6 0]]]) [1, 0, 4, 5, 2, 3, 6] [] [0, 1] rfl) ?_
 apply Yn
 apply Ys
 refine W.regionD mixed (by kernel_rfl) ?_
 iterate 4 refine Ym rfl rfl ?_
 apply Yn
 apply Yt
 exact Yz rfl rfl rfl rfl
end
section
open Go
open Go.RowKit
attribute [local irreducible] thenK blockK W
attribute [local irreducible] usesP checkP errR firstNe domR domF alwP leafs holdT CT.ho
theorem nm_okA {c : CT} (hs : CtSm c) (hw : c.w ≤ 1048576) : NmOk c := by
 obtain ⟨h1, h2, h3⟩ := nm_facts c
 refine ⟨by omega, fun x hx => ?_, h1⟩
 have h4 := useL_len (pt_T _ c 0 (Nat.le_refl _) hs) x.1 ((h2 x.1).1 (List.mem_map.2 ⟨x, hx, rfl⟩))
 exact Nat.le_trans h4 (by decide)
theorem pc_outlaw2_AlwaysMatches (c : CT) (hs : CtSm c) (hw : c.w ≤ 1048576) (l : List Dom) (hb : DomB l) :
  PureCall Tryz.prog J 3 [ctV c, .one (.d (.vec 4 (l.map domD)))] (.one (.d (.bool true))) := by
 have hbig := hs.big
 have hnm := nm_okA hs hw
 have pe := pc_CondErr c hbig
 rw [errs_eq (by omega)] at pe
 refine PureCall.of_body tOk (fn := Tryz.f3) Tryz.func3 (by kernel_rfl) rfl (Nat.le_of_ble_eq_true rfl) (fun E => ?_)
 iterate 6 first|refine Yp rfl ?_|refine S.box rfl rfl rfl rfl ?_|apply Y3|apply Y1
 refine S.call rfl rfl rfl rfl rfl (pc_ver_Always c hs hw hnm l hb) ?_
 iterate 7 refine Yp rfl ?_
 apply Yn
 apply Ys
 refine W.regionD mixed (by kernel_rfl) ?_
 refine Ym rfl rfl ?_
 refine D.call rfl rfl rfl rfl rfl (pe) ?_
 iterate 2 refine Ym rfl rfl ?_
 refine D.call rfl rfl rfl rfl rfl (pc_outref2_DomainsError c hbig hw l hb) ?_
 refine D.slice tOk rfl rfl ?_
 refine D.call rfl rfl rfl rfl rfl (pc_outref2_First [checkP c, domR c l] (by simp)) ?_
 refine Ym rfl rfl ?_
 apply Yn
 apply Ys
 apply Y1
 refine S.call rfl rfl rfl rfl rfl (pc_outlaw2_versions) ?_
 iterate 6 first|refine S.pickOr tOk zOk rfl rfl tg ?_|refine Yg rfl rfl tg ?_|refine Yp rfl ?_|apply Yn
 refine W.cond rfl (fun c1=>?_) fun c1=>?_
 ·skip
  have hne : (firstNe [checkP c, domR c l]) ≠ 0 := by have h1 := c1; simpa using h1
  have hres := alw_err hne
  apply Y1
  refine S.call rfl rfl rfl rfl rfl (pc_outlaw2_versions) ?_
  iterate 17 first|refine S.pickAnd tOk zOk rfl rfl tg ?_|refine Yg rfl rfl tg ?_|refine Yp rfl ?_|apply Yu|apply Yt|apply Yn
  exact Yz rfl rfl rfl (by rw [hres]; simp)
 have hz : (firstNe [checkP c, domR c l]) = 0 := by have h1 := c1; simpa using h1
 have h2 := firstNe_zero hz
 have h0 : checkP c = 0 := h2 _ (by simp)
 have hd : domR c l = 0 := h2 _ (by simp)
 have hT := check_T hs h0
 have hap := apart_of (dom_zero hd)
 have hres := alw_law hz
 apply Yk
 apply Y3
 iterate 2 refine Yp rfl ?_
 refine S.call rfl rfl rfl rfl rfl (pc_outref2_AlwaysOf c hT l hb hap) ?_
 iterate 21 first|refine S.pickAnd tOk zOk rfl rfl tg ?_|refine Yp rfl ?_|refine Yg rfl rfl tg ?_|apply Yt|apply Y3|apply Yn
 exact Yz rfl rfl rfl (by rw [hres]; simp)
end
section
open Go Go.RowKit Go.ChangeShapes
def RDs (w : World) (cs : List Value) (ds : List D) : Prop :=
 cs.length = ds.length ∧ ∀ (i : Nat) (c : Value) (d : D), cs[i]? = some c → ds[i]? = some d → RD (fun b => b < w.heap.size) w d c
theorem RDs.one {w : World} {c : Value} {d : D} (h : RD (fun b => b < w.heap.size) w d c) : RDs w [c] [d] :=
 ⟨rfl, fun i a b h1 h2 => by
  match i with
  | 0 => simp at h1 h2; subst h1; subst h2; exact h
  | i + 1 => simp at h1⟩
theorem RDs.append {w : World} {a b : List Value} {x y : List D} (h1 : RDs w a x) (h2 : RDs w b y) : RDs w (a ++ b) (x ++ y) := by
  refine ⟨by simp [h1.1, h2.1], fun i c d hc hd => ?_⟩
  by_cases hi : i < a.length
  · rw [List.getElem?_append_left hi] at hc
    rw [List.getElem?_append_left (by rw [← h1.1]; exact hi)] at hd
    exact h1.2 i c d hc hd
  · rw [List.getElem?_append_right (by omega)] at hc
    rw [List.getElem?_append_right (by rw [← h1.1]; omega)] at hd
    rw [← h1.1] at hd
    exact h2.2 _ c d hc hd
structure Dec (P : Program) (t : TypeId) (α : Type) where
 ds : α → List D
 wf : Nat → α → Prop
 up : ∀ (m n : Nat) (x : α), m ≤ n → wf m x → wf n x
 lim : Nat → Bool
 wt : α → Nat
 ok : ∀ {H : Type} {enc : TypeId × Value → H} {w : World} {fuel : Nat} {cs : List Value} {d : DataW H} {ps : List MemPlace}, lim fuel = true → DataW.trod enc P w 0 (fun _ => true) true fuel t cs = some (d, ps) →
  ∃ x : α, RDs w cs (ds x) ∧ wf (Rows.uptoBulk d) x ∧ wt x ≤ Rows.uptoBulk d
theorem trod_int {H : Type} {enc : TypeId × Value → H} {P : Program} {w : World} {fuel : Nat} {t : TypeId} {cs : List Value} {x : DataW H × List MemPlace} {k : IntKind} (ht : P.underlying t = some (.int k)) (h : DataW.trod enc P w 0 (fun _ => true) true fuel t cs = some x) :
    ∃ n, cs = [.int k n] ∧ (Lit.int k n).wf = true := by
  cases fuel with
  | zero => simp [DataW.trod] at h
  | succ fuel =>
    unfold DataW.trod at h
    rw [ht] at h
    split at h <;> first
      | (rename_i k1 k2 n he1 he2
         simp only [Option.some.injEq, TypeDesc.int.injEq] at he1
         subst he1
         split at h
         · rename_i hk; exact ⟨n, by rw [hk.1], hk.2⟩
         · cases h)
      | (simp_all; done)
theorem trod_bool' {H : Type} {enc : TypeId × Value → H} {P : Program} {w : World} {fuel : Nat} {t : TypeId} {cs : List Value} {x : DataW H × List MemPlace} (ht : P.underlying t = some .bool) (h : DataW.trod enc P w 0 (fun _ => true) true fuel t cs = some x) :
  ∃ b, cs = [.bool b] := by
 cases fuel with
 | zero => simp [DataW.trod] at h
 | succ fuel =>
  unfold DataW.trod at h
  rw [ht] at h
  split at h <;> first
   | exact ⟨_, rfl⟩
   | (simp_all; done)
theorem trod_str {H : Type} {enc : TypeId × Value → H} {P : Program} {w : World} {fuel : Nat} {t : TypeId} {cs : List Value} {x : DataW H × List MemPlace} (ht : P.underlying t = some .string) (h : DataW.trod enc P w 0 (fun _ => true) true fuel t cs = some x) :
    ∃ s : ByteArray, cs = [.string s] ∧ x.1 = .lit (.string s.data.toList) := by
  cases fuel with
  | zero => simp [DataW.trod] at h
  | succ fuel =>
    unfold DataW.trod at h
    rw [ht] at h
    split at h <;> first
      | (split at h
         · cases h; exact ⟨_, rfl, rfl⟩
         · cases h)
      | (simp_all; done)
def Dec.int {P : Program} {t : TypeId} (k : IntKind) (ht : P.underlying t = some (.int k)) : Dec P t Int where
 ds n := [.int k n]
 wf _ n := (Lit.int k n).wf = true
 up _ _ _ _ h := h
 lim _ := true
 wt _ := 0
 ok _ h := by
  obtain ⟨n, rfl, hw⟩ := trod_int ht h
  exact ⟨n, .one (.int _ _), hw, Nat.zero_le _⟩
def Dec.bool {P : Program} {t : TypeId} (ht : P.underlying t = some .bool) : Dec P t Bool where
 ds n := [.bool n]
 wf _ n := True
 up _ _ _ _ h := h
 lim _ := true
 wt _ := 0
 ok _ h := by
  obtain ⟨n, rfl⟩ := trod_bool' ht h
  exact ⟨n, .one (.bool _), trivial, Nat.zero_le _⟩
def Dec.str {P : Program} {t : TypeId} (ht : P.underlying t = some .string) : Dec P t (List UInt8) where
 ds s := [.str s]
 wf N s := s.length < N
 up _ _ _ h1 h := Nat.lt_of_lt_of_le h h1
 lim _ := true
 wt _ := 0
 ok _ h := by
  obtain ⟨s, rfl, hx⟩ := trod_str ht h
  refine ⟨s.data.toList, .one (.str s.data.toList), ?_, Nat.zero_le _⟩
  simp only at hx
  rw [hx]
  simp [Rows.uptoBulk]
theorem mapM_len {α β : Type} {f : α → Option β} : ∀ {l : List α} {r : List β}, l.mapM f = some r → r.length = l.length
  | [], r, h => by simp at h; subst h; rfl
  | a :: l, r, h => by
    simp only [List.mapM_cons, Option.bind_eq_bind, Option.bind_eq_some_iff, Option.pure_def, Option.some.injEq] at h
    obtain ⟨b, hb, r', hr', rfl⟩ := h
    simp [mapM_len hr']
structure DecF (P : Program) (fs : List Field) (off tot : Nat) (α : Type) where
 ds : α → List D
 wf : Nat → α → Prop
 up : ∀ (m n : Nat) (x : α), m ≤ n → wf m x → wf n x
 lim : Nat → Bool
 wt : α → Nat
 ok : ∀ {H : Type} {enc : TypeId × Value → H} {w : World} {fuel : Nat} {cs : List Value} {xs : List (DataW H × List MemPlace)}, lim fuel = true → cs.length = tot →
  fs.mapM (fun f => DataW.trod enc P w 0 (fun _ => true) true fuel f.type ((cs.drop f.offset).take (P.cellsOf f.type))) = some xs →
  ∃ x : α, RDs w (cs.drop off) (ds x) ∧ wf (Rows.uptoBulkAll (xs.map (·.1))) x ∧ wt x ≤ Rows.uptoBulkAll (xs.map (·.1))
def DecF.nil {P : Program} (tot : Nat) : DecF P [] tot tot Unit where
 ds _ := []
 wf _ _ := True
 up _ _ _ _ h := h
 lim _ := true
 wt _ := 0
 ok _ hl h := ⟨(), ⟨by simp [hl], fun i c d h1 h2 => by simp at h2⟩, trivial, Nat.zero_le _⟩
def DecF.cons {P : Program} {f : Field} {fs : List Field} {off tot n : Nat} {α β : Type} (de : Dec P f.type α) (ho : f.offset = off) (hn : P.cellsOf f.type = n) (r : DecF P fs (off + n) tot β) : DecF P (f :: fs) off tot (α × β) where
 ds x := de.ds x.1 ++ r.ds x.2
 wf N x := de.wf N x.1 ∧ r.wf N x.2
 up m n x h hx := ⟨de.up m n x.1 h hx.1, r.up m n x.2 h hx.2⟩
 lim f := de.lim f && r.lim f
 wt x := de.wt x.1 + r.wt x.2
 ok {H enc w fuel cs xs} hq hl h := by
  have hq := Bool.and_eq_true_iff.1 hq
  simp only [List.mapM_cons, Option.bind_eq_bind, Option.bind_eq_some_iff, Option.pure_def, Option.some.injEq] at h
  obtain ⟨b, hb, r', hr', rfl⟩ := h
  obtain ⟨x, h1, h2, h5⟩ := de.ok (d := b.1) (ps := b.2) hq.1 hb
  obtain ⟨y, h3, h4, h6⟩ := r.ok hq.2 hl hr'
  refine ⟨(x, y), ?_, ⟨de.up _ _ _ ?_ h2, r.up _ _ _ ?_ h4⟩, ?_⟩
  ·skip
   have e : cs.drop off = (cs.drop f.offset).take (P.cellsOf f.type) ++ cs.drop (off + n) := by
    rw [ho, hn, ← List.drop_drop, List.take_append_drop]
   rw [e]; exact h1.append h3
  ·skip
   simp only [List.map_cons, Rows.uptoBulkAll]; omega
  ·skip
   simp only [List.map_cons, Rows.uptoBulkAll]; omega
  ·skip
   simp only [List.map_cons, Rows.uptoBulkAll]; omega
def Dec.struct {P : Program} {t : TypeId} {fs : Array Field} {tot : Nat} {α : Type} (ht : P.underlying t = some (.struct fs)) (hc : P.cellsOf t = tot) (r : DecF P fs.toList 0 tot α) : Dec P t α where
  ds := r.ds
  wf := r.wf
  up := r.up
  lim f := r.lim (f - 1)
  wt x := r.wt x + 1
  ok {H enc w fuel cs d ps} hq h := by
    cases fuel with
    | zero => simp [DataW.trod] at h
    | succ fuel =>
      unfold DataW.trod at h
      rw [ht] at h
      split at h <;> first
        | (rename_i he1
           simp only [Option.some.injEq, TypeDesc.struct.injEq] at he1
           subst he1
           split at h
           · rename_i hl
             simp only [Option.map_eq_some_iff] at h
             obtain ⟨xs, hx, he⟩ := h
             obtain ⟨x, h1, h2, h3⟩ := r.ok hq (hl.trans hc) hx
             cases he
             exact ⟨x, h1, r.up _ _ _ (by simp only [Rows.uptoBulk]; omega) h2, by simp only [Rows.uptoBulk]; omega⟩
           · cases h)
        | (simp_all; done)
def Dec.iso {P : Program} {t : TypeId} {α β : Type} (d : Dec P t α) (f : α → β) (ds : β → List D) (wf : Nat → β → Prop) (up : ∀ (m n : Nat) (x : β), m ≤ n → wf m x → wf n x) (hd : ∀ a, d.ds a = ds (f a)) (hw : ∀ N a, d.wf N a → d.wt a ≤ N → wf N (f a)) (wt : β → Nat := fun _ => 0) (hwt : ∀ a, wt (f a) ≤ d.wt a := by intro _; exact Nat.zero_le _) : Dec P t β where
  ds := ds
  wf := wf
  up := up
  lim := d.lim
  wt := wt
  ok hq h := by
    obtain ⟨x, h1, h2, h3⟩ := d.ok hq h
    exact ⟨f x, hd x ▸ h1, hw _ _ h2 h3, Nat.le_trans (hwt x) h3⟩
theorem choose_list {α : Type} {Q : Nat → α → Prop} : ∀ (n : Nat), (∀ i, i < n → ∃ x, Q i x) → ∃ xs : List α, xs.length = n ∧ ∀ i x, xs[i]? = some x → Q i x
  | 0, _ => ⟨[], rfl, fun i x h => by simp at h⟩
  | n + 1, h => by
    obtain ⟨xs, h1, h2⟩ := choose_list n (fun i hi => h i (by omega))
    obtain ⟨x, hx⟩ := h n (by omega)
    refine ⟨xs ++ [x], by simp [h1], fun i y hy => ?_⟩
    by_cases hi : i < xs.length
    · rw [List.getElem?_append_left hi] at hy; exact h2 i y hy
    · rw [List.getElem?_append_right (by omega)] at hy
      have e : i = n := by
        apply Decidable.byContradiction; intro hne
        rw [List.getElem?_eq_none (by simp; omega)] at hy; cases hy
      subst e
      rw [h1] at hy
      simp at hy; subst hy; exact hx
theorem cells_at {w : World} {a : Addr} {n : Nat} {cs : List Value} (h : w.cells? 0 a n = some cs) : cs.length = n ∧ ∀ j, j < n → w.cell? (a.add j) = cs[j]? := by
 unfold World.cells? at h
 rw [if_pos (Nat.zero_le _)] at h
 have hl := mapM_len h
 simp at hl
 refine ⟨hl, fun j hj => ?_⟩
 obtain ⟨b, h1, h2⟩ := Lib.mapM_at h j j (by simp [hj])
 rw [h1, h2]
theorem spot_none {w : World} {a : Addr} {v : Value} (h : w.cell? a = some v) : a.spot = none := by
 unfold World.cell? at h
 split at h
 ·skip
  split at h
  ·skip
   cases h
  ·skip
   rename_i hs; simpa using hs
 ·skip
  cases h
theorem bulk_mem {H : Type} {x : DataW H} : ∀ {l : List (DataW H)}, x ∈ l → Rows.uptoBulk x ≤ Rows.uptoBulkAll l
  | [], h => by cases h
  | a :: l, h => by
    simp only [Rows.uptoBulkAll]
    rcases List.mem_cons.1 h with rfl | h
    · omega
    · have := bulk_mem h; omega
theorem bulk_pos {H : Type} (d : DataW H) : 1 ≤ Rows.uptoBulk d := by
 cases d with
 | lit l => cases l <;> simp [Rows.uptoBulk]
 | _ => simp [Rows.uptoBulk]
theorem bulk_len {H : Type} : ∀ (l : List (DataW H)), l.length ≤ Rows.uptoBulkAll l
  | [] => by simp
  | a :: l => by
    have h1 := bulk_pos a
    have h2 := bulk_len l
    simp only [Rows.uptoBulkAll, List.length_cons]; omega
theorem bulk_sum {H : Type} {α : Type} {f : α → Nat} : ∀ {xs : List α} {l : List (DataW H)}, xs.length = l.length → (∀ (i : Nat) (x : α) (d : DataW H), xs[i]? = some x → l[i]? = some d → f x ≤ Rows.uptoBulk d) → (xs.map f).sum ≤ Rows.uptoBulkAll l
  | [], l, _, _ => Nat.zero_le _
  | x :: xs, [], h, _ => by simp at h
  | x :: xs, d :: l, h, hx => by
    have h1 := hx 0 x d rfl rfl
    have h2 := bulk_sum (f := f) (xs := xs) (l := l) (by simpa using h) (fun i y e h3 h4 => hx (i + 1) y e h3 h4)
    simp only [List.map_cons, List.sum_cons, Rows.uptoBulkAll]; omega
def Dec.slice {P : Program} {t e : TypeId} {sz : Nat} {α : Type} (ht : P.underlying t = some (.slice e)) (hc : P.cellsOf e = sz) (h0 : 0 < sz) (de : Dec P e α) : Dec P t (List α) where
  ds xs := [.vec sz (xs.map de.ds)]
  wf N xs := xs.length < N ∧ ∀ x ∈ xs, de.wf N x
  up m n xs h hx := ⟨by omega, fun x hm => de.up m n x h (hx.2 x hm)⟩
  lim f := de.lim (f - 1)
  wt xs := (xs.map de.wt).sum
  ok {H enc w fuel cs d ps} hq h := by
    rcases DataW.trod_slice ht h with h1 | ⟨a, len, cap, elems, rest, n, hfu, rfl, hx, hb, hl, hm, hlen, hel, hsp, hns⟩
    · obtain ⟨rfl, h2⟩ := h1
      cases h2
      exact ⟨[], .one (.empty _ _ _), ⟨by simp [Rows.uptoBulk], by simp⟩, Nat.zero_le _⟩
    · have key : ∀ i, i < len → ∃ x, ∃ cs' : List Value, ∃ y, elems[i]? = some y ∧ w.cells? 0 (a.add (i * sz)) sz = some cs' ∧ RDs w cs' (de.ds x) ∧ de.wf (Rows.uptoBulk y.1) x ∧ de.wt x ≤ Rows.uptoBulk y.1 := fun i hi => by
        have h1 := hel i hi
        have h2 : elems[i]? = some (elems[i]'(by omega)) := List.getElem?_eq_getElem _
        rw [h2, hc, Option.bind_eq_some_iff] at h1
        obtain ⟨cs', h3, h4⟩ := h1
        obtain ⟨x, h5, h6, h7⟩ := de.ok (d := (elems[i]'(by omega)).1) (ps := (elems[i]'(by omega)).2) (by have := hq; rw [hfu] at this; exact this) h4
        exact ⟨x, cs', _, h2, h3, h5, h6, h7⟩
      obtain ⟨xs, hxl, hxs⟩ := choose_list len key
      cases hx
      refine ⟨xs, .one ?_, ⟨?_, fun x hx => ?_⟩, ?_⟩
      · by_cases hne : xs = []
        · subst hne
          simp at hxl
          rw [← hxl]
          exact .empty _ _ _
        · have hpos : 0 < len := by
            cases xs with
            | nil => exact absurd rfl hne
            | cons x l => rw [← hxl]; simp
          have hs : a.spot = none := by
            obtain ⟨x, cs', y, _, h3, _⟩ := key 0 hpos
            obtain ⟨h4, h5⟩ := cells_at h3
            have h6 := h5 0 h0
            have h7 : cs'[0]? = some (cs'[0]'(by omega)) := List.getElem?_eq_getElem _
            rw [h7] at h6
            simp only [Addr.add, Nat.zero_mul, if_true] at h6
            exact spot_none h6
          have hadd : ∀ i j, (a.add (i * sz)).add j = ⟨a.block, a.off + i * sz + j, none⟩ := fun i j => by
            cases a with
            | mk b o s =>
              simp only at hs; subst hs
              unfold Addr.add
              by_cases h1 : i * sz = 0 <;> by_cases h2 : j = 0 <;> simp [h1, h2]
          have hat : ∀ (i j : Nat) (x : List D) (d : D), (xs.map de.ds)[i]? = some x → x[j]? = some d → ∃ v, w.cell? ⟨a.block, a.off + i * sz + j, none⟩ = some v ∧ RD (fun b => b < w.heap.size) w d v := fun i j x d h1 h2 => by
            simp only [List.getElem?_map, Option.map_eq_some_iff] at h1
            obtain ⟨x', h1, rfl⟩ := h1
            obtain ⟨cs', y, _, h3, h4, _⟩ := hxs i x' h1
            obtain ⟨h5, h6⟩ := cells_at h3
            have hj : j < sz := by
              have := (List.getElem?_eq_some_iff.1 h2).1
              rw [← h4.1, h5] at this; exact this
            have h7 : cs'[j]? = some (cs'[j]'(by omega)) := List.getElem?_eq_getElem _
            have h8 := h6 j hj
            rw [hadd, h7] at h8
            exact ⟨_, h8, h4.2 j _ d h7 h2⟩
          have hal : a = ⟨a.block, a.off, none⟩ := by cases a; simp only at hs; subst hs; rfl
          have hlen' : len = (xs.map de.ds).length := by simp [hxl]
          rw [hal, hlen']
          refine RD.vec sz (xs.map de.ds) a.block a.off cap (fun i j => (w.cell? ⟨a.block, a.off + i * sz + j, none⟩).getD undef) (by simpa using hne) (by rw [← hlen']; exact hl) ?_ ?_ ?_ ?_
          · obtain ⟨x, cs', y, _, h3, _⟩ := key 0 hpos
            obtain ⟨h4, h5⟩ := cells_at h3
            have h6 := h5 0 h0
            have h7 : cs'[0]? = some (cs'[0]'(by omega)) := List.getElem?_eq_getElem _
            rw [h7, hadd] at h6
            apply Decidable.byContradiction; intro hn
            unfold World.cell? at h6
            rw [Array.getElem?_eq_none (by simp only at hn ⊢; omega)] at h6
            cases h6
          · intro x hx
            simp only [List.mem_map] at hx
            obtain ⟨x', hx', rfl⟩ := hx
            obtain ⟨i, hi⟩ := List.getElem?_of_mem hx'
            obtain ⟨cs', y, _, h3, h4, _⟩ := hxs i x' hi
            rw [← h4.1]; exact (cells_at h3).1
          · intro i j x d h1 h2
            obtain ⟨v, h3, _⟩ := hat i j x d h1 h2
            rw [h3]; rfl
          · intro i j x d h1 h2
            obtain ⟨v, h3, h4⟩ := hat i j x d h1 h2
            simp only [h3, Option.getD_some]; exact h4
      · have h1 := bulk_len (elems.map (·.1))
        simp only [Rows.uptoBulk, List.length_map] at h1 ⊢; omega
      · obtain ⟨i, hi⟩ := List.getElem?_of_mem hx
        obtain ⟨cs', y, h2, _, _, h4, _⟩ := hxs i x hi
        refine de.up _ _ _ ?_ h4
        have := bulk_mem (x := y.1) (l := elems.map (·.1)) (List.mem_map.2 ⟨y, List.mem_of_getElem? h2, rfl⟩)
        simp only [Rows.uptoBulk]; omega
      · have := bulk_sum (f := de.wt) (xs := xs) (l := elems.map (·.1)) (by simp; omega) (fun i x d h1 h2 => by
          obtain ⟨cs', y, h3, _, _, _, h4⟩ := hxs i x h1
          rw [List.getElem?_map, h3] at h2
          cases h2; exact h4)
        simp only [Rows.uptoBulk]; omega
end
section
open Go Go.RowKit Go.ChangeShapes Go.WideShapes Go.ChangeAt
theorem Below.trodAll {H : Type} {enc : TypeId × Value → H} {P : Program} (hl : laidOutB P = true) {W W' : World} (hb : Below W.heap.size W W') : ∀ {ts : List TypeId} {vs : List Value} {ds : List (DataW H)} {ps : List MemPlace},
    ts.all (fun t => P.readableRec t && decide (t < P.types.size)) = true → DataW.TrodAll enc P W 0 (fun _ => true) true ts vs ds ps → (∀ x ∈ ps, x.block < W.heap.size) → DataW.TrodAll enc P W' 0 (fun b => decide (b < W.heap.size)) true ts vs ds ps
  | [], [], [], _, _, h, _ => h
  | [], [], _ :: _, _, _, h, _ => h.elim
  | [], _ :: _, _, _, _, h, _ => h.elim
  | _ :: _, [], _, _, _, h, _ => h.elim
  | _ :: _, _ :: _, [], _, _, h, _ => h.elim
  | t :: ts, v :: vs, d :: ds, ps, ha, h, hp => by
    simp only [List.all_cons, Bool.and_eq_true, decide_eq_true_eq] at ha
    obtain ⟨p, q, h1, h2, rfl⟩ := h
    exact ⟨p, q, Below.trod hl ha.1.1 ha.1.2 h1 hb (fun x hx => hp x (List.mem_append.2 (.inl hx))), Below.trodAll hl hb (by simpa using ha.2) h2 (fun x hx => hp x (List.mem_append.2 (.inr hx))), rfl⟩
theorem law_post {P : Program} {J : Inv} {f : FuncId} {fn : Func} {s : ChangeSpec} {tb : TypeId} (hl : laidOutB P = true) (hts : fn.params.toList.all (fun t => P.readableRec t && decide (t < P.types.size)) = true)
  (hv : s.vars = []) (hres : fn.resultTypes = #[tb]) (htb : P.underlying tb = some .bool) {H : Type} {enc : TypeId × Value → H} {W : World} {args : Array Value} {ds gs : List (DataW H)} {before : List MemPlace}
  (hW : DataW.Whole enc P fn.params.toList s.vars false W args.toList ds gs before) (hs : (s.fn H (ds ++ gs)).results = [.lit (.bool true)] ∧ (s.fn H (ds ++ gs)).args = ds ∧ (s.fn H (ds ++ gs)).vars = [])
  {us : List V} (pc : PureCall P J f us (.one (.d (.bool true)))) (hJ : J.I W) (hn : args.size = us.length) (hx : ∀ (i : Nat) (u : V) (v : Value), us[i]? = some u → args[i]? = some v → RV (noGh fun b => b < W.heap.size) noSh W u v) :
  Calls P f args W fun e W' => ∃ v, e = .returned v ∧ s.post enc P fn false true false false W args v W' := by
 have h := pc.calls (fun b => b < W.heap.size) W args.toList hJ (fun b hb => hb) (by simpa using hn) (fun i u v h1 h2 => hx i u v h1 (by simpa using h2))
 have h' : Calls P f args W _ := h
 refine h'.mono fun e W' ⟨v, im', he, hB, _, _, _, hr⟩ => ⟨v, he, ?_⟩
 obtain rfl : v = .bool true := by
  cases hr with | one _ _ h => cases h with | d _ _ h => cases h with | bool => rfl
 have hlt : ∀ x ∈ before, x.block < W.heap.size := fun x hx => by simpa using hW.lt x hx
 have hW' := hW
 obtain ⟨p, q, hA, hV, rfl, _, _⟩ := hW
 rw [hv] at hV
 have hgs : gs = [] ∧ q = [] := by
  cases gs with
  | nil => exact ⟨rfl, hV⟩
  | cons g gs => exact hV.elim
 obtain ⟨rfl, rfl⟩ := hgs
 refine ⟨ds, [], p ++ [], [], p, [], hW', ?_, ?_, ?_, hB.frame _, fun h => by cases h⟩
 ·skip
  rw [hs.1, hres]
  exact trodAll_cons_mk (shut_bool htb true) trodAll_mk0
 ·skip
  rw [hs.2.1]
  exact Below.trodAll hl hB hts hA (fun x hx => hlt x (by simp [hx]))
 ·skip
  rw [hs.2.2, hv]; rfl
theorem arg_agg {P : Program} {t : TypeId} {α : Type} (de : Dec P t α) {W : World} {r : Reach} {base : Nat} {v : Value} (ht : (match P.underlying t with | some (.struct _) | some (.array _ _) => true | _ => false) = true) (hv : Value.okWide P W r base t v)
    {H : Type} {enc : TypeId × Value → H} {d : DataW H} {ps : List MemPlace} (h : DataW.Trod enc P W 0 (fun _ => true) true t v d ps) (hlim : ∀ f, de.lim f = true := by intro _; rfl) : ∃ x : α, RV (noGh fun b => b < W.heap.size) noSh W (.agg ((de.ds x).map .d)) v ∧ de.wf (Rows.uptoBulk d) x := by
  obtain ⟨fuel, h⟩ := h
  obtain ⟨x, h1, h2, _⟩ := de.ok (hlim _) h
  refine ⟨x, ?_, h2⟩
  have hc : ∃ cs, v = .agg cs := by
    unfold Value.okWide at hv
    split at hv
    · exact ⟨_, hv.choose_spec.1⟩
    · exact ⟨_, hv.choose_spec.1⟩
    · rename_i h3 h4
      split at ht
      · rename_i fs h5; exact absurd h5 (h3 _)
      · rename_i n e h5; exact absurd h5 (h4 _ _)
      · cases ht
  obtain ⟨cs, rfl⟩ := hc
  have h3 : RDs W cs.toList (de.ds x) := h1
  have := RV.agg (g := noGh fun b => b < W.heap.size) (h := noSh) (w := W) ((de.ds x).map .d) cs.toList (by simp [h3.1]) (fun i c v hc hv => by
    simp only [List.getElem?_map, Option.map_eq_some_iff] at hc
    obtain ⟨d, hd, rfl⟩ := hc
    exact .d _ _ (h3.2 i v d hv hd))
  simpa using this
theorem arg_one {P : Program} {t : TypeId} {α : Type} (de : Dec P t α) {W : World} {r : Reach} {base : Nat} {v : Value} (ht : (match P.underlying t with | some .bool | some (.int _) | some .string | some (.slice _) | some (.pointer _) | some (.map _ _) => true | _ => false) = true) (hv : Value.okWide P W r base t v)
    {H : Type} {enc : TypeId × Value → H} {d : DataW H} {ps : List MemPlace} (h : DataW.Trod enc P W 0 (fun _ => true) true t v d ps) (hlim : ∀ f, de.lim f = true := by intro _; rfl) : ∃ x : α, (∀ e, de.ds x = [e] → RV (noGh fun b => b < W.heap.size) noSh W (.one (.d e)) v) ∧ de.wf (Rows.uptoBulk d) x := by
  obtain ⟨fuel, h⟩ := h
  obtain ⟨x, h1, h2, _⟩ := de.ok (hlim _) h
  refine ⟨x, fun e he => ?_, h2⟩
  have hc : v.cells.toList = [v] := by
    cases v with
    | agg cs =>
      exfalso
      unfold Value.okWide Cell.okWide Cell.ok at hv
      split at ht <;> simp_all
    | _ => rfl
  rw [hc, he] at h1
  exact .one _ _ (.d _ _ (h1.2 0 v e rfl rfl))
end
section
open Go Go.RowKit Go.ChangeShapes Go.WideShapes Go.ChangeAt
theorem trod_iface {H : Type} {enc : TypeId × Value → H} {P : Program} {w : World} {fuel : Nat} {t : TypeId} {cs : List Value} {nm : String} {x : DataW H} {p : List MemPlace} {ms : Array (String × TypeId)} (ht : P.underlying t = some (.interface ms))
  (h : DataW.trod enc P w 0 (fun _ => true) false fuel t cs = some (.iface nm x, p)) : ∃ u v, cs = [.iface u v] := by
 cases fuel with
 | zero => simp [DataW.trod] at h
 | succ fuel =>
  unfold DataW.trod at h
  rw [ht] at h
  split at h <;> first
   | exact ⟨_, _, rfl⟩
   | (simp_all; done)
theorem err_of {P : Program} {W : World} {n : String} {nm : String} {d : DataW Unit} {g : Nat} {t : TypeId} {ms : Array (String × TypeId)} (hg : P.globalNamed n = some g) (hty : (P.globals[g]?).map (·.type) = some t) (ht : P.underlying t = some (.interface ms))
  (h : Lib.VarReads P W n (.iface nm d)) : ∃ t p, W.var? P n = some #[.iface t p] := by
 obtain ⟨g', t', cs, fuel, p, hg', ht', hvar, hd⟩ := h
 obtain rfl := Option.some.inj (hg.symm.trans hg')
 obtain rfl := Option.some.inj (hty.symm.trans ht')
 obtain ⟨u, v, hc⟩ := trod_iface ht hd
 exact ⟨u, v, by rw [hvar]; congr 1; exact Array.ext' (by simpa using hc)⟩
theorem pow_of {W : World} (h : Lib.VarReads Tryz.prog W "internal/strconv.uint64pow10" Rows.laid_internal_strconv_uint64pow10) : Lib.TabIs Tryz.prog W "internal/strconv.uint64pow10" .u64 Lib.pow10Tab := by
 obtain ⟨g', t', cs, fuel, p, hg', ht', hvar, hd⟩ := h
 obtain rfl := Option.some.inj ((show Tryz.prog.globalNamed "internal/strconv.uint64pow10" = some 5 by kernel_rfl).symm.trans hg')
 obtain rfl := Option.some.inj ((show (Tryz.prog.globals[5]?).map (·.type) = some 278 by kernel_rfl).symm.trans ht')
 unfold Lib.TabIs
 rw [hvar, ← Lib.cells_of_tab (k := .u64) (zs := Lib.pow10Tab) Tryz.underlying278 Tryz.underlying182 (by kernel_rfl) (by kernel_rfl) hd]
theorem db_of {W : World} (h : Lib.VarReads Tryz.prog W "math/bits.deBruijn64tab" Rows.laid_math_bits_deBruijn64tab) : Lib.TabIs Tryz.prog W "math/bits.deBruijn64tab" .u8 (List.map (fun n : Nat => (n : Int)) Lib.deBruijn64tab) := by
 obtain ⟨g', t', cs, fuel, p, hg', ht', hvar, hd⟩ := h
 obtain rfl := Option.some.inj ((show Tryz.prog.globalNamed "math/bits.deBruijn64tab" = some 7 by kernel_rfl).symm.trans hg')
 obtain rfl := Option.some.inj ((show (Tryz.prog.globals[7]?).map (·.type) = some 308 by kernel_rfl).symm.trans ht')
 unfold Lib.TabIs
 rw [hvar, ← Lib.cells_of_tab (k := .u8) (zs := List.map (fun n : Nat => (n : Int)) Lib.deBruijn64tab) Tryz.underlying308 Tryz.underlying5 (by kernel_rfl) (by kernel_rfl) hd]
theorem base_of {W : World} {l : List (String × DataW Unit)} (hl : laidMet Tryz.prog l W) (h1 : ("internal/strconv.uint64pow10", Rows.laid_internal_strconv_uint64pow10) ∈ l) (h2 : ("strconv.ErrSyntax", Rows.laid_strconv_ErrSyntax) ∈ l)
  (h3 : ("strconv.ErrRange", Rows.laid_strconv_ErrRange) ∈ l) (h4 : ("math/bits.deBruijn64tab", Rows.laid_math_bits_deBruijn64tab) ∈ l) (hS : W.ShapedOpen Tryz.prog) : J.I W where
 max := cell_of_shapedOpen_int (t := 3) (zero := #[.int .i64 0]) hS (of_decide_eq_true (by kernel_rfl)) (by kernel_rfl) rfl (by kernel_rfl) (by kernel_rfl) Tryz.underlying3
 pow := pow_of (Lib.laidMet.reads hl h1)
 esyn := err_of (g := 3) (by kernel_rfl) (by kernel_rfl) Tryz.underlying126 (Lib.laidMet.reads hl h2)
 eran := err_of (g := 4) (by kernel_rfl) (by kernel_rfl) Tryz.underlying126 (Lib.laidMet.reads hl h3)
 db := db_of (Lib.laidMet.reads hl h4)
mutual
def dcells : DataW Unit → List Value
  | .lit (.int k n) => [.int k n]
  | .agg ds => dcellsL ds
  | _ => []
def dcellsL : List (DataW Unit) → List Value
  | [] => []
  | d :: ds => dcells d ++ dcellsL ds
end
def putCs (cs : List Value) : Obj → Obj
 | .cells _ t fr => .cells cs.toArray t fr
 | o => o
def errText : DataW Unit → ByteArray
 | .iface _ (.ptr (.agg [.lit (.string s)])) => ⟨s.toArray⟩
 | _ => ByteArray.empty
def errCell (b : Nat) : List Value := [.iface 295 (.pointer (some ⟨b, 0, none⟩))]
noncomputable def laidWorld (os : Os) : World :=
 { World.holding Tryz.prog os ⟨#[], #[], []⟩ with heap :=
  let h := (World.holding Tryz.prog os ⟨#[], #[], []⟩).heap
  let h := h.modify 5 (putCs (dcells Rows.laid_internal_strconv_uint64pow10))
  let h := h.modify 1 (putCs (dcells Rows.laid_unicode_utf8_first))
  let h := h.modify 2 (putCs (dcells Rows.laid_unicode_utf8_acceptRanges))
  let h := h.modify 6 (putCs (dcells Rows.laid_math_bits_deBruijn32tab))
  let h := h.modify 7 (putCs (dcells Rows.laid_math_bits_deBruijn64tab))
  let n := h.size
  let h := h.modify 3 (putCs (errCell n))
  let h := h.modify 4 (putCs (errCell (n + 1)))
  (h.push (.cells #[.string (errText Rows.laid_strconv_ErrSyntax)] 297 (0, 0))).push (.cells #[.string (errText Rows.laid_strconv_ErrRange)] 297 (0, 0)) }
end
end Go.Proofs.YtfcdmcdhhikhaaaGreatDoor
namespace Go.Proofs.YtfcdmcdhhikhaaaGreatDoor
section
open Go Go.RowKit
noncomputable def Dec.strW {P : Program} {t : TypeId} (ht : P.underlying t = some .string) : Dec P t (List UInt8) where
 ds s := [.str s]
 wf N s := s.length < N
 up _ _ _ h1 h := Nat.lt_of_lt_of_le h h1
 lim _ := true
 wt s := s.length
 ok _ h := by
  obtain ⟨s, rfl, hx⟩ := trod_str ht h
  simp only at hx
  refine ⟨s.data.toList, .one (.str s.data.toList), ?_, ?_⟩
  ·skip
   rw [hx]; simp [Rows.uptoBulk]
  ·skip
   rw [hx]; simp [Rows.uptoBulk]
mutual
def CT.by : CT → Nat
  | .mk k n v l => n.length + v.length + CT.bys l + 1
def CT.bys : List CT → Nat
  | [] => 0
  | c :: l => c.by + CT.bys l
end
theorem bys_sum : ∀ (l : List CT), CT.bys l = (l.map CT.by).sum
  | [] => rfl
  | c :: l => by
    show c.by + CT.bys l = _
    rw [bys_sum l]; rfl
inductive CtI (N : Nat) : CT → Prop where
 | mk (k : Int) (n v : List UInt8) (l : List CT) (h1 : n.length < N) (h2 : v.length < N) (h3 : ∀ a ∈ l, CtI N a) (h4 : l.length < N) : CtI N (.mk k n v l)
theorem CtI.up {m n : Nat} (h : m ≤ n) : ∀ {c : CT}, CtI m c → CtI n c := fun hc => by
 induction hc with
 | mk k nn v l h1 h2 h3 h4 ih => exact .mk k nn v l (by omega) (by omega) ih (by omega)
theorem CtI.sm {N : Nat} (hN : N ≤ 1048576) : ∀ {c : CT}, CtI N c → CtSm c := fun hc => by
 induction hc with
 | mk k nn v l h1 h2 h3 h4 ih => exact .mk k nn v l (by omega) (by omega) (by omega) ih
def CtWb (N : Nat) (c : CT) : Prop := CtI N c ∧ c.by ≤ N
theorem CtWb.up {m n : Nat} {c : CT} (h : m ≤ n) (hc : CtWb m c) : CtWb n c := ⟨CtI.up h hc.1, Nat.le_trans hc.2 h⟩
theorem condB : ∀ (n : Nat) {H : Type} {enc : TypeId × Value → H} {w : World} {fuel : Nat} {cs : List Value} {d : DataW H} {ps : List MemPlace}, fuel ≤ n → DataW.trod enc Tryz.prog w 0 (fun _ => true) true fuel 24 cs = some (d, ps) →
    ∃ x : CT, RDs w cs (CT.d x) ∧ CtWb (Rows.uptoBulk d) x ∧ x.by ≤ Rows.uptoBulk d
  | 0, H, enc, w, fuel, cs, d, ps, hf, h => by
    obtain rfl : fuel = 0 := by omega
    simp [DataW.trod] at h
  | n + 1, H, enc, w, fuel, cs, d, ps, hf, h => by
    let e : Dec Tryz.prog 24 CT := { ds := CT.d, wf := CtWb, up := fun _ _ _ h hx => CtWb.up h hx, lim := fun f => decide (f ≤ n), wt := CT.by, ok := fun hl h => condB n (of_decide_eq_true hl) h }
    let D0 := Dec.iso (Dec.struct Tryz.underlying24 (tot := 4) (by kernel_rfl)
      (DecF.cons (Dec.int .i64 Tryz.underlying3) rfl (n := 1) (by kernel_rfl) (DecF.cons (Dec.strW Tryz.underlying9) rfl (n := 1) (by kernel_rfl) (DecF.cons (Dec.strW Tryz.underlying9) rfl (n := 1) (by kernel_rfl)
        (DecF.cons (Dec.slice Tryz.underlying22 (sz := 4) (by kernel_rfl) (by decide) e) rfl (n := 1) (by kernel_rfl) (DecF.nil 4))))))
      (fun x => CT.mk x.1 x.2.1 x.2.2.1 x.2.2.2.1) CT.d CtWb (fun _ _ _ h hx => CtWb.up h hx) (fun x => by rw [ct_d]; show _ = [_, _, _, D.vec 4 (CT.ds x.2.2.2.1)]; rw [ds_map]; rfl)
      (fun N x hx hw => by
        obtain ⟨h1, h2, h3, h4, _⟩ := hx
        refine ⟨.mk _ _ _ _ h2 h3 (fun a ha => (h4.2 a ha).1) h4.1, ?_⟩
        show x.2.1.length + x.2.2.1.length + CT.bys x.2.2.2.1 + 1 ≤ N
        have hw : (0 + (x.2.1.length + (x.2.2.1.length + ((x.2.2.2.1.map CT.by).sum + 0)))) + 1 ≤ N := hw
        rw [bys_sum]; omega) CT.by (fun x => by
        show x.2.1.length + x.2.2.1.length + CT.bys x.2.2.2.1 + 1 ≤ (0 + (x.2.1.length + (x.2.2.1.length + ((x.2.2.2.1.map CT.by).sum + 0)))) + 1
        rw [bys_sum]; omega)
    refine D0.ok ?_ h
    show (true && (true && (true && (decide (fuel - 1 - 1 ≤ n) && true)))) = true
    simp; omega
noncomputable def decCb : Dec Tryz.prog 24 CT where
 ds := CT.d
 wf := CtWb
 up _ _ _ h hx := CtWb.up h hx
 lim _ := true
 wt := CT.by
 ok _ h := condB _ (Nat.le_refl _) h
noncomputable def decCn : Dec Tryz.prog 24 CT :=
 Dec.iso decCb (fun c => c) (fun c => [.int .i64 c.k, .str c.n, .str c.v, .vec 4 (CT.ds c.l)]) CtWb (fun _ _ _ h hx => CtWb.up h hx) (fun c => ct_d c) (fun N c hx _ => hx)
theorem by_w : ∀ (n : Nat) (c : CT), c.by ≤ n → c.w ≤ c.by
  | 0, .mk k nn v l, h => by have h : nn.length + v.length + CT.bys l + 1 ≤ 0 := h; omega
  | n + 1, .mk k nn v l, h => by
    have h : nn.length + v.length + CT.bys l + 1 ≤ n + 1 := h
    have hl : ∀ l : List CT, CT.bys l ≤ n → CT.ws l ≤ CT.bys l := fun l => by
      induction l with
      | nil => exact fun _ => Nat.le_refl _
      | cons a l ih =>
        intro h
        have h : a.by + CT.bys l ≤ n := h
        have h1 := by_w n a (by omega)
        have h2 := ih (by omega)
        show a.w + CT.ws l ≤ a.by + CT.bys l
        omega
    have := hl l (by omega)
    show CT.ws l + 1 ≤ nn.length + v.length + CT.bys l + 1
    omega
theorem by_b : ∀ (n : Nat) (c : CT), c.by ≤ n → c.b + 5 ≤ 35 * c.by
  | 0, .mk k nn v l, h => by have h : nn.length + v.length + CT.bys l + 1 ≤ 0 := h; omega
  | n + 1, .mk k nn v l, h => by
    have h : nn.length + v.length + CT.bys l + 1 ≤ n + 1 := h
    have hl : ∀ l : List CT, CT.bys l ≤ n → CT.bs l ≤ 35 * CT.bys l := fun l => by
      induction l with
      | nil => exact fun _ => Nat.le_refl _
      | cons a l ih =>
        intro h
        have h : a.by + CT.bys l ≤ n := h
        have h1 := by_b n a (by omega)
        have h2 := ih (by omega)
        show a.b + 5 + CT.bs l ≤ 35 * (a.by + CT.bys l)
        omega
    have := hl l (by omega)
    show nn.length + 2 * v.length + 30 + CT.bs l + 5 ≤ 35 * (nn.length + v.length + CT.bys l + 1)
    omega
structure CtA (c : CT) : Prop where
 sm : CtSm c
 w : c.w ≤ 1048576
 b : c.b ≤ 100000000
theorem CtWb.a {N : Nat} (hN : N ≤ 1048576) {c : CT} (h : CtWb N c) : CtA c := ⟨CtI.sm hN h.1, by have := by_w _ c (Nat.le_refl _); have := h.2; omega, by have := by_b _ c (Nat.le_refl _); have := h.2; omega⟩
end
section
open Go Go.RowKit
def DomW (N : Nat) (d : Dom) : Prop := d.n.length < N ∧ d.vs.length < N ∧ ∀ v ∈ d.vs, v.length < N
theorem DomW.up {m n : Nat} (h : m ≤ n) {d : Dom} (hd : DomW m d) : DomW n d := ⟨Nat.lt_of_lt_of_le hd.1 h, Nat.lt_of_lt_of_le hd.2.1 h, fun v hv => Nat.lt_of_lt_of_le (hd.2.2 v hv) h⟩
noncomputable def decDom : Dec Tryz.prog 59 Dom :=
  Dec.iso (Dec.struct Tryz.underlying59 (tot := 4) (by kernel_rfl)
    (DecF.cons (Dec.str Tryz.underlying9) rfl (n := 1) (by kernel_rfl) (DecF.cons (Dec.bool Tryz.underlying4) rfl (n := 1) (by kernel_rfl) (DecF.cons (Dec.bool Tryz.underlying4) rfl (n := 1) (by kernel_rfl)
      (DecF.cons (Dec.slice Tryz.underlying39 (sz := 1) (by kernel_rfl) (by decide) (Dec.str Tryz.underlying9)) rfl (n := 1) (by kernel_rfl) (DecF.nil 4))))))
    (fun x => (⟨x.1, x.2.1, x.2.2.1, x.2.2.2.1⟩ : Dom)) domD DomW (fun _ _ _ h hx => DomW.up h hx) (fun _ => rfl)
    (fun N x hx _ => ⟨hx.1, hx.2.2.2.1.1, hx.2.2.2.1.2⟩)
end
end Go.Proofs.YtfcdmcdhhikhaaaGreatDoor
namespace Go.Proofs.YtfcdmcdhhikhaaaGreatDoor.fnAlwaysMatches
open Go Go.RowKit Go.ChangeShapes Go.WideShapes Go.ChangeAt
theorem contract (H : Type) (enc : TypeId × Value → H) (W : World) (base : Nat) (args : Array Value) (ds gs : List (DataW H)) (before : List MemPlace)
  (hval : ∀ (j : Nat) t v, Tryz.f3.params[j]? = some t → args[j]? = some v → Value.okWide Tryz.prog W .any base t v)
  (hW : DataW.Whole enc Tryz.prog Tryz.f3.params.toList Rows.alwaysMatchesSpec.vars false W args.toList ds gs before) (hc : Rows.uptoSmall H (ds ++ gs) = true)
  (hL : laidMetH Tryz.prog Rows.alwaysMatchesUptoRow.laid W) (hS : W.ShapedOpen Tryz.prog) :
  Calls Tryz.prog 3 args W fun e W' => ∃ v, e = .returned v ∧ Rows.alwaysMatchesSpec.post enc Tryz.prog Tryz.f3 false true false false W args v W' := by
 have hW' := hW
 obtain ⟨p, q, hA0, hV, rfl, hfz, hnd⟩ := hW
 have hA : DataW.TrodAll enc Tryz.prog W 0 (fun _ => true) true Tryz.f3.params.toList args.toList ds p := hA0
 rw [Tryz.params3] at hA hval
 obtain ⟨v0, vs0, d0, ds0, p0, q0, hargs, rfl, rfl, h0, r0⟩ := trodAll_cons hA
 obtain ⟨v1, vs1, d1, ds1, p1, q1, rfl, rfl, rfl, h1, r1⟩ := trodAll_cons r0
 obtain ⟨rfl, rfl, rfl⟩ := trodAll_nil r1
 obtain rfl : args = #[v0, v1] := Array.ext' (by simpa using hargs)
 obtain ⟨rfl, rfl⟩ := trodVars_none hV
 obtain ⟨c, e0, w0⟩ := arg_agg decCn (by kernel_rfl) (hval 0 24 v0 rfl rfl) h0
 obtain ⟨l, e1, w1⟩ := arg_one (Dec.slice Tryz.underlying25 (sz := 4) (by kernel_rfl) (by decide) decDom) (by kernel_rfl) (hval 1 25 v1 rfl rfl) h1
 have hbulk : Rows.uptoBulkAll ([d0, d1] ++ []) ≤ 1048576 := of_decide_eq_true hc
 simp only [List.append_nil, Rows.uptoBulkAll] at hbulk
 have h0 : CtWb (Rows.uptoBulk d0) c := w0
 have h0a := h0.a (by omega)
 have h1 : l.length < Rows.uptoBulk d1 ∧ ∀ u ∈ l, u.n.length < Rows.uptoBulk d1 ∧ u.vs.length < Rows.uptoBulk d1 ∧ ∀ v ∈ u.vs, v.length < Rows.uptoBulk d1 := w1
 have pc := pc_outlaw2_AlwaysMatches c h0a.sm h0a.w l ⟨by omega, fun u hu => by have h := h1.2 u hu; exact ⟨by omega, by omega, fun v hv => by have := h.2.2 v hv; omega⟩⟩
 refine law_post (by kernel_rfl) (by kernel_rfl) rfl rfl Tryz.underlying4 hW' ⟨rfl, rfl, rfl⟩ pc (base_of (l := Rows.alwaysMatchesUptoRow.laid) hL (.tail _ (.tail _ (.head _))) (.tail _ (.tail _ (.tail _ (.tail _ (.tail _ (.head _)))))) (.tail _ (.tail _ (.tail _ (.tail _ (.head _))))) (.tail _ (.head _)) hS) rfl (fun i u v hu hv => ?_)
 match i with
 | 0 => simp at hu hv; subst hu; subst hv; exact e0
 | 1 => simp at hu hv; subst hu; subst hv; exact e1 _ rfl
 | i + 2 => simp at hu
end Go.Proofs.YtfcdmcdhhikhaaaGreatDoor.fnAlwaysMatches
namespace Go.Proofs.YtfcdmcdhhikhaaaGreatDoor.fnAlwaysMatches
open Go Go.RowKit Go.ChangeShapes Go.WideShapes Go.ChangeAt
def zargs : Array Value := #[.agg #[.int .i64 0, .string ⟨#[]⟩, .string ⟨#[]⟩, .slice none 0 0], .slice none 0 0]
set_option maxRecDepth 100000 in
theorem laid_met (os : Os) : laidMet Tryz.prog Rows.alwaysMatchesUptoRow.laid ((laidWorld os).forCall (fun _ _ => 0) ⟨#[], zargs, []⟩).memory :=
 laidMet_of_run' 8 (by kernel_rfl) (by kernel_rfl)
set_option maxRecDepth 100000 in
theorem reads (os : Os) {H : Type} (enc : TypeId × Value → H) : ∃ ds places, DataW.whole enc Tryz.prog ((laidWorld os).forCall (fun _ _ => 0) ⟨#[], zargs, []⟩).memory Tryz.f3.params.toList Rows.alwaysMatchesSpec.vars false zargs.toList 8 = some (ds, [], places) ∧ Rows.uptoSmall H (ds ++ []) = true :=
 ⟨[.agg [.lit (.int .i64 0), .lit (.string []), .lit (.string []), .nil], .nil], [], by kernel_rfl, by kernel_rfl⟩
theorem own : ownKnob Tryz.prog.godebug = none := by kernel_rfl
set_option maxRecDepth 100000 in
theorem liftedUpto (os : Os) (started : os.Started) (H : Type) (enc : TypeId × Value → H) (F : Stop.Interp) :
    ReturnsInHanded {} Tryz.checked os 3 .any ((Rows.OpenSpec.upto Rows.alwaysMatchesSpec).preRow enc Tryz.prog Tryz.f3 Rows.alwaysMatchesUptoRow.domain false Rows.alwaysMatchesUptoRow.laid) (((Rows.OpenSpec.upto Rows.alwaysMatchesSpec).at F).post enc Tryz.prog Tryz.f3 false true false false) := by
  obtain ⟨ds, places, hx, hsm⟩ := reads os enc
  refine returnsInHanded_of_row (C := Tryz.checked) (s := Rows.OpenSpec.upto Rows.alwaysMatchesSpec) own started (by kernel_rfl) Tryz.func3
    (witness_row_at (enc := enc) (C := Tryz.checked) false (laidWorld os) zargs rfl (by kernel_rfl) (by kernel_rfl) (by kernel_rfl)
      (OpenSpec.preRow_of_cond 8 hx (by kernel_rfl) (fun k hk => by cases hk; exact hsm) (by kernel_rfl) (laid_met os))) ?_
  intro W base args ds gs before hval hW _ hcond _ hL hS _
  exact contract H enc W base args ds gs before hval hW (hcond _ rfl) hL hS
theorem band {a b : Bool} (ha : a = true) (hb : b = true) : (a && b) = true := by rw [ha, hb]; rfl
set_option maxRecDepth 100000 in
theorem closed : joinedFacts Tryz.pinned.checked.prog 3 Tryz.f3 (Rows.OpenSpec.upto Rows.alwaysMatchesSpec).bare Rows.alwaysMatchesUptoRow = true := by
 unfold joinedFacts
 refine band (band (band (band (band (band (band (band (band (band (band (band (band (band (band (band (band (band (band (band (band (band (band (band (band (band (band (band (band (band (band ?_ ?_) ?_) ?_) ?_) ?_) ?_) ?_) ?_) ?_) ?_) ?_) ?_) ?_) ?_) ?_) ?_) ?_) ?_) ?_) ?_) ?_) ?_) ?_) ?_) ?_) ?_) ?_) ?_) ?_) ?_) ?_
 all_goals (as_aux_lemma => kernel_rfl)
theorem saidUpto : Rows.AlwaysMatchesUptoSaid :=
  OpenClaim.holds_of_cond 3 Tryz.f3 rfl rfl rfl rfl rfl rfl rfl ⟨rfl, rfl, rfl, rfl, rfl⟩ rfl rfl rfl rfl rfl (by as_aux_lemma => kernel_rfl) Tryz.func3 closed
    (of_decide_eq_true (by kernel_rfl)) (by unfold Func.isWrapper; first | (rw [if_pos (by decide +kernel)]; kernel_rfl) | (rw [if_neg (by decide +kernel)]; exact ⟨rfl, rfl⟩))
    (fun os started H enc _ F => by rw [OpenClaim.pre_eq_preRow]; exact liftedUpto os started H enc F)
theorem plain (f : FuncId) (fn : Func) (hf : Tryz.pinned.checked.prog.funcNamed "outfitter/outlaw2.AlwaysMatches" = some f) (hfn : Tryz.pinned.checked.prog.funcs[f]? = some fn) :
  true = Tryz.pinned.checked.prog.looks [] ∧ ∀ (j : Nat) t, fn.params[j]? = some t → Tryz.pinned.checked.prog.wantsStandIn t = false := by
 obtain rfl : f = 3 := Option.some.inj ((show Tryz.prog.funcNamed "outfitter/outlaw2.AlwaysMatches" = some 3 by kernel_rfl).symm.trans hf) |>.symm
 obtain rfl : fn = Tryz.f3 := (Option.some.inj (Tryz.func3.symm.trans hfn)).symm
 refine ⟨by kernel_rfl, fun j t ht => ?_⟩
 rw [Tryz.params3] at ht
 have hm : t = 25 ∨ t = 24 := by
  have h1 := Array.mem_of_getElem? ht
  have h2 : t = 24 ∨ t = 25 := by simpa using h1
  rcases h2 with h | h <;> rw [h] <;> simp
 rcases hm with rfl | rfl
 ·skip
  exact (show Tryz.prog.wantsStandIn 25 = false by kernel_rfl)
 ·skip
  exact (show Tryz.prog.wantsStandIn 24 = false by kernel_rfl)
theorem cardUpto : Rows.AlwaysMatchesUptoCardSaid :=
 Claim7.holds_tied_plain_at .later [] _ _ _ _ saidUpto (fun _ h => by cases h) (by kernel_rfl) (fun _ h => by cases h) alwaysMatchesUpto_row_tie rfl ⟨rfl, rfl⟩ (by kernel_rfl) rfl plain (by kernel_rfl)
end Go.Proofs.YtfcdmcdhhikhaaaGreatDoor.fnAlwaysMatches
