/- Part 3 of a proof: V10, V11, V12, V13, V14, V15, V16, V21, W30, V20, W31, V60, V61, V62, V63, V64, V65, V66, V68, V69, V86, W89, W13, W14, W15, W16, W80, V22, V23, V80, W81, W82, V24, V25, V67, V81, W83, W33, W34, W35, W36, V26, V27, V28, W41, V29, W42, V40, V41, W43, V85, W88, V17, V87, W90, W91, ShelfK, L6, V88, W92, W93, V89, A61, V92, V93, W96, V18. -/
import Derived.Sort.Walk0
import Derived.Lib.Bytealg
import Derived.Lib.Replace
import Derived.Lib.ReplaceLaws
import Derived.Lib.Join
import Derived.Shelf.SlIter.Nil
import Derived.Shelf.SortM.Plain
import Derived.Shelf.SortM.SortNone
import Derived.Ground.GgzProg
import Derived.Ground.SlgmProg
import Derived.Test.YtfcdmcdhhikhaaaGreatDoorProg
import Derived.Test.YtfcdmcdhhikhaaaGreatDoorMCAlwaysMatches2
set_option linter.unusedVariables false
set_option linter.unusedSimpArgs false
set_option maxRecDepth 100000
set_option maxHeartbeats 4000000
namespace Go.Proofs.YtfcdmcdhhikhaaaGreatDoor
section
open Go
theorem first_of {c : UInt8} {s : List UInt8} (h : c ∈ s) : ∃ x y, s = x ++ c :: y ∧ c ∉ x := by
  induction s with
  | nil => cases h
  | cons a s ih =>
    by_cases ha : a = c
    · subst ha; exact ⟨[], s, rfl, by simp⟩
    · have h' : c ∈ s := by rcases List.mem_cons.1 h with h | h; exact absurd h.symm ha; exact h
      obtain ⟨x, y, rfl, hx⟩ := ih h'
      exact ⟨a :: x, y, rfl, by simp [hx, Ne.symm ha]⟩
theorem contains_iff {c : UInt8} {s : List UInt8} : Lib.contains s [c] = decide (c ∈ s) := by
 unfold Lib.contains
 by_cases h : c ∈ s
 ·skip
  obtain ⟨x, y, rfl, hx⟩ := first_of h
  rw [index_at hx]; simp
 ·skip
  rw [index_none h]; simp [h]
theorem rowB_iff {s : List UInt8} : rowB s = decide ((32 : UInt8) ∉ s) := by rw [rowB, contains_iff]; simp
theorem parse_check {s : List UInt8} {v : Ver} (h : parseB s = (v, 0)) : v.check = 0 := by
 unfold parseB parseW at h
 split at h
 ·skip
  simp at h
 ·skip
  split at h
  ·skip
   unfold threeB at h
   split at h
   ·skip
    simp at h
   ·skip
    split at h
    ·skip
     simp at h
    ·skip
     split at h
     ·skip
      simp at h
     ·skip
      split at h
      ·skip
       rename_i hc
       simp only [Prod.mk.injEq] at h
       rw [h.2] at hc
       simp at hc
      ·skip
       rename_i hc
       simp only [Prod.mk.injEq, and_true] at h
       rw [← h]
       simpa [Ver.check] using hc
  ·skip
   simp at h
theorem check_codes (a b c : Int) (e : List UInt8) : checkB a b c e = 0 ∨ checkB a b c e = 2 ∨ checkB a b c e = 3 := by
 unfold checkB
 split
 ·skip
  simp
 ·skip
  split <;> simp
theorem nextOk_codes (x y z : Int) : (nextOk x y z).2 ≠ 8 := by
 unfold nextOk
 split <;> simp
theorem next_codes (v : Ver) (p : Int) : (nextB v p).2 ≠ 8 := by
 unfold nextB
 split
 ·skip
  have := check_codes v.a v.b v.c v.e
  simp only [Ver.check]; omega
 ·skip
  split
  ·skip
   exact nextOk_codes _ _ _
  ·skip
   split
   ·skip
    exact nextOk_codes _ _ _
   ·skip
    split
    ·skip
     exact nextOk_codes _ _ _
    ·skip
     split
     ·skip
      simp
     ·skip
      exact nextOk_codes _ _ _
theorem behind_codes (v : Ver) (g : Int) : (behindB v g).2 ≠ 8 := by
 unfold behindB
 split
 ·skip
  have := check_codes v.a v.b v.c (v.e ++ [46, 48])
  simp only; omega
 ·skip
  split
  ·skip
   exact next_codes _ _
  ·skip
   split <;> exact next_codes _ _
theorem check_a {v : Ver} (h : v.check = 0) : 0 ≤ v.a := by
 unfold Ver.check checkB at h
 split at h
 ·skip
  cases h
 ·skip
  rename_i h1
  simp [outsideN, outsideB] at h1
  omega
theorem behind_eq {v : Ver} (h : v.check = 0) (g : Int) : behindR' v g = behindB v g := by
  have ha := check_a h
  have e : decide (v.a > 0) = !(v.a == 0) := by
    by_cases h0 : v.a = 0
    · simp [h0]
    · have : v.a > 0 := by omega
      simp [h0, this]
  simp only [behindR', behindB, e]
theorem shortV_eq (k : Int) (w : List UInt8) (h42 : k ≠ 42) (h62 : k ≠ 62) (h60 : k ≠ 60) (h98 : k ≠ 98) : (shortV k w).2 = (spanB ⟨k, w, []⟩).2 ∧ ((shortV k w).2 = 0 → (shortV k w).1 = (spanB ⟨k, w, []⟩).1) ∧ ((shortV k w).2 = 8 ↔ (parseB w).2 = 8) := by
  rw [shortV_def]
  unfold spanB
  simp only [beq_iff_eq, h42, h62, h60, h98, if_false]
  by_cases hp : (parseB w).2 = 0
  · have hc := parse_check (s := w) (v := (parseB w).1) (by rw [← hp])
    simp only [hp, bne_self_eq_false, Bool.false_eq_true, if_false, behind_eq hc]
    refine ⟨?_, ?_, ?_⟩ <;> simp [behind_codes]
  · simp [hp]
theorem idx3 {c : UInt8} (h : Lib.indexByte [61, 94, 126] c ≥ 0) : c = 61 ∨ c = 94 ∨ c = 126 := by
 simp only [Lib.indexByte] at h
 by_cases h1 : (61 : UInt8) = c
 ·skip
  exact .inl h1.symm
 ·skip
  by_cases h2 : (94 : UInt8) = c
  ·skip
   exact .inr (.inl h2.symm)
  ·skip
   by_cases h3 : (126 : UInt8) = c
   ·skip
    exact .inr (.inr h3.symm)
   ·skip
    simp [h1, h2, h3] at h
theorem idx4 {c : UInt8} (h : c ≠ 60) : decide (Lib.indexByte [60, 61, 94, 126] c ≥ 0) = decide (Lib.indexByte [61, 94, 126] c ≥ 0) := by
 simp only [Lib.indexByte]
 by_cases h1 : (61 : UInt8) = c
 ·skip
  subst h1; decide
 ·skip
  by_cases h2 : (94 : UInt8) = c
  ·skip
   subst h2; decide
  ·skip
   by_cases h3 : (126 : UInt8) = c
   ·skip
    subst h3; decide
   ·skip
    simp [h1, h2, h3, Ne.symm h]
theorem byte_back (c : UInt8) : (bI c).toNat.toUInt8 = c := by simp [bI]
theorem pre2 {x : List UInt8} (h : Lib.hasPrefix x [62, 61] = true) : ∃ r, x = 62 :: 61 :: r := by
 unfold Lib.hasPrefix at h
 match x, h with
 | [], h => simp at h
 | [a], h => simp [List.isPrefixOf] at h
 | a :: b :: r, h =>
  simp [List.isPrefixOf] at h
  exact ⟨r, by rw [h.1, h.2]⟩
theorem pre1 {x : List UInt8} (h : Lib.hasPrefix x [60] = true) : ∃ r, x = 60 :: r := by
 unfold Lib.hasPrefix at h
 match x, h with
 | [], h => simp at h
 | a :: r, h =>
  simp [List.isPrefixOf] at h
  exact ⟨r, by rw [h]⟩
theorem trim2 (r : List UInt8) : Lib.trimPrefix (62 :: 61 :: r) [62, 61] = r := by simp [Lib.trimPrefix, Lib.hasPrefix, List.isPrefixOf]
theorem trim1 (r : List UInt8) : Lib.trimPrefix (60 :: r) [60] = r := by simp [Lib.trimPrefix, Lib.hasPrefix, List.isPrefixOf]
theorem has2 (r : List UInt8) : Lib.hasPrefix (62 :: 61 :: r) [62, 61] = true := by simp [Lib.hasPrefix, List.isPrefixOf]
theorem has1 (r : List UInt8) : Lib.hasPrefix (60 :: r) [60] = true := by simp [Lib.hasPrefix, List.isPrefixOf]
def Same (t : List UInt8) : Prop := badB t = (tokE t == 8) ∧ (badB t = false → (spanB (itemB t).1).2 = tokE t ∧ (tokE t = 0 → (spanB (itemB t).1).1 = tokS t))
theorem same_from {r : List UInt8} (h : (32 : UInt8) ∉ r) : Same (62 :: 61 :: r) := by
 have hw : wordsR (62 :: 61 :: r) = [62 :: 61 :: r] := split_none (by simp [h])
 have hi : itemB (62 :: 61 :: r) = (⟨62, r, []⟩, true) := by
  unfold itemB
  rw [if_neg (by simp), if_pos (has2 r), trim2, cut_none h, if_neg (by simp), rowB_iff]
  simp [h]
 have ht : tokR (62 :: 61 :: r) = (⟨true, false, (parseB r).1, Ver.z⟩, (parseB r).2) := by
  rw [tok_1 (by rw [hw]; simp [has2])]
  rw [hw]; simp [trim2]
 unfold Same badB tokE tokS
 rw [hi, ht]
 refine ⟨by simp [wrongB], fun _ => ?_⟩
 unfold spanB
 by_cases hp : (parseB r).2 = 0 <;> simp [hp]
theorem same_to {r : List UInt8} (h : (32 : UInt8) ∉ r) : Same (60 :: r) := by
 have hw : wordsR (60 :: r) = [60 :: r] := split_none (by simp [h])
 have hi : itemB (60 :: r) = (⟨60, r, []⟩, true) := by
  unfold itemB
  rw [if_neg (by simp), if_neg (by simp [Lib.hasPrefix, List.isPrefixOf]), if_pos (by simp [byte_back]; decide), rowB_iff]
  simp [h, bI]
 have ht : tokR (60 :: r) = (⟨false, true, Ver.z, (parseB r).1⟩, (parseB r).2) := by
  rw [tok_2 (by rw [hw]; simp [Lib.hasPrefix, List.isPrefixOf]) (by rw [hw]; simp [has1])]
  rw [hw]; simp [trim1]
 unfold Same badB tokE tokS
 rw [hi, ht]
 refine ⟨by simp [wrongB], fun _ => ?_⟩
 unfold spanB
 by_cases hp : (parseB r).2 = 0 <;> simp [hp]
theorem same_short {t : List UInt8} (h : (32 : UInt8) ∉ t) (h1 : Lib.hasPrefix t [62, 61] = false) (h2 : Lib.hasPrefix t [60] = false) : Same t := by
  have hw : wordsR t = [t] := split_none h
  have ht : tokR t = shortB t := by
    rw [tok_3 (by rw [hw]; simp [h1]) (by rw [hw]; simp [h2]) (by rw [hw]; simp)]
    rw [hw]; simp
  by_cases hs : t = [42]
  · subst hs
    have hi : itemB [42] = (⟨42, [], []⟩, true) := rfl
    have hq : shortB [42] = (Sp.z, 0) := rfl
    unfold Same badB tokE tokS
    rw [hi, ht, hq]
    exact ⟨by simp, fun _ => ⟨rfl, fun _ => rfl⟩⟩
  · have key : ∀ (k : Int) (w : List UInt8), itemB t = (⟨k, w, []⟩, true) → shortB t = shortV k w → k ≠ 42 → k ≠ 62 → k ≠ 60 → k ≠ 98 → Same t := fun k w hi hq k1 k2 k3 k4 => by
      obtain ⟨q1, q2, q3⟩ := shortV_eq k w k1 k2 k3 k4
      unfold Same badB tokE tokS
      rw [hi, ht, hq]
      refine ⟨?_, fun _ => ⟨q1.symm, fun h0 => (q2 h0).symm⟩⟩
      have e : ((shortV k w).2 == 8) = ((parseB w).2 == 8) := by
        rw [Bool.eq_iff_iff]; simpa using q3
      have b1 : (k == 42) = false := by simpa using k1
      have b4 : (k == 98) = false := by simpa using k4
      simp only [wrongB, e, b1, b4]; simp
    by_cases hc : (!(t == []) && decide (Lib.indexByte [61, 94, 126] (bI (t.getD 0 0)).toNat.toUInt8 ≥ 0)) = true
    · obtain ⟨a, r, rfl⟩ : ∃ a r, t = a :: r := by
        cases t with
        | nil => simp at hc
        | cons a r => exact ⟨a, r, rfl⟩
      have hc' := hc
      simp only [byte_back] at hc'
      simp at hc'
      have h60 : a ≠ 60 := fun e => by subst e; simp [has1] at h2
      refine key (bI a) r ?_ ?_ ?_ ?_ ?_ ?_
      · unfold itemB
        rw [if_neg (by simpa using hs), if_neg (by simp [h1]), if_pos, rowB_iff]
        · simp at h; simp [h]
        · simp only [byte_back]
          have := idx4 h60
          simp at this ⊢
          rw [this]; exact hc'
      · unfold shortB
        rw [if_neg (by simpa using hs), if_pos hc]; simp
      all_goals
        rcases idx3 hc' with rfl | rfl | rfl <;> decide
    · refine key 94 t ?_ ?_ (by decide) (by decide) (by decide) (by decide)
      · unfold itemB
        rw [if_neg (by simpa using hs), if_neg (by simp [h1]), if_neg, rowB_iff]
        · simp [h]
        · intro hx
          apply hc
          cases t with
          | nil => simp at hx
          | cons a r =>
            have h60 : a ≠ 60 := fun e => by subst e; simp [has1] at h2
            have := idx4 h60
            simp only [byte_back] at hx ⊢
            simp at hx this ⊢
            rw [← this]; exact hx
      · unfold shortB
        rw [if_neg (by simpa using hs), if_neg hc]
theorem same_two {x y : List UInt8} (hx : (32 : UInt8) ∉ x) : Same (x ++ 32 :: y) := by
  have hw : wordsR (x ++ 32 :: y) = x :: Lib.split y [32] := split_cons hx
  have hlen : ((wordsR (x ++ 32 :: y)).length : Int) ≠ 1 := by
    rw [hw]; have := split_pos y [32]; simp only [List.length_cons]; omega
  have e1 : ∀ b, ((((wordsR (x ++ 32 :: y)).length : Int) == 1) && b) = false := fun b => by
    rw [show (((wordsR (x ++ 32 :: y)).length : Int) == 1) = false by simpa using hlen]; rfl
  have e0 : (((wordsR (x ++ 32 :: y)).length : Int) == 1) = false := by simpa using hlen
  have f0 : (wordsR (x ++ 32 :: y)).getD 0 [] = x := by rw [hw]; rfl
  have bad8 : ∀ (it : It), itemB (x ++ 32 :: y) = (it, false) → tokR (x ++ 32 :: y) = (Sp.z, 8) → Same (x ++ 32 :: y) := fun it hi ht => by
    unfold Same badB tokE
    rw [hi, ht]; simp
  by_cases hp : Lib.hasPrefix x [62, 61] = true
  · obtain ⟨r, rfl⟩ := pre2 hp
    have hr : (32 : UInt8) ∉ r := by simp at hx; exact hx
    have hcut : Lib.cut (r ++ 32 :: y) [32] = (r, y, true) := cut_at hr
    have hi : itemB (62 :: 61 :: r ++ 32 :: y) = (⟨98, r, Lib.trimPrefix y [60]⟩, (Lib.hasPrefix y [60] && rowB r) && rowB (Lib.trimPrefix y [60])) := by
      show itemB (62 :: 61 :: (r ++ 32 :: y)) = _
      unfold itemB
      rw [if_neg (by simp), if_pos (has2 _), trim2, hcut]
      rfl
    by_cases hy : (32 : UInt8) ∈ y
    · obtain ⟨y1, y2, rfl, hy1⟩ := first_of hy
      have hl3 : ((wordsR (62 :: 61 :: r ++ 32 :: (y1 ++ 32 :: y2))).length : Int) ≠ 2 := by
        rw [hw, split_cons hy1]; have := split_pos y2 [32]; simp only [List.length_cons]; omega
      have ht : tokR (62 :: 61 :: r ++ 32 :: (y1 ++ 32 :: y2)) = (Sp.z, 8) := by
        refine tok_5 (e1 _) (e1 _) e0 ?_
        rw [show (((wordsR (62 :: 61 :: r ++ 32 :: (y1 ++ 32 :: y2))).length : Int) == 2) = false by simpa using hl3]; rfl
      refine bad8 ⟨98, r, Lib.trimPrefix (y1 ++ 32 :: y2) [60]⟩ ?_ ht
      rw [hi]
      congr 1
      by_cases hq : Lib.hasPrefix (y1 ++ 32 :: y2) [60] = true
      · obtain ⟨q, hq'⟩ := pre1 hq
        have : (32 : UInt8) ∈ q := by
          have h3 : (32 : UInt8) ∈ y1 ++ 32 :: y2 := hy
          rw [hq'] at h3; simpa using h3
        rw [hq', trim1, rowB_iff (s := q)]; simp [this]
      · simp [hq]
    · have hws : wordsR (62 :: 61 :: r ++ 32 :: y) = [62 :: 61 :: r, y] := by rw [hw, split_none hy]
      by_cases hq : Lib.hasPrefix y [60] = true
      · obtain ⟨q, rfl⟩ := pre1 hq
        have hq32 : (32 : UInt8) ∉ q := by simp at hy; exact hy
        have ht := tok_4 (t := 62 :: 61 :: r ++ 32 :: (60 :: q)) (e1 _) (e1 _) e0 (by rw [hws]; simp [has2, has1])
        rw [hws] at ht
        simp only [List.getD_cons_zero, List.length_cons, List.length_nil, Nat.zero_add, Nat.add_sub_cancel, List.getD_cons_succ, trim2, trim1] at ht
        rw [trim1, has1] at hi
        have hi' : itemB (62 :: 61 :: r ++ 32 :: (60 :: q)) = (⟨98, r, q⟩, true) := by rw [hi, rowB_iff, rowB_iff]; simp [hr, hq32]
        unfold Same badB tokE tokS
        rw [hi', ht]
        by_cases hF : (parseB r).2 = 8
        · simp [wrongB, hF]
        · by_cases hT : (parseB q).2 = 8
          · simp [wrongB, hF, hT]
          · refine ⟨?_, fun _ => ?_⟩
            · have : firstB (parseB r).2 (parseB q).2 ≠ 8 := by unfold firstB; split <;> assumption
              have f1 : ((parseB r).2 == 8) = false := by simpa using hF
              have f2 : ((parseB q).2 == 8) = false := by simpa using hT
              have f3 : (firstB (parseB r).2 (parseB q).2 == 8) = false := by simpa using this
              simp [wrongB, f1, f2, f3]
            · unfold spanB
              by_cases hF0 : (parseB r).2 = 0
              · simp [hF0, hT, firstB]
              · simp [hF0, hF, hT, firstB]
      · have ht : tokR (62 :: 61 :: r ++ 32 :: y) = (Sp.z, 8) := tok_5 (e1 _) (e1 _) e0 (by rw [hws]; simp [hq])
        exact bad8 ⟨98, r, Lib.trimPrefix y [60]⟩ (by rw [hi]; simp [hq]) ht
  · have hp : Lib.hasPrefix x [62, 61] = false := by simpa using hp
    have ht : tokR (x ++ 32 :: y) = (Sp.z, 8) := tok_5 (e1 _) (e1 _) e0 (by rw [f0, hp]; simp)
    have hpt : Lib.hasPrefix (x ++ 32 :: y) [62, 61] = false := by
      match x, hp with
      | [], _ => simp [Lib.hasPrefix, List.isPrefixOf]
      | [a], _ => simp [Lib.hasPrefix, List.isPrefixOf]
      | a :: b :: x, hp => simpa [Lib.hasPrefix, List.isPrefixOf] using hp
    have hne : (x ++ 32 :: y == [42]) = false := by
      have : x ++ 32 :: y ≠ [42] := fun e => by
        have h3 : (32 : UInt8) ∈ x ++ 32 :: y := by simp
        rw [e] at h3; simp at h3
      simpa using this
    by_cases hc : (!(x ++ 32 :: y == []) && decide (Lib.indexByte [60, 61, 94, 126] (bI ((x ++ 32 :: y).getD 0 0)).toNat.toUInt8 ≥ 0)) = true
    · refine bad8 ⟨bI ((x ++ 32 :: y).getD 0 0), (x ++ 32 :: y).drop 1, []⟩ ?_ ht
      unfold itemB
      rw [if_neg (by simp [hne]), if_neg (by simp [hpt]), if_pos hc]
      congr 1
      match x, hc with
      | [], hc => simp [byte_back, Lib.indexByte] at hc
      | a :: x, _ => rw [rowB_iff]; simp
    · refine bad8 ⟨94, x ++ 32 :: y, []⟩ ?_ ht
      unfold itemB
      rw [if_neg (by simp [hne]), if_neg (by simp [hpt]), if_neg hc, rowB_iff]
      simp
theorem same_all (t : List UInt8) : Same t := by
 by_cases h : (32 : UInt8) ∈ t
 ·skip
  obtain ⟨x, y, rfl, hx⟩ := first_of h
  exact same_two hx
 ·skip
  by_cases h1 : Lib.hasPrefix t [62, 61] = true
  ·skip
   obtain ⟨r, rfl⟩ := pre2 h1
   exact same_from (by simp at h; exact h)
  ·skip
   by_cases h2 : Lib.hasPrefix t [60] = true
   ·skip
    obtain ⟨r, rfl⟩ := pre1 h2
    exact same_to (by simp at h; exact h)
   ·skip
    exact same_short h (by simpa using h1) (by simpa using h2)
theorem firstNe_zero : ∀ {l : List Int}, firstNe l = 0 → ∀ x ∈ l, x = 0
  | [], _, x, hx => by cases hx
  | a :: l, h, x, hx => by
    by_cases ha : a = 0
    · subst ha
      have h' : firstNe l = 0 := by simpa [firstNe] using h
      rcases List.mem_cons.1 hx with rfl | hx
      · rfl
      · exact firstNe_zero h' x hx
    · unfold firstNe at h
      rw [List.find?_cons, show (a != 0) = true by simpa using ha] at h
      exact absurd h ha
theorem range_eq (s : List UInt8) : rangeB s = rangeR s := by
 unfold rangeB rangeR
 split
 ·skip
  rfl
 ·skip
  split
  ·skip
   rfl
  ·skip
   have hbad : (partsR s).any badB = (partsR s).any (fun t => tokE t == 8) := by
    congr 1; funext t; exact (same_all t).1
   rw [hbad]
   split
   ·skip
    rfl
   ·skip
    rename_i h8
    have hall : ∀ t ∈ partsR s, badB t = false := fun t ht => by
     rw [(same_all t).1]
     have := List.any_eq_false.1 (Bool.eq_false_iff.2 h8) t ht
     simpa using this
    have hcodes : ((partsR s).map fun t => (spanB (itemB t).1).2) = (partsR s).map tokE := List.map_congr_left fun t ht => ((same_all t).2 (hall t ht)).1
    rw [hcodes]
    by_cases h0 : firstNe ((partsR s).map tokE) = 0
    ·skip
     have hsp : ((partsR s).map fun t => (spanB (itemB t).1).1) = (partsR s).map tokS := List.map_congr_left fun t ht =>
      ((same_all t).2 (hall t ht)).2 (firstNe_zero h0 _ (List.mem_map_of_mem ht))
     rw [hsp, h0]
     simp [firstB]
    ·skip
     simp [h0, firstB]
end
end Go.Proofs.YtfcdmcdhhikhaaaGreatDoor
namespace Go.Proofs.YtfcdmcdhhikhaaaGreatDoor
section
open Go
theorem rangeB_len (s : List UInt8) : (rangeB s).1.length ≤ 1002 := by
 have h := parts_many s
 unfold rangeB
 split
 ·skip
  simp
 ·skip
  rename_i h0
  simp only [decide_eq_true_eq] at h0
  split
  ·skip
   simp
  ·skip
   split
   ·skip
    simp
   ·skip
    split
    ·skip
     simp
    ·skip
     split
     ·skip
      simp
     ·skip
      simp only [List.length_map]; omega
end
section
open Go
def withinB (s : Sp) (v : Ver) : Bool := (!s.hf || decide (orderB v s.f ≥ 0)) && (!s.ht || decide (orderB v s.t < 0))
def namesB (h : Bool) (e v : Ver) : Bool := (((h && !(e.e == [])) && e.a == v.a) && e.b == v.b) && e.c == v.c
def hasAt (n : Nat) (v : Ver) (s : Sp) : Bool :=
 withinB s v && (((v.e == [] || (((n : Int) == 1 && !s.hf) && !s.ht)) || namesB s.hf s.f v) || namesB s.ht s.t v)
def hasB (ss : List Sp) (v : Ver) : Bool := ss.any (hasAt ss.length v)
def insideR (s : Sp) (v : Ver) : Bool := !(s.hf && decide (compareR v s.f < 0)) && !(s.ht && decide (compareR v s.t ≥ 0))
def hasAtR (all : Bool) (v : Ver) (s : Sp) : Bool := insideR s v && (((v.e == [] || all) || namesB s.hf s.f v) || namesB s.ht s.t v)
def allR (ss : List Sp) : Bool := ((ss.length : Int) == 1 && !(ss.getD 0 Sp.z).hf) && !(ss.getD 0 Sp.z).ht
def hasR (ss : List Sp) (v : Ver) : Bool := ss.any (hasAtR (allR ss) v)
def idxOf {α : Type} (φ : α → Bool) : List α → Int
 | [] => -1
 | x :: l => if φ x then 0 else if idxOf φ l == -1 then -1 else idxOf φ l + 1
theorem idxOf_none {α : Type} {φ : α → Bool} : ∀ {l : List α}, l.any φ = false → idxOf φ l = -1
  | [], _ => rfl
  | x :: l, h => by
    simp only [List.any_cons, Bool.or_eq_false_iff] at h
    unfold idxOf
    rw [if_neg (by simp [h.1]), idxOf_none h.2]; rfl
theorem idxOf_at {α : Type} {φ : α → Bool} {d : α} : ∀ {l : List α} {i : Nat}, i < l.length → (l.take i).any φ = false → φ (l.getD i d) = true → idxOf φ l = i
  | [], i, h, _, _ => by simp at h
  | x :: l, 0, _, _, hp => by simp at hp; simp [idxOf, hp]
  | x :: l, i + 1, h, ht, hp => by
    simp only [List.take_succ_cons, List.any_cons, Bool.or_eq_false_iff] at ht
    have ih := idxOf_at (d := d) (l := l) (i := i) (by simpa using h) ht.2 (by simpa using hp)
    unfold idxOf
    rw [if_neg (by simp [ht.1]), ih, if_neg (by rw [beq_iff_eq]; omega)]; omega
theorem idxOf_ge {α : Type} {φ : α → Bool} : ∀ {l : List α}, decide (idxOf φ l ≥ 0) = l.any φ
  | [] => rfl
  | x :: l => by
    have ih := idxOf_ge (φ := φ) (l := l)
    simp only [List.any_cons]
    unfold idxOf
    cases hx : φ x with
    | true => simp
    | false =>
      rw [← ih]
      simp only [Bool.false_eq_true, if_false, Bool.false_or]
      by_cases h : idxOf φ l = -1
      · simp [h]
      · have hb : ∀ (l : List α), -1 ≤ idxOf φ l := fun l => by
          induction l with
          | nil => simp [idxOf]
          | cons y l ih => unfold idxOf; split; omega; split <;> omega
        have := hb l
        simp [h]; omega
end
section
open Go
theorem rows_first (xs ys : List (List UInt8)) : rowsB xs ys = firstB (firstNe (List.zipWith cwB xs ys)) (Lib.compareInt xs.length ys.length) := rfl
end
end Go.Proofs.YtfcdmcdhhikhaaaGreatDoor
namespace Go.Proofs.YtfcdmcdhhikhaaaGreatDoor
section
open Go
theorem take_getD {α : Type} {l : List α} {i : Nat} {d : α} (h : i < l.length) : l.take (i + 1) = l.take i ++ [l.getD i d] := by
 rw [List.take_succ_eq_append_getElem h, List.getD_eq_getElem?_getD, List.getElem?_eq_getElem h]; rfl
end
section
open Go
inductive CT where
 | mk (k : Int) (n v : List UInt8) (l : List CT)
mutual
def CT.d : CT → List D
  | .mk k n v l => [.int .i64 k, .str n, .str v, .vec 4 (CT.ds l)]
def CT.ds : List CT → List (List D)
  | [] => []
  | c :: l => c.d :: CT.ds l
end
theorem ds_map : ∀ (l : List CT), CT.ds l = l.map CT.d
  | [] => rfl
  | c :: l => by
    show c.d :: CT.ds l = _
    rw [ds_map l]; rfl
def CT.z : CT := .mk 0 [] [] []
def CT.k : CT → Int | .mk k _ _ _ => k
def CT.n : CT → List UInt8 | .mk _ n _ _ => n
def CT.v : CT → List UInt8 | .mk _ _ v _ => v
def CT.l : CT → List CT | .mk _ _ _ l => l
mutual
def CT.w : CT → Nat
  | .mk _ _ _ l => CT.ws l + 1
def CT.ws : List CT → Nat
  | [] => 0
  | c :: l => c.w + CT.ws l
end
theorem ws_mem : ∀ {l : List CT} {a : CT}, a ∈ l → a.w ≤ CT.ws l
  | c :: l, a, h => by
    show a.w ≤ c.w + CT.ws l
    rcases List.mem_cons.1 h with rfl | h
    · omega
    · have := ws_mem h; omega
theorem CT.sz {c a : CT} (h : a ∈ c.l) : a.w < c.w := by
 cases c with
 | mk k n v l =>
  have h2 : a.w ≤ CT.ws l := ws_mem h
  show a.w < CT.ws l + 1
  omega
theorem CT.pos (c : CT) : 0 < c.w := by cases c; show 0 < CT.ws _ + 1; omega
abbrev ctV (c : CT) : V := .agg [.d (.int .i64 c.k), .d (.str c.n), .d (.str c.v), .d (.vec 4 (CT.ds c.l))]
theorem ct_d (c : CT) : c.d = [.int .i64 c.k, .str c.n, .str c.v, .vec 4 (CT.ds c.l)] := by cases c; rfl
def partP (k : Int) (n v : List UInt8) (m : Int) : Int :=
 if decide (k < 1) || decide (k > 8) then 1
 else if (((!(decide (k ≥ 2) && decide (k ≤ 5)) && !(n == [])) || (!((decide (k ≥ 2) && decide (k ≤ 5)) && k != 4) && !(v == []))) || (!decide (k ≥ 6) && decide (m > 0))) || (k == 6 && m != 1) then 2
 else if !(decide (k ≥ 2) && decide (k ≤ 5)) then 0
 else if !(if (k == 3 || k == 4) then pathB n else nameB n) then 5
 else if !valueB v then 2
 else if k == 5 then (rangeB v).2 else 0
def CT.part (c : CT) : Int := partP c.k c.n c.v (c.l.length : Int)
def up1 (n : Int) : Int := IntKind.i64.wrap (n + 1)
def visits {S : Type} (g : CT → S → Bool × S) : List CT → S → Bool × S
 | [], s => (true, s)
 | c :: l, s => if (g c s).1 then visits g l (g c s).2 else (false, (g c s).2)
theorem visits_nil {S : Type} {g : CT → S → Bool × S} {l : List CT} {s : S} : visits g (l.take 0) s = (true, s) := rfl
theorem visits_congr {S : Type} {g g' : CT → S → Bool × S} : ∀ {l : List CT}, (∀ c ∈ l, g c = g' c) → visits g l = visits g' l
  | [], _ => rfl
  | c :: l, h => by
    funext s
    have ih := visits_congr (l := l) (fun c hc => h c (List.mem_cons_of_mem _ hc))
    unfold visits
    rw [h c List.mem_cons_self, ih]
def visitN {S : Type} (f : CT → Int → S → Bool × S) : Nat → CT → Int → S → Bool × S
 | 0, c, lv, s => (true, s)
 | fuel + 1, c, lv, s => if (f c lv s).1 then visits (fun a => visitN f fuel a (up1 lv)) c.l (f c lv s).2 else (false, (f c lv s).2)
def visit {S : Type} (f : CT → Int → S → Bool × S) (c : CT) (lv : Int) (s : S) : Bool × S := visitN f c.w c lv s
theorem visitN_fuel {S : Type} (f : CT → Int → S → Bool × S) : ∀ (n m : Nat) (c : CT) (lv : Int), c.w ≤ n → c.w ≤ m → visitN f n c lv = visitN f m c lv
  | 0, m, c, lv, h, _ => by have := c.pos; omega
  | n + 1, 0, c, lv, _, h => by have := c.pos; omega
  | n + 1, m + 1, c, lv, h, h' => by
    funext s
    show (if (f c lv s).1 then visits (fun a => visitN f n a (up1 lv)) c.l (f c lv s).2 else _) = (if (f c lv s).1 then visits (fun a => visitN f m a (up1 lv)) c.l (f c lv s).2 else _)
    rw [visits_congr (fun a ha => visitN_fuel f n m a (up1 lv) (by have := CT.sz ha; omega) (by have := CT.sz ha; omega))]
theorem visit_eq {S : Type} (f : CT → Int → S → Bool × S) (c : CT) (lv : Int) (s : S) :
  visit f c lv s = if (f c lv s).1 then visits (fun a => visit f a (up1 lv)) c.l (f c lv s).2 else (false, (f c lv s).2) := by
 unfold visit
 obtain ⟨n, hn⟩ : ∃ n, c.w = n + 1 := ⟨c.w - 1, by have := c.pos; omega⟩
 rw [hn]
 show (if (f c lv s).1 then visits (fun a => visitN f n a (up1 lv)) c.l (f c lv s).2 else _) = _
 rw [visits_congr (fun a ha => visitN_fuel f n a.w a (up1 lv) (by have := CT.sz ha; omega) (Nat.le_refl _))]
theorem visit_no {S : Type} {f : CT → Int → S → Bool × S} {c : CT} {lv : Int} {s : S} (h : (f c lv s).1 = false) : visit f c lv s = (false, (f c lv s).2) := by rw [visit_eq, h]; simp
theorem visits_snoc {S : Type} {g : CT → S → Bool × S} : ∀ {l : List CT} {a : CT} {s s' : S}, visits g l s = (true, s') → visits g (l ++ [a]) s = g a s'
  | [], a, s, s', h => by
    have h2 : s = s' := (Prod.mk.inj h).2
    subst h2
    show (if (g a s).1 then (true, (g a s).2) else (false, (g a s).2)) = g a s
    cases h : g a s with
    | mk b q => cases b <;> rfl
  | c :: l, a, s, s', h => by
    unfold visits at h
    show (if (g c s).1 then visits g (l ++ [a]) (g c s).2 else _) = _
    cases hc : (g c s).1 with
    | true => rw [hc, if_pos rfl] at h; rw [if_pos rfl]; exact visits_snoc h
    | false => rw [hc] at h; simp at h
theorem visits_stop {S : Type} {g : CT → S → Bool × S} : ∀ {l : List CT} {i : Nat} {s s' : S}, i < l.length → visits g (l.take i) s = (true, s') → (g (l.getD i CT.z) s').1 = false → visits g l s = (false, (g (l.getD i CT.z) s').2)
  | [], i, s, s', hi, _, _ => by simp at hi
  | c :: l, 0, s, s', _, h, hc => by
    have h2 : s = s' := (Prod.mk.inj h).2
    subst h2
    have hc : (g c s).1 = false := hc
    show (if (g c s).1 then _ else (false, (g c s).2)) = _
    rw [hc]; rfl
  | c :: l, i + 1, s, s', hi, h, hc => by
    have h : (if (g c s).1 then visits g (l.take i) (g c s).2 else (false, (g c s).2)) = (true, s') := h
    show (if (g c s).1 then visits g l (g c s).2 else _) = _
    cases hq : (g c s).1 with
    | true => rw [hq, if_pos rfl] at h; rw [if_pos rfl]; exact visits_stop (by simpa using hi) h hc
    | false => rw [hq] at h; simp at h
def cc1 (c : CT) (lv : Int) (s : Int × Bool) : Bool × (Int × Bool) := (decide (up1 s.1 ≤ 100), (up1 s.1, s.2 || decide (lv > 20)))
def cc2 (c : CT) (lv : Int) (s : Int) : Bool × Int := (c.part == 0, c.part)
def checkP (c : CT) : Int :=
 if decide ((visit cc1 c 0 (0, false)).2.1 > 100) then 4
 else if (visit cc2 c 0 0).2 == 0 && (visit cc1 c 0 (0, false)).2.2 then 4 else (visit cc2 c 0 0).2
theorem getD_map_ct {l : List CT} {i : Nat} (h : i < l.length) : V.one (.eptr ((l.map CT.d).getD ((i : Int)).toNat [])) = V.one (.eptr [.int .i64 (l.getD i CT.z).k, .str (l.getD i CT.z).n, .str (l.getD i CT.z).v, .vec 4 (CT.ds (l.getD i CT.z).l)]) :=
 (row_at (f := CT.d) CT.z h).trans (by rw [ct_d])
theorem take_ct {l : List CT} {i : Nat} (h : i < l.length) : l.take (i + 1) = l.take i ++ [l.getD i CT.z] := by
 rw [List.take_succ_eq_append_getElem h, List.getD_eq_getElem?_getD, List.getElem?_eq_getElem h]; rfl
theorem mem_ct {l : List CT} {i : Nat} (h : i < l.length) : l.getD i CT.z ∈ l := by
 rw [List.getD_eq_getElem?_getD, List.getElem?_eq_getElem h]; exact List.getElem_mem h
inductive CtBig : CT → Prop where
 | mk (k : Int) (n v : List UInt8) (l : List CT) (h1 : n.length < 4294967000) (h2 : v.length < 4294967000) (h3 : ∀ a ∈ l, CtBig a) (h4 : l.length < 4294967000) : CtBig (.mk k n v l)
theorem CtBig.n {c : CT} (h : CtBig c) : c.n.length < 4294967000 := by cases h; assumption
theorem CtBig.v {c : CT} (h : CtBig c) : c.v.length < 4294967000 := by cases h; assumption
theorem CtBig.ll {c : CT} (h : CtBig c) : c.l.length < 4294967000 := by cases h; assumption
theorem CtBig.l {c : CT} (h : CtBig c) : ∀ a ∈ c.l, CtBig a := by cases h; assumption
theorem visit_go {S : Type} {f : CT → Int → S → Bool × S} {c : CT} {lv : Int} {s : S} (h : (f c lv s).1 = true) : visit f c lv s = visits (fun a => visit f a (up1 lv)) c.l (f c lv s).2 := by rw [visit_eq, h]; simp
theorem visit_stop {S : Type} {f : CT → Int → S → Bool × S} {c : CT} {lv : Int} {s s' : S} {i : Nat} (h : (f c lv s).1 = true) (hi : i < c.l.length) (hv : visits (fun a => visit f a (up1 lv)) (c.l.take i) (f c lv s).2 = (true, s')) (hc : (visit f (c.l.getD i CT.z) (up1 lv) s').1 = false) :
  visit f c lv s = (false, (visit f (c.l.getD i CT.z) (up1 lv) s').2) := by rw [visit_go h]; exact visits_stop hi hv hc
theorem visit_all {S : Type} {f : CT → Int → S → Bool × S} {c : CT} {lv : Int} {s s' : S} {i : Nat} (h : (f c lv s).1 = true) (hi : c.l.length ≤ i) (hv : visits (fun a => visit f a (up1 lv)) (c.l.take i) (f c lv s).2 = (true, s')) :
  visit f c lv s = (true, s') := by rw [visit_go h, ← hv, List.take_of_length_le hi]
theorem visit_next {S : Type} {f : CT → Int → S → Bool × S} {c : CT} {lv : Int} {s s' : S} {i : Nat} (hi : i < c.l.length) (hv : visits (fun a => visit f a (up1 lv)) (c.l.take i) s = (true, s')) (hc : (visit f (c.l.getD i CT.z) (up1 lv) s').1 = true) :
  visits (fun a => visit f a (up1 lv)) (c.l.take (i + 1)) s = (true, (visit f (c.l.getD i CT.z) (up1 lv) s').2) := by
 rw [take_ct hi, visits_snoc hv]; exact Prod.ext hc rfl
theorem check_0 : checkP (.mk 1 [] [] []) = 0 := by rfl
end
section
open Go
open Go.RowKit
attribute [local irreducible] thenK blockK W
attribute [local irreducible] rangeB pathB nameB valueB visit visits
theorem part_eq {x : Int} {n v : List UInt8} {m : Int} {b : Bool} (c1 : (decide (x < 1) || decide (x > 8)) = false)
  (c2 : ((((!(decide (x ≥ 2) && decide (x ≤ 5)) && !(n == [])) || (!((decide (x ≥ 2) && decide (x ≤ 5)) && x != 4) && !(v == []))) || (!decide (x ≥ 6) && decide (m > 0))) || (x == 6 && m != 1)) = false)
  (c3 : (!(decide (x ≥ 2) && decide (x ≤ 5))) = false) (hb : (if (x == 3 || x == 4) = true then pathB n else nameB n) = b) : partP x n v m = if (!b) = true then 5 else if (!valueB v) = true then 2 else if (x == 5) = true then (rangeB v).2 else 0 := by
 unfold partP
 rw [if_neg (Bool.eq_false_iff.1 c1), if_neg (Bool.eq_false_iff.1 c2), if_neg (Bool.eq_false_iff.1 c3), hb]
theorem pc_ver_partFault (x : Int) (n v : List UInt8) (xs : List (List D)) (hn : n.length < 4294967000) (hv : v.length < 4294967000) :
  PureCall Tryz.prog J 53 [.agg [.d (.int .i64 x), .d (.str n), .d (.str v), .d (.vec 4 xs)]] (.one (.d (.int .i64 (partP x n v (xs.length : Int))))) := by
 refine PureCall.of_body tOk (fn := Tryz.f53) Tryz.func53 (by kernel_rfl) rfl (Nat.le_of_ble_eq_true rfl) (fun E => ?_)
 iterate 15 first|refine S.pickOr tOk zOk rfl rfl tg ?_|refine Yp rfl ?_|refine Yg rfl rfl tg ?_|refine S.box rfl rfl rfl rfl ?_|apply Y1|apply Yn|apply Ys
 refine W.cond rfl (fun c1=>?_) fun c1=>?_
 ·skip
  apply Y1
  refine Yp rfl ?_
  apply Yn
  apply Yt
  apply Yu
  exact Yz rfl rfl rfl (congrArg (fun x : Int => V.one (C.d (D.int .i64 x))) ((if_pos c1) : partP x n v (xs.length : Int) = _)).symm
 apply Yk
 iterate 64 first|refine S.pickOr tOk zOk rfl rfl tg ?_|refine S.pickAndG tOk zOk rfl rfl rfl tg tg ?_|refine S.pickAnd tOk zOk rfl rfl tg ?_|refine Yg rfl rfl tg ?_|refine Yp rfl ?_|apply Y3|apply Y1|apply Yn|apply Ys
 refine W.cond rfl (fun c2=>?_) fun c2=>?_
 ·skip
  apply Y1
  refine Yp rfl ?_
  apply Yn
  apply Yt
  apply Yu
  exact Yz rfl rfl rfl (congrArg (fun x : Int => V.one (C.d (D.int .i64 x))) (((if_neg (Bool.eq_false_iff.1 c1)).trans (if_pos c2)) : partP x n v (xs.length : Int) = _)).symm
 iterate 7 first|refine Yp rfl ?_|apply Yk|apply Y1|apply Yn|apply Ys
 refine W.cond rfl (fun c3=>?_) fun c3=>?_
 ·skip
  apply Y1
  refine Yp rfl ?_
  apply Yn
  apply Yt
  apply Yu
  exact Yz rfl rfl rfl (congrArg (fun x : Int => V.one (C.d (D.int .i64 x))) (((if_neg (Bool.eq_false_iff.1 c1)).trans ((if_neg (Bool.eq_false_iff.1 c2)).trans (if_pos c3))) : partP x n v (xs.length : Int) = _)).symm
 iterate 15 first|refine S.pickOr tOk zOk rfl rfl tg ?_|refine Yp rfl ?_|refine Yg rfl rfl tg ?_|apply Yk|apply Y1|apply Y3|apply Yn|apply Ys
 refine W.cond rfl (fun c4=>?_) fun c4=>?_
 ·skip
  iterate 8 first|refine Yp rfl ?_|apply Y1|apply Ys|apply Yn|apply Yr
  refine S.call rfl rfl rfl rfl rfl (pc_ver_IsPath n (by omega)) ?_
  refine Yp rfl ?_
  apply Yn
  refine W.cond rfl (fun c5=>?_) fun c5=>?_
  ·skip
   apply Y1
   refine Yp rfl ?_
   apply Yn
   apply Yt
   apply Yu
   exact Yz rfl rfl rfl (by rw [part_eq c1 c2 c3 (if_pos c4), if_pos c5] <;> rfl)
  iterate 6 first|refine Yp rfl ?_|apply Yk|apply Y1|apply Ys|apply Yn
  refine S.call rfl rfl rfl rfl rfl (pc_ver_IsValue v (by omega)) ?_
  refine Yp rfl ?_
  apply Yn
  refine W.cond rfl (fun c6=>?_) fun c6=>?_
  ·skip
   apply Y1
   refine Yp rfl ?_
   apply Yn
   apply Yt
   apply Yu
   exact Yz rfl rfl rfl (by rw [part_eq c1 c2 c3 (if_pos c4), if_neg (Bool.eq_false_iff.1 c5), if_pos c6] <;> rfl)
  iterate 8 first|refine Yp rfl ?_|apply Yk|apply Y1|apply Yn|apply Ys
  refine W.cond rfl (fun c7=>?_) fun c7=>?_
  ·skip
   apply Y1
   iterate 2 refine Yp rfl ?_
   refine S.call rfl rfl rfl rfl rfl (pc_ver_ParseRange v hv) ?_
   iterate 12 first|refine Yp rfl ?_|apply Yu|apply Yt|refine S.store tOk rfl rfl rfl rfl rfl rfl rfl rfl ?_|refine S.alloc tOk rfl rfl rfl rfl ?_|apply Y3|apply Yn
   exact Yz rfl rfl rfl (by rw [part_eq c1 c2 c3 (if_pos c4), if_neg (Bool.eq_false_iff.1 c5), if_neg (Bool.eq_false_iff.1 c6), if_pos c7] <;> rfl)
  apply Yk
  apply Y3
  refine Yp rfl ?_
  apply Yn
  apply Yt
  exact Yz rfl rfl rfl (by rw [part_eq c1 c2 c3 (if_pos c4), if_neg (Bool.eq_false_iff.1 c5), if_neg (Bool.eq_false_iff.1 c6), if_neg (Bool.eq_false_iff.1 c7)] <;> rfl)
 apply Yk
 apply Yn
 apply Ys
 apply Y1
 iterate 3 refine Yp rfl ?_
 refine S.call rfl rfl rfl rfl rfl (pc_ver_IsName n (by omega)) ?_
 refine Yp rfl ?_
 apply Yn
 refine W.cond rfl (fun c8=>?_) fun c8=>?_
 ·skip
  apply Y1
  refine Yp rfl ?_
  apply Yn
  apply Yt
  apply Yu
  exact Yz rfl rfl rfl (by rw [part_eq c1 c2 c3 (if_neg (Bool.eq_false_iff.1 c4)), if_pos c8] <;> rfl)
 apply Yk
 apply Yn
 apply Ys
 apply Y1
 iterate 2 refine Yp rfl ?_
 refine S.call rfl rfl rfl rfl rfl (pc_ver_IsValue v (by omega)) ?_
 refine Yp rfl ?_
 apply Yn
 refine W.cond rfl (fun c9=>?_) fun c9=>?_
 ·skip
  apply Y1
  refine Yp rfl ?_
  apply Yn
  apply Yt
  apply Yu
  exact Yz rfl rfl rfl (by rw [part_eq c1 c2 c3 (if_neg (Bool.eq_false_iff.1 c4)), if_neg (Bool.eq_false_iff.1 c8), if_pos c9] <;> rfl)
 iterate 8 first|refine Yp rfl ?_|apply Yk|apply Y1|apply Yn|apply Ys
 refine W.cond rfl (fun c10=>?_) fun c10=>?_
 ·skip
  apply Y1
  iterate 2 refine Yp rfl ?_
  refine S.call rfl rfl rfl rfl rfl (pc_ver_ParseRange v hv) ?_
  iterate 12 first|refine Yp rfl ?_|apply Yu|apply Yt|refine S.store tOk rfl rfl rfl rfl rfl rfl rfl rfl ?_|refine S.alloc tOk rfl rfl rfl rfl ?_|apply Y3|apply Yn
  exact Yz rfl rfl rfl (by rw [part_eq c1 c2 c3 (if_neg (Bool.eq_false_iff.1 c4)), if_neg (Bool.eq_false_iff.1 c8), if_neg (Bool.eq_false_iff.1 c9), if_pos c10] <;> rfl)
 apply Yk
 apply Y3
 refine Yp rfl ?_
 apply Yn
 apply Yt
 exact Yz rfl rfl rfl (by rw [part_eq c1 c2 c3 (if_neg (Bool.eq_false_iff.1 c4)), if_neg (Bool.eq_false_iff.1 c8), if_neg (Bool.eq_false_iff.1 c9), if_neg (Bool.eq_false_iff.1 c10)] <;> rfl)
theorem pc_cc1 (x : Int) (n v : List UInt8) (xs : List (List D)) (lv p : Int) (d : Bool) :
  HCall Tryz.prog J 51 ([.agg [.d (.int .i64 x), .d (.str n), .d (.str v), .d (.vec 4 xs)], .one (.d (.int .i64 lv)), .one (.ptr 0 0), .one (.ptr 1 0)]) ([[.d (.int .i64 p)], [.d (.bool d)]]) ([]) ([]) (isH (.one (.d (.bool (decide (up1 p ≤ 100))))) ([[.d (.int .i64 (up1 p))], [.d (.bool (d || decide (lv > 20)))]]) ([]) ([])) := by
 refine HCall.ofD tOk ⟨2, 0, 0⟩ (fn := Tryz.f51) Tryz.func51 (by kernel_rfl) rfl (Nat.le_of_ble_eq_true rfl) (fun E => ?_)
 iterate 20 first|refine S.pickOr tOk zOk rfl rfl tg ?_|refine Yp rfl ?_|refine S.store tOk rfl rfl rfl rfl rfl rfl rfl rfl ?_|refine Yg rfl rfl tg ?_|apply Yt|refine S.box rfl rfl rfl rfl ?_|apply Y3|apply Y1|apply Yn
 exact ⟨_, rfl, rfl, LeG.refl _, rfl, rfl, rfl⟩
theorem pc_cc2 (x : Int) (n v : List UInt8) (xs : List (List D)) (hn : n.length < 4294967000) (hv : v.length < 4294967000) (lv e : Int) :
  HCall Tryz.prog J 52 ([.agg [.d (.int .i64 x), .d (.str n), .d (.str v), .d (.vec 4 xs)], .one (.d (.int .i64 lv)), .one (.ptr 0 0)]) ([[.d (.int .i64 e)]]) ([]) ([]) (isH (.one (.d (.bool (partP x n v (xs.length : Int) == 0)))) ([[.d (.int .i64 (partP x n v (xs.length : Int)))]]) ([]) ([])) := by
 refine HCall.ofD tOk ⟨1, 0, 0⟩ (fn := Tryz.f52) Tryz.func52 (by kernel_rfl) rfl (Nat.le_of_ble_eq_true rfl) (fun E => ?_)
 iterate 5 first|refine Yp rfl ?_|refine S.box rfl rfl rfl rfl ?_|apply Y3|apply Y1
 refine S.call rfl rfl rfl rfl rfl (pc_ver_partFault x n v xs hn hv) ?_
 refine S.store tOk rfl rfl rfl rfl rfl rfl rfl rfl ?_
 apply Y3
 iterate 3 refine Yp rfl ?_
 apply Yn
 apply Yt
 exact ⟨_, rfl, rfl, LeG.refl _, rfl, rfl, rfl⟩
theorem pc_walk1s (c : CT) (lv : Int) (p : Int) (d : Bool) (hc : CtBig c) (ih : ∀ a ∈ c.l, ∀ (lv  : Int) (p : Int) (d : Bool), CtBig a → HCall Tryz.prog J 41 [ctV a, .one (.d (.int .i64 lv)), .one (.clo 51 [.ptr 0 0, .ptr 1 0])] [[.d (.int .i64 p)], [.d (.bool d)]] [] [] (isH (.one (.d (.bool (visit cc1 a lv (p, d)).1))) [[.d (.int .i64 (visit cc1 a lv (p, d)).2.1)], [.d (.bool (visit cc1 a lv (p, d)).2.2)]] [] [])) :
  HCall Tryz.prog J 41 ([ctV c, .one (.d (.int .i64 lv)), .one (.clo 51 [.ptr 0 0, .ptr 1 0])]) ([[.d (.int .i64 p)], [.d (.bool d)]]) ([]) ([]) (isH (.one (.d (.bool (visit cc1 c lv (p, d)).1))) ([[.d (.int .i64 (visit cc1 c lv (p, d)).2.1)], [.d (.bool (visit cc1 c lv (p, d)).2.2)]]) ([]) ([])) := by
 unfold ctV
 rw [ds_map]
 have hlen : ((c.l.map CT.d).length : Int) = (c.l.length : Int) := by rw [List.length_map]
 refine HCall.ofD tOk ⟨2, 0, 0⟩ (fn := Tryz.f41) Tryz.func41 (by kernel_rfl) rfl (Nat.le_of_ble_eq_true rfl) (fun E => ?_)
 iterate 9 first|refine Yp rfl ?_|refine S.box rfl rfl rfl rfl ?_|apply Y1|apply Ys|apply Yn
 refine S.hcallD rfl rfl rfl rfl ((pc_cc1 c.k c.n c.v _ lv p d).fd [0, 1] [] [] rfl) ?_
 refine Yp rfl ?_
 apply Yn
 refine W.cond rfl (fun c1=>?_) fun c1=>?_
 ·skip
  have hf : (cc1 c lv (p, d)).1 = false := by simpa [cc1, CT.part, hlen] using c1
  have hv := visit_no hf
  apply Y1
  refine Yp rfl ?_
  apply Yn
  apply Yt
  apply Yu
  exact ⟨_, rfl, rfl, (by rw [hv]; exact LeG.refl _), (by rw [hv]; rfl), rfl, rfl⟩
 have hf : (cc1 c lv (p, d)).1 = true := by simpa [cc1, CT.part, hlen] using c1
 have hbig := hc.ll
 iterate 9 first|refine Yp rfl ?_|apply Yk|apply Y1|apply Yn|apply Ys
 apply Yb
 refine W.loop (fun k st => ∃ i : Nat, ∃ p1 : Int, ∃ d1 : Bool, i ≤ c.l.length ∧ visits (fun a => visit cc1 a (up1 lv)) (c.l.take i) (cc1 c lv (p, d)).2 = (true, (p1, d1)) ∧ k = c.l.length - i ∧ ∃ t b2 r2 m2, st = ⟨t, [[.d (.int .i64 p1)], [.d (.bool d1)], [.d (.int .i64 c.k), .d (.str c.n), .d (.str c.v), .d (.vec 4 (c.l.map CT.d))]] ++ b2, [] ++ r2, [] ++ m2⟩ ∧ holdsL t [(1, .one (.d (.int .i64 lv))), (2, .one (.clo 51 [.ptr 0 0, .ptr 1 0])), (15, .one (.d (.vec 4 (c.l.map CT.d)))), (16, .one (.d (.int .i64 ((c.l.map CT.d).length : Int)))), (17, .one (.d (.int .i64 (i : Int))))]) (c.l.length) ⟨0, _, _, Nat.zero_le _, visits_nil, rfl, _, _, _, _, rfl, rfl, rfl, rfl, rfl, rfl, trivial⟩ ?_
 rintro k0 _ ⟨i, p1, d1, f0_0, f0_1, rfl, t0, bb0, rr0, mm0, rfl, hh0⟩
 refine W.keepR _ _ _ _ _ _ _ hh0 rfl ?_
 apply Y1
 refine Yp rfl ?_
 apply Yn
 apply Ys
 refine W.cond rfl (fun c2=>?_) fun c2=>?_
 ·skip
  have hi := row_lt c2
  apply Yk
  apply Yn
  apply Ys
  apply Yb
  apply Y1
  refine YE rfl (row_ok hi) (getD_map_ct hi) rfl ?_
  iterate 8 first|refine Yp rfl ?_|refine S.store tOk rfl rfl rfl rfl rfl rfl rfl rfl ?_|refine S.alloc tOk rfl rfl rfl rfl ?_|apply Y3
  refine S.hcallD rfl rfl rfl rfl ((ih (c.l.getD i CT.z) (mem_ct hi) (up1 lv) p1 d1 (hc.l _ (mem_ct hi))).fd [0, 1] [] [] rfl) ?_
  refine Yp rfl ?_
  apply Yn
  refine W.cond rfl (fun c3=>?_) fun c3=>?_
  ·skip
   have hv := visit_stop hf hi f0_1 (by simpa using c3)
   iterate 9 first|apply Yu|apply Yv|apply Yt|refine Yp rfl ?_|apply Y1|apply Yn
   exact ⟨_, rfl, rfl, (by rw [hv]; exact LeG.refl _), (by rw [hv]; rfl), rfl, rfl⟩
  apply Yk
  apply Yw
  apply Y4
  iterate 2 refine Yp rfl ?_
  refine loop_n (c.l.length - (i + 1)) (by omega) ⟨i + 1, _, _, hi, visit_next hi f0_1 (by simpa using c3), rfl, _, _, _, _, rfl, rfl, rfl, rfl, rfl, inc_i64 (by omega), trivial⟩
 have hi := row_ge c2
 have hv := visit_all hf hi f0_1
 apply Yq
 apply Ye
 apply Ye
 apply Yx
 apply Y3
 refine Yp rfl ?_
 apply Yn
 apply Yt
 exact ⟨_, rfl, rfl, (by rw [hv]; exact LeG.refl _), (by rw [hv]; rfl), rfl, rfl⟩
theorem pc_walk1 : ∀ (n : Nat) (c : CT), c.w ≤ n → ∀ (lv : Int) (p : Int) (d : Bool), CtBig c → HCall Tryz.prog J 41 [ctV c, .one (.d (.int .i64 lv)), .one (.clo 51 [.ptr 0 0, .ptr 1 0])] [[.d (.int .i64 p)], [.d (.bool d)]] [] [] (isH (.one (.d (.bool (visit cc1 c lv (p, d)).1))) [[.d (.int .i64 (visit cc1 c lv (p, d)).2.1)], [.d (.bool (visit cc1 c lv (p, d)).2.2)]] [] [])
 | 0, c, h => by have := c.pos; omega
 | n + 1, c, h => fun lv p d hc => pc_walk1s c lv p d hc (fun a ha => pc_walk1 n a (by have := CT.sz ha; omega))
theorem pc_walk2s (c : CT) (lv : Int) (e : Int) (hc : CtBig c) (ih : ∀ a ∈ c.l, ∀ (lv  : Int) (e : Int), CtBig a → HCall Tryz.prog J 41 [ctV a, .one (.d (.int .i64 lv)), .one (.clo 52 [.ptr 0 0])] [[.d (.int .i64 e)]] [] [] (isH (.one (.d (.bool (visit cc2 a lv e).1))) [[.d (.int .i64 (visit cc2 a lv e).2)]] [] [])) :
  HCall Tryz.prog J 41 ([ctV c, .one (.d (.int .i64 lv)), .one (.clo 52 [.ptr 0 0])]) ([[.d (.int .i64 e)]]) ([]) ([]) (isH (.one (.d (.bool (visit cc2 c lv e).1))) ([[.d (.int .i64 (visit cc2 c lv e).2)]]) ([]) ([])) := by
 unfold ctV
 rw [ds_map]
 have hlen : ((c.l.map CT.d).length : Int) = (c.l.length : Int) := by rw [List.length_map]
 have hcl2 := pc_cc2 c.k c.n c.v (c.l.map CT.d) hc.n hc.v lv e
 rw [hlen] at hcl2
 refine HCall.ofD tOk ⟨1, 0, 0⟩ (fn := Tryz.f41) Tryz.func41 (by kernel_rfl) rfl (Nat.le_of_ble_eq_true rfl) (fun E => ?_)
 iterate 9 first|refine Yp rfl ?_|refine S.box rfl rfl rfl rfl ?_|apply Y1|apply Ys|apply Yn
 refine S.hcallD rfl rfl rfl rfl (hcl2.fd [0] [] [] rfl) ?_
 refine Yp rfl ?_
 apply Yn
 refine W.cond rfl (fun c1=>?_) fun c1=>?_
 ·skip
  have hf : (cc2 c lv e).1 = false := by simpa [cc2, CT.part, hlen] using c1
  have hv := visit_no hf
  apply Y1
  refine Yp rfl ?_
  apply Yn
  apply Yt
  apply Yu
  exact ⟨_, rfl, rfl, (by rw [hv]; exact LeG.refl _), (by rw [hv]; rfl), rfl, rfl⟩
 have hf : (cc2 c lv e).1 = true := by simpa [cc2, CT.part, hlen] using c1
 have hbig := hc.ll
 iterate 9 first|refine Yp rfl ?_|apply Yk|apply Y1|apply Yn|apply Ys
 apply Yb
 refine W.loop (fun k st => ∃ i : Nat, ∃ e1 : Int, i ≤ c.l.length ∧ visits (fun a => visit cc2 a (up1 lv)) (c.l.take i) (cc2 c lv e).2 = (true, e1) ∧ k = c.l.length - i ∧ ∃ t b2 r2 m2, st = ⟨t, [[.d (.int .i64 e1)], [.d (.int .i64 c.k), .d (.str c.n), .d (.str c.v), .d (.vec 4 (c.l.map CT.d))]] ++ b2, [] ++ r2, [] ++ m2⟩ ∧ holdsL t [(1, .one (.d (.int .i64 lv))), (2, .one (.clo 52 [.ptr 0 0])), (15, .one (.d (.vec 4 (c.l.map CT.d)))), (16, .one (.d (.int .i64 ((c.l.map CT.d).length : Int)))), (17, .one (.d (.int .i64 (i : Int))))]) (c.l.length) ⟨0, _, Nat.zero_le _, visits_nil, rfl, _, _, _, _, rfl, rfl, rfl, rfl, rfl, rfl, trivial⟩ ?_
 rintro k0 _ ⟨i, e1, f0_0, f0_1, rfl, t0, bb0, rr0, mm0, rfl, hh0⟩
 refine W.keepR _ _ _ _ _ _ _ hh0 rfl ?_
 apply Y1
 refine Yp rfl ?_
 apply Yn
 apply Ys
 refine W.cond rfl (fun c2=>?_) fun c2=>?_
 ·skip
  have hi := row_lt c2
  apply Yk
  apply Yn
  apply Ys
  apply Yb
  apply Y1
  refine YE rfl (row_ok hi) (getD_map_ct hi) rfl ?_
  iterate 8 first|refine Yp rfl ?_|refine S.store tOk rfl rfl rfl rfl rfl rfl rfl rfl ?_|refine S.alloc tOk rfl rfl rfl rfl ?_|apply Y3
  refine S.hcallD rfl rfl rfl rfl ((ih (c.l.getD i CT.z) (mem_ct hi) (up1 lv) e1 (hc.l _ (mem_ct hi))).fd [0] [] [] rfl) ?_
  refine Yp rfl ?_
  apply Yn
  refine W.cond rfl (fun c3=>?_) fun c3=>?_
  ·skip
   have hv := visit_stop hf hi f0_1 (by simpa using c3)
   iterate 9 first|apply Yu|apply Yv|apply Yt|refine Yp rfl ?_|apply Y1|apply Yn
   exact ⟨_, rfl, rfl, (by rw [hv]; exact LeG.refl _), (by rw [hv]; rfl), rfl, rfl⟩
  apply Yk
  apply Yw
  apply Y4
  iterate 2 refine Yp rfl ?_
  refine loop_n (c.l.length - (i + 1)) (by omega) ⟨i + 1, _, hi, visit_next hi f0_1 (by simpa using c3), rfl, _, _, _, _, rfl, rfl, rfl, rfl, rfl, inc_i64 (by omega), trivial⟩
 have hi := row_ge c2
 have hv := visit_all hf hi f0_1
 apply Yq
 apply Ye
 apply Ye
 apply Yx
 apply Y3
 refine Yp rfl ?_
 apply Yn
 apply Yt
 exact ⟨_, rfl, rfl, (by rw [hv]; exact LeG.refl _), (by rw [hv]; rfl), rfl, rfl⟩
theorem pc_walk2 : ∀ (n : Nat) (c : CT), c.w ≤ n → ∀ (lv : Int) (e : Int), CtBig c → HCall Tryz.prog J 41 [ctV c, .one (.d (.int .i64 lv)), .one (.clo 52 [.ptr 0 0])] [[.d (.int .i64 e)]] [] [] (isH (.one (.d (.bool (visit cc2 c lv e).1))) [[.d (.int .i64 (visit cc2 c lv e).2)]] [] [])
 | 0, c, h => by have := c.pos; omega
 | n + 1, c, h => fun lv e hc => pc_walk2s c lv e hc (fun a ha => pc_walk2 n a (by have := CT.sz ha; omega))
theorem pc_ver_CheckCond (c : CT) (hc : CtBig c) :
  PureCall Tryz.prog J 14 [ctV c] (.one (.d (.int .i64 (checkP c)))) := by
 refine PureCall.of_body tOk (fn := Tryz.f14) Tryz.func14 (by kernel_rfl) rfl (Nat.le_of_ble_eq_true rfl) (fun E => ?_)
 apply Y1
 iterate 9 first|refine Yp rfl ?_|refine S.store tOk rfl rfl rfl rfl rfl rfl rfl rfl ?_|refine S.alloc tOk rfl rfl rfl rfl ?_|refine S.box rfl rfl rfl rfl ?_|apply Y3
 refine S.makeFunc rfl rfl rfl ?_
 refine S.hcallD rfl rfl rfl rfl ((pc_walk1 c.w c (Nat.le_refl _) 0 0 false hc).fd [1, 2] [] [] rfl) ?_
 iterate 6 first|refine Yp rfl ?_|apply Y1|apply Yn|apply Ys
 refine W.cond rfl (fun c1=>?_) fun c1=>?_
 ·skip
  apply Y1
  refine Yp rfl ?_
  apply Yn
  apply Yt
  apply Yu
  exact Yz rfl rfl rfl (by (try simp only [List.toList_toArray, Int.toNat_zero] at c1); simp only [checkP, c1, Bool.false_eq_true, if_false, if_true, reduceIte] <;> rfl)
 apply Yk
 apply Y3
 refine S.alloc tOk rfl rfl rfl rfl ?_
 refine S.store tOk rfl rfl rfl rfl rfl rfl rfl rfl ?_
 apply Y3
 refine Yp rfl ?_
 refine S.makeFunc rfl rfl rfl ?_
 refine S.hcallD rfl rfl rfl rfl ((pc_walk2 c.w c (Nat.le_refl _) 0 0 hc).fd [3] [] [] rfl) ?_
 iterate 9 first|refine S.pickAnd tOk zOk rfl rfl tg ?_|refine Yp rfl ?_|refine Yg rfl rfl tg ?_|apply Y1|apply Yn|apply Ys
 refine W.cond rfl (fun c2=>?_) fun c2=>?_
 ·skip
  apply Y1
  refine Yp rfl ?_
  apply Yn
  apply Yt
  apply Yu
  exact Yz rfl rfl rfl (by (try simp only [List.toList_toArray, Int.toNat_zero] at c1 c2); simp only [checkP, c1, c2, Bool.false_eq_true, if_false, if_true, reduceIte] <;> rfl)
 apply Yk
 apply Y3
 iterate 2 refine Yp rfl ?_
 apply Yn
 apply Yt
 exact Yz rfl rfl rfl (by (try simp only [List.toList_toArray, Int.toNat_zero] at c1 c2); simp only [checkP, c1, c2, Bool.false_eq_true, if_false, if_true, reduceIte] <;> rfl)
end
section
open Go
abbrev Tab := List (List UInt8 × List UInt8)
def beqS (a b : List UInt8) : Bool := a == b
def tabD (t : Tab) : List (DV × DV) := mapOf D.str (fun v : List UInt8 => DV.one (.str v)) t
theorem keyS : KeyOk .string D.str (fun s : List UInt8 => Value.string ⟨s.toArray⟩) beqS := keyStr
end
section
open Go
open Go.RowKit
attribute [local irreducible] thenK blockK W
attribute [local irreducible] rangeB pathB nameB valueB visit visits checkP
end
section
open Go
abbrev L8 := List UInt8
abbrev Fm := L8 → Option L8
def lk : Tab → Fm
 | [], _ => none
 | x :: l, k => if k == x.1 then some x.2 else lk l k
theorem has_lk (t : Tab) (k : L8) : hasL beqS t k = (lk t k).isSome := by
 induction t with
 | nil => rfl
 | cons x l ih =>
  unfold lk hasL
  by_cases h : (k == x.1) = true
  ·skip
   rw [if_pos h]; simp [beqS, h]
  ·skip
   rw [if_neg h]
   simp only [List.any_cons, beqS, h, Bool.false_or]
   exact ih
theorem get_lk (t : Tab) (k : L8) : getL beqS [] t k = (lk t k).getD [] := by
 induction t with
 | nil => rfl
 | cons x l ih =>
  unfold lk getL
  by_cases h : (k == x.1) = true
  ·skip
   rw [if_pos h]; simp [beqS, h]
  ·skip
   rw [if_neg h]; simp [beqS, h, ih]
def setF (f : Fm) (k v : L8) : Fm := fun q => if q == k then some v else f q
theorem lk_set (t : Tab) (k v : L8) : lk (setL beqS t k v) = setF (lk t) k v := by
 funext q
 induction t with
 | nil => simp [setL, lk, setF]
 | cons x l ih =>
  unfold setL
  by_cases h : (k == x.1) = true
  ·skip
   simp only [beqS, h, cond_true]
   have hk := beq_iff_eq.1 h
   unfold lk setF
   simp only
   by_cases hq : (q == k) = true
   ·skip
    rw [if_pos hq, if_pos hq]
   ·skip
    rw [if_neg hq, if_neg hq]
    rw [hk] at hq
    conv => rhs; unfold lk
    rw [if_neg hq]
  ·skip
   simp only [beqS, h, cond_false]
   unfold lk
   by_cases hq : (q == x.1) = true
   ·skip
    rw [if_pos hq]
    unfold setF
    have : ¬ (q == k) = true := fun hqk => h (by rw [← beq_iff_eq.1 hqk]; exact hq)
    rw [if_neg this]
    conv => rhs; unfold lk
    rw [if_pos hq]
   ·skip
    rw [if_neg hq, ih]
    unfold setF
    by_cases hqk : (q == k) = true
    ·skip
     rw [if_pos hqk, if_pos hqk]
    ·skip
     rw [if_neg hqk, if_neg hqk]
     conv => rhs; unfold lk
     rw [if_neg hq]
end
end Go.Proofs.YtfcdmcdhhikhaaaGreatDoor
namespace Go.Proofs.YtfcdmcdhhikhaaaGreatDoor
section
open Go
theorem mem_getD {α : Type} {l : List α} {i : Nat} {d : α} (hi : i < l.length) : l.getD i d ∈ l := by
 rw [List.getD_eq_getElem?_getD, List.getElem?_eq_getElem hi]; exact List.getElem_mem hi
end
end Go.Proofs.YtfcdmcdhhikhaaaGreatDoor
namespace Go.Proofs.YtfcdmcdhhikhaaaGreatDoor
section
open Go
open Go.RowKit
attribute [local irreducible] thenK blockK W
attribute [local irreducible] rangeB pathB nameB valueB
end
section
open Go
open Go.RowKit
attribute [local irreducible] thenK blockK W
attribute [local irreducible] rangeE orderB compareR Lib.split
theorem pc_ver_within (s : Sp) (v : Ver) (h1 : s.f.e.length < 4294967281) (h2 : s.t.e.length < 4294967281) (hv : v.e.length < 4294967281) :
  PureCall Tryz.prog J 123 [spV s, verV v] (.one (.d (.bool (withinB s v)))) := by
 refine PureCall.of_body tOk (fn := Tryz.f123) Tryz.func123 (by kernel_rfl) rfl (Nat.le_of_ble_eq_true rfl) (fun E => ?_)
 iterate 12 first|refine Yp rfl ?_|refine Yg rfl rfl tg ?_|refine S.box rfl rfl rfl rfl ?_|apply Y3|apply Y1
 refine S.callG rfl rfl rfl rfl tg rfl rfl (fun _ => pc_ver_Order v s.f hv h1) ?_
 iterate 10 first|refine S.pickOr tOk zOk rfl rfl tg ?_|refine Yg rfl rfl tg ?_|refine Yp rfl ?_
 refine S.callG rfl rfl rfl rfl tg rfl rfl (fun _ => pc_ver_Order v s.t hv h2) ?_
 refine Yg rfl rfl tg ?_
 refine S.pickOrG tOk zOk rfl rfl rfl tg tg ?_
 refine S.pickAnd tOk zOk rfl rfl tg ?_
 refine Yp rfl ?_
 apply Yn
 apply Yt
 exact ⟨_, rfl, rfl, LeV.refl _⟩
theorem pc_ver_names (h : Bool) (e v : Ver) :
  PureCall Tryz.prog J 124 [.one (.d (.bool h)), verV e, verV v] (.one (.d (.bool (namesB h e v)))) := by
 refine PureCall.of_body tOk (fn := Tryz.f124) Tryz.func124 (by kernel_rfl) rfl (Nat.le_of_ble_eq_true rfl) (fun E => ?_)
 iterate 35 first|refine S.pickAnd tOk zOk rfl rfl tg ?_|refine Yg rfl rfl tg ?_|refine Yp rfl ?_|refine S.box rfl rfl rfl rfl ?_|apply Yt|apply Y3|apply Y1|apply Yn
 exact ⟨_, rfl, rfl, LeV.refl _⟩
theorem pc_ver_has (ss : List Sp) (hl : ss.length ≤ 1000000000) (hs : ∀ s ∈ ss, SpLen s) (v : Ver) (hv : v.e.length < 4294967281) :
  PureCall Tryz.prog J 76 [rgV ss, verV v] (.one (.d (.bool (hasB ss v)))) := by
 refine PureCall.of_body tOk (fn := Tryz.f76) Tryz.func76 (by kernel_rfl) rfl (Nat.le_of_ble_eq_true rfl) (fun E => ?_)
 iterate 13 first|refine Yp rfl ?_|refine S.box rfl rfl rfl rfl ?_|apply Yb|apply Y1|apply Yn|apply Ys
 refine W.loop (fun k st => ∃ i : Nat, i ≤ ss.length ∧ (ss.take i).any (hasAt ss.length v) = false ∧ k = ss.length - i ∧ ∃ t b2 r2 m2, st = ⟨t, [[.d (.vec 10 (ss.map spD))], [.d (.int .i64 v.a), .d (.int .i64 v.b), .d (.int .i64 v.c), .d (.str v.e)]] ++ b2, [] ++ r2, [] ++ m2⟩ ∧ holdsL t [(2, .one (.ptr 0 0)), (3, .one (.ptr 1 0)), (9, .one (.d (.vec 10 (ss.map spD)))), (10, .one (.d (.int .i64 ((ss.map spD).length : Int)))), (11, .one (.d (.int .i64 (i : Int))))]) (ss.length) ⟨0, Nat.zero_le _, by simp, rfl, _, _, _, _, rfl, rfl, rfl, rfl, rfl, rfl, trivial⟩ ?_
 rintro k0 _ ⟨i, f0_0, f0_1, rfl, t0, bb0, rr0, mm0, rfl, hh0⟩
 refine W.keepR _ _ _ _ _ _ _ hh0 rfl ?_
 apply Y1
 refine Yp rfl ?_
 apply Yn
 apply Ys
 refine W.cond rfl (fun c1=>?_) fun c1=>?_
 ·skip
  have hi := row_lt c1
  have hsp := sp_at hs hi
  apply Yk
  apply Yn
  apply Ys
  apply Yb
  apply Y1
  refine YE rfl (row_ok hi) (row_at Sp.z hi) rfl ?_
  iterate 22 first|refine S.pickAnd tOk zOk rfl rfl tg ?_|refine Yp rfl ?_|refine Yg rfl rfl tg ?_|refine S.store tOk rfl rfl rfl rfl rfl rfl rfl rfl ?_|refine S.alloc tOk rfl rfl rfl rfl ?_|apply Y3
  refine S.call rfl rfl rfl rfl rfl (pc_ver_within (ss.getD i Sp.z) v hsp.1 hsp.2 hv) ?_
  refine Yp rfl ?_
  iterate 5 refine Yg rfl rfl tg ?_
  refine S.pickOrG tOk zOk rfl rfl rfl tg tg ?_
  iterate 6 refine Yg rfl rfl tg ?_
  refine S.callG rfl rfl rfl rfl tg rfl rfl (fun _ => pc_ver_names _ (ss.getD i Sp.z).f v) ?_
  refine S.pickOrG tOk zOk rfl rfl rfl tg tg ?_
  iterate 6 refine Yg rfl rfl tg ?_
  refine S.callG rfl rfl rfl rfl tg rfl rfl (fun _ => pc_ver_names _ (ss.getD i Sp.z).t v) ?_
  refine S.pickOrG tOk zOk rfl rfl rfl tg tg ?_
  refine S.pickAnd tOk zOk rfl rfl tg ?_
  apply Yn
  refine W.cond rfl (fun c2=>?_) fun c2=>?_
  ·skip
   iterate 9 first|apply Yu|apply Yv|apply Yt|refine Yp rfl ?_|apply Y1|apply Yn
   exact Yz rfl rfl rfl (by rw [show hasB ss v = true from any_hit (d := Sp.z) hi (by have h := c2; rw [List.length_map] at h; exact h)]; rfl)
  apply Yk
  apply Yw
  apply Y4
  iterate 2 refine Yp rfl ?_
  refine loop_n (ss.length - (i + 1)) (by omega) ⟨i + 1, hi, any_take (d := Sp.z) hi f0_1 (by have h := c2; rw [List.length_map] at h; exact h), rfl, _, _, _, _, rfl, rfl, rfl, rfl, rfl, inc_i64 (by omega), trivial⟩
 have hi := row_ge c1
 apply Yq
 apply Ye
 apply Ye
 apply Yx
 apply Y3
 refine Yp rfl ?_
 apply Yn
 apply Yt
 exact Yz rfl rfl rfl (by rw [show hasB ss v = false from any_end hi f0_1]; rfl)
end
section
open Go
open Go.RowKit
attribute [local irreducible] thenK blockK W
attribute [local irreducible] rangeE orderB compareR Lib.split
end
section
open Go
open Go.RowKit
attribute [local irreducible] thenK blockK W
attribute [local irreducible] rangeE orderB compareR Lib.split hasB
end
section
open Go
open Go.RowKit
attribute [local irreducible] thenK blockK W
attribute [local irreducible] rangeE orderB compareR Lib.split
theorem pc_outref2_Inside (s : Sp) (v : Ver) (h1 : s.f.e.length < 4294967281) (h2 : s.t.e.length < 4294967281) (hv : v.e.length < 4294967281) :
  PureCall Tryz.prog J 114 [spV s, verV v] (.one (.d (.bool (insideR s v)))) := by
 refine PureCall.of_body tOk (fn := Tryz.f114) Tryz.func114 (by kernel_rfl) rfl (Nat.le_of_ble_eq_true rfl) (fun E => ?_)
 iterate 11 first|refine Yp rfl ?_|refine Yg rfl rfl tg ?_|refine S.box rfl rfl rfl rfl ?_|apply Y3|apply Y1
 refine S.callG rfl rfl rfl rfl tg rfl rfl (fun _ => pc_outref2_CompareOf v s.f hv h1) ?_
 iterate 10 first|refine S.pickAnd tOk zOk rfl rfl tg ?_|refine Yg rfl rfl tg ?_|refine Yp rfl ?_
 refine S.callG rfl rfl rfl rfl tg rfl rfl (fun _ => pc_outref2_CompareOf v s.t hv h2) ?_
 iterate 7 first|refine S.pickAnd tOk zOk rfl rfl tg ?_|refine S.pickAndG tOk zOk rfl rfl rfl tg tg ?_|refine Yg rfl rfl tg ?_|apply Yt|refine Yp rfl ?_|apply Yn
 exact ⟨_, rfl, rfl, LeV.refl _⟩
theorem pc_near (h : Bool) (e v : Ver) :
  HCall Tryz.prog J 111 ([.one (.d (.bool h)), verV e, .one (.ptr 0 0)]) ([[.d (.int .i64 v.a), .d (.int .i64 v.b), .d (.int .i64 v.c), .d (.str v.e)]]) ([]) ([]) (isH (.one (.d (.bool (namesB h e v)))) ([[.d (.int .i64 v.a), .d (.int .i64 v.b), .d (.int .i64 v.c), .d (.str v.e)]]) ([]) ([])) := by
 refine HCall.ofD tOk ⟨1, 0, 0⟩ (fn := Tryz.f111) Tryz.func111 (by kernel_rfl) rfl (Nat.le_of_ble_eq_true rfl) (fun E => ?_)
 iterate 34 first|refine S.pickAnd tOk zOk rfl rfl tg ?_|refine Yg rfl rfl tg ?_|refine Yp rfl ?_|apply Yt|refine S.box rfl rfl rfl rfl ?_|apply Y3|apply Y1|apply Yn
 exact ⟨_, rfl, rfl, LeG.refl _, rfl, rfl, rfl⟩
theorem pc_hasAt (s : Sp) (v : Ver) (al : Bool) (h1 : s.f.e.length < 4294967281) (h2 : s.t.e.length < 4294967281) (hv : v.e.length < 4294967281) :
  HCall Tryz.prog J 113 ([spV s, .one (.ptr 0 0), .one (.ptr 1 0), .one (.ptr 2 0)]) ([[.d (.int .i64 v.a), .d (.int .i64 v.b), .d (.int .i64 v.c), .d (.str v.e)], [.d (.bool al)], [.clo 111 [.ptr 0 0]]]) ([]) ([]) (isH (.one (.d (.bool (hasAtR al v s)))) ([[.d (.int .i64 v.a), .d (.int .i64 v.b), .d (.int .i64 v.c), .d (.str v.e)], [.d (.bool al)], [.clo 111 [.ptr 0 0]]]) ([]) ([])) := by
 refine HCall.ofD tOk ⟨3, 0, 0⟩ (fn := Tryz.f113) Tryz.func113 (by kernel_rfl) rfl (Nat.le_of_ble_eq_true rfl) (fun E => ?_)
 iterate 6 first|refine Yp rfl ?_|refine S.box rfl rfl rfl rfl ?_|apply Y3|apply Y1
 refine S.call rfl rfl rfl rfl rfl (pc_outref2_Inside s v h1 h2 hv) ?_
 refine Yp rfl ?_
 iterate 5 refine Yg rfl rfl tg ?_
 refine S.pickOrG tOk zOk rfl rfl rfl tg tg ?_
 iterate 6 refine Yg rfl rfl tg ?_
 refine S.hcallG rfl rfl rfl rfl tg rfl (fun _ => (pc_near s.hf s.f v).fd [0] [] [] rfl) ?_
 refine S.pickOrG tOk zOk rfl rfl rfl tg tg ?_
 iterate 6 refine Yg rfl rfl tg ?_
 refine S.hcallG rfl rfl rfl rfl tg rfl (fun _ => (pc_near s.ht s.t v).fd [0] [] [] rfl) ?_
 refine S.pickOrG tOk zOk rfl rfl rfl tg tg ?_
 refine S.pickAnd tOk zOk rfl rfl tg ?_
 refine Yp rfl ?_
 apply Yn
 apply Yt
 exact ⟨_, rfl, rfl, LeG.refl _, rfl, rfl, rfl⟩
theorem mem_at {α : Type} {l : List α} {i : Nat} {d : α} (h : i < l.length) : l.getD i d ∈ l := by
 rw [List.getD_eq_getElem?_getD, List.getElem?_eq_getElem h]; exact List.getElem_mem h
theorem pc_IndexFunc_Span (f : Nat) (caps : List C) (b : List (List C)) (r : List (Option RowO)) (m : List (List (DV × DV))) (φ : Sp → Bool) (ss : List Sp) (hl : ss.length ≤ 1000000000) (hc : ∀ s ∈ ss, HCall Tryz.prog J f (spV s :: caps.map V.one) b r m (isH (.one (.d (.bool (φ s)))) b r m)) :
  HCall Tryz.prog J 159 ([.one (.d (.vec 10 (ss.map spD))), .one (.clo f caps)]) (b) (r) (m) (isH (.one (.d (.int .i64 (idxOf φ ss)))) (b) (r) (m)) := by
 refine HCall.ofN tOk (fn := Tryz.f159) Tryz.func159 (by kernel_rfl) rfl (Nat.le_of_ble_eq_true rfl) (fun E => ?_)
 iterate 9 first|refine Yp rfl ?_|apply Y1|apply Yn|apply Ys
 apply Yb
 refine W.loop (fun k st => ∃ i : Nat, i ≤ ss.length ∧ (ss.take i).any φ = false ∧ k = ss.length - i ∧ ∃ t, st = ⟨t, b, r, m⟩ ∧ holdsL t [(0, .one (.d (.vec 10 (ss.map spD)))), (1, .one (.clo f caps)), (6, .one (.d (.vec 10 (ss.map spD)))), (7, .one (.d (.int .i64 ((ss.map spD).length : Int)))), (8, .one (.d (.int .i64 (i : Int))))]) (ss.length) ⟨0, Nat.zero_le _, by simp, rfl, _, rfl, rfl, rfl, rfl, rfl, rfl, trivial⟩ ?_
 rintro k0 _ ⟨i, f0_0, f0_1, rfl, t0, rfl, hh0⟩
 refine W.keep _ hh0 ?_
 apply Y1
 refine Yp rfl ?_
 apply Yn
 apply Ys
 refine W.cond rfl (fun c1=>?_) fun c1=>?_
 ·skip
  have hi := row_lt c1
  iterate 11 first|refine Yp rfl ?_|apply Yb|apply Yk|apply Y3|apply Y1|apply Ys|apply Yn
  refine YE rfl (row_ok hi) (row_at Sp.z hi) rfl ?_
  refine Yp rfl ?_
  refine S.hcallU rfl rfl rfl (hc (ss.getD i Sp.z) (mem_at hi)) ?_
  apply Yn
  refine W.cond rfl (fun c2=>?_) fun c2=>?_
  ·skip
   iterate 10 first|apply Yu|apply Yv|refine Yp rfl ?_|apply Yt|apply Y1|apply Yn
   exact ⟨_, rfl, LeG.of_eq (congrArg (fun x => V.one (C.d (D.int .i64 x))) (idxOf_at (d := Sp.z) hi f0_1 c2).symm), rfl, rfl, rfl⟩
  apply Yk
  apply Yw
  apply Y4
  iterate 2 refine Yp rfl ?_
  refine loop_n (ss.length - (i + 1)) (by omega) ⟨i + 1, hi, any_take (d := Sp.z) hi f0_1 c2, rfl, _, rfl, rfl, rfl, rfl, rfl, inc_i64 (by omega), trivial⟩
 have hi := row_ge c1
 apply Yq
 apply Ye
 apply Ye
 apply Yx
 apply Y3
 refine Yp rfl ?_
 apply Yn
 apply Yt
 exact ⟨_, rfl, LeG.of_eq (congrArg (fun x => V.one (C.d (D.int .i64 x))) (idxOf_none (any_end hi f0_1)).symm), rfl, rfl, rfl⟩
theorem pc_ContainsFunc_Span (f : Nat) (caps : List C) (b : List (List C)) (r : List (Option RowO)) (m : List (List (DV × DV))) (φ : Sp → Bool) (ss : List Sp) (hl : ss.length ≤ 1000000000) (hc : ∀ s ∈ ss, HCall Tryz.prog J f (spV s :: caps.map V.one) b r m (isH (.one (.d (.bool (φ s)))) b r m)) :
  HCall Tryz.prog J 112 ([.one (.d (.vec 10 (ss.map spD))), .one (.clo f caps)]) (b) (r) (m) (isH (.one (.d (.bool (ss.any φ)))) (b) (r) (m)) := by
 refine HCall.ofN tOk (fn := Tryz.f112) Tryz.func112 (by kernel_rfl) rfl (Nat.le_of_ble_eq_true rfl) (fun E => ?_)
 iterate 5 first|refine Yp rfl ?_|apply Y3|apply Y1
 refine S.hcallD rfl rfl rfl rfl (pc_IndexFunc_Span f caps b r m φ ss hl hc) ?_
 iterate 2 refine Yp rfl ?_
 apply Yn
 apply Yt
 exact ⟨_, rfl, LeG.of_eq (congrArg (fun x => V.one (C.d (D.bool x))) idxOf_ge), rfl, rfl, rfl⟩
theorem zero_ok {x : Sp} {l : List Sp} : (decide (0 ≤ (0 : Int)) && decide ((0 : Int) < (((x :: l).map spD).length : Int))) = true := by simp
theorem pc_HasOf_nil (hl : ([] : List Sp).length ≤ 1000000000) (hs : ∀ s ∈ ([] : List Sp), SpLen s) (v : Ver) (hv : v.e.length < 4294967281) :
  PureCall Tryz.prog J 65 [rgV ([] : List Sp), verV v] (.one (.d (.bool (([] : List Sp).any (hasAtR false v))))) := by
 refine PureCall.of_body tOk (fn := Tryz.f65) Tryz.func65 (by kernel_rfl) rfl (Nat.le_of_ble_eq_true rfl) (fun E => ?_)
 apply Y1
 iterate 2 refine S.box rfl rfl rfl rfl ?_
 refine Yp rfl ?_
 apply Y3
 refine S.makeFunc rfl rfl rfl ?_
 refine S.alloc tOk rfl rfl rfl rfl ?_
 iterate 9 first|refine Yp rfl ?_|refine Yg rfl rfl tg ?_|refine S.store tOk rfl rfl rfl rfl rfl rfl rfl rfl ?_|apply Y3
 refine S.deadG rfl (.one (.eptr (spD Sp.z))) ?_
 iterate 7 first|refine S.pickAnd tOk zOk rfl rfl tg ?_|refine Yg rfl rfl tg ?_|refine Yp rfl ?_
 refine S.deadG rfl (.one (.eptr (spD Sp.z))) ?_
 iterate 9 first|refine S.pickAnd tOk zOk rfl rfl tg ?_|refine Yg rfl rfl tg ?_|refine Yp rfl ?_|refine S.store tOk rfl rfl rfl rfl rfl rfl rfl rfl ?_|refine S.alloc tOk rfl rfl rfl rfl ?_|apply Y3
 refine S.makeFunc rfl rfl rfl ?_
 refine S.hcallD rfl rfl rfl rfl (pc_ContainsFunc_Span 113 [.ptr 1 0, .ptr 3 0, .ptr 2 0] _ _ _ (hasAtR false v) ([] : List Sp) hl (fun s hs' => (pc_hasAt s v false (hs s hs').1 (hs s hs').2 hv).fd [1, 3, 2] [] [] rfl)) ?_
 refine Yp rfl ?_
 apply Yn
 apply Yt
 exact ⟨_, rfl, rfl, LeV.refl _⟩
theorem pc_HasOf_cons (x : Sp) (l : List Sp) (hl : (x :: l).length ≤ 1000000000) (hs : ∀ s ∈ x :: l, SpLen s) (v : Ver) (hv : v.e.length < 4294967281) :
  PureCall Tryz.prog J 65 [rgV (x :: l), verV v] (.one (.d (.bool ((x :: l).any (hasAtR ((((((x :: l).map spD).length : Int) == 1 && !x.hf) && !x.ht)) v))))) := by
 refine PureCall.of_body tOk (fn := Tryz.f65) Tryz.func65 (by kernel_rfl) rfl (Nat.le_of_ble_eq_true rfl) (fun E => ?_)
 apply Y1
 iterate 2 refine S.box rfl rfl rfl rfl ?_
 refine Yp rfl ?_
 apply Y3
 refine S.makeFunc rfl rfl rfl ?_
 refine S.alloc tOk rfl rfl rfl rfl ?_
 iterate 9 first|refine Yp rfl ?_|refine Yg rfl rfl tg ?_|refine S.store tOk rfl rfl rfl rfl rfl rfl rfl rfl ?_|apply Y3
 refine YG rfl rfl tg (fun h => zero_ok) rfl ?_
 iterate 7 first|refine S.pickAnd tOk zOk rfl rfl tg ?_|refine Yg rfl rfl tg ?_|refine Yp rfl ?_
 refine YG rfl rfl tg (fun h => zero_ok) rfl ?_
 iterate 9 first|refine S.pickAnd tOk zOk rfl rfl tg ?_|refine Yg rfl rfl tg ?_|refine Yp rfl ?_|refine S.store tOk rfl rfl rfl rfl rfl rfl rfl rfl ?_|refine S.alloc tOk rfl rfl rfl rfl ?_|apply Y3
 refine S.makeFunc rfl rfl rfl ?_
 refine S.hcallD rfl rfl rfl rfl (pc_ContainsFunc_Span 113 [.ptr 1 0, .ptr 3 0, .ptr 2 0] _ _ _ (hasAtR ((((((x :: l).map spD).length : Int) == 1 && !x.hf) && !x.ht)) v) (x :: l) hl (fun s hs' => (pc_hasAt s v ((((((x :: l).map spD).length : Int) == 1 && !x.hf) && !x.ht)) (hs s hs').1 (hs s hs').2 hv).fd [1, 3, 2] [] [] rfl)) ?_
 refine Yp rfl ?_
 apply Yn
 apply Yt
 exact ⟨_, rfl, rfl, LeV.refl _⟩
theorem pc_outref2_HasOf (ss : List Sp) (hl : ss.length ≤ 1000000000) (hs : ∀ s ∈ ss, SpLen s) (v : Ver) (hv : v.e.length < 4294967281) : PureCall Tryz.prog J 65 [rgV ss, verV v] (.one (.d (.bool (hasR ss v)))) := by
 cases ss with
 | nil => exact pc_HasOf_nil hl hs v hv
 | cons x l =>
  have h := pc_HasOf_cons x l hl hs v hv
  rw [List.length_map] at h
  exact h
end
end Go.Proofs.YtfcdmcdhhikhaaaGreatDoor
namespace Go.Proofs.YtfcdmcdhhikhaaaGreatDoor
section
open Go
open Go.RowKit
attribute [local irreducible] thenK blockK W
attribute [local irreducible] rangeB pathB nameB valueB firstNe
end
section
open Go
open Go.RowKit
attribute [local irreducible] thenK blockK W
attribute [local irreducible] rangeB pathB nameB valueB visit visits checkP
end
section
open Go
open Go.RowKit
attribute [local irreducible] thenK blockK W
attribute [local irreducible] rangeB pathB nameB valueB visit visits checkP
end
section
open Go
open Go.RowKit
attribute [local irreducible] thenK blockK W
attribute [local irreducible] rangeB pathB nameB valueB visit visits checkP
end
section
open Go
open Go.RowKit
attribute [local irreducible] thenK blockK W
attribute [local irreducible] rangeB pathB nameB valueB visit visits checkP
end
end Go.Proofs.YtfcdmcdhhikhaaaGreatDoor
namespace Go.Proofs.YtfcdmcdhhikhaaaGreatDoor
section
open Go
open Go.RowKit
attribute [local irreducible] thenK blockK W
attribute [local irreducible] rangeB rangeR pathB nameB valueB visit visits checkP
theorem part_r {x : Int} {n v : List UInt8} {m : Int} : partP x n v m = if decide (x < 1) || decide (x > 8) then 1
 else if (((!(decide (x ≥ 2) && decide (x ≤ 5)) && !(n == [])) || (!((decide (x ≥ 2) && decide (x ≤ 5)) && x != 4) && !(v == []))) || (!decide (x ≥ 6) && decide (m > 0))) || (x == 6 && m != 1) then 2
 else if !(decide (x ≥ 2) && decide (x ≤ 5)) then 0
 else if !(if (x == 3 || x == 4) then pathB n else nameB n) then 5
 else if !valueB v then 2
 else if x == 5 then (rangeR v).2 else 0 := by rw [← range_eq]; rfl
theorem value_nil : valueB [] = true := by unfold valueB; simp
theorem pc_partError (x : Int) (n v : List UInt8) (xs : List (List D)) (hn : n.length < 4294967000) (hv : v.length < 4294967000) :
  PureCall Tryz.prog J 33 [.agg [.d (.int .i64 x), .d (.str n), .d (.str v), .d (.vec 4 xs)]] (.one (.d (.int .i64 (partP x n v (xs.length : Int))))) := by
 refine PureCall.of_body tOk (fn := Tryz.f33) Tryz.func33 (by kernel_rfl) rfl (Nat.le_of_ble_eq_true rfl) (fun E => ?_)
 iterate 18 first|refine Yp rfl ?_|apply Yb|refine S.box rfl rfl rfl rfl ?_|apply Y1|apply Y3|apply Yn|apply Ys
 refine W.cond rfl (fun c1=>?_) fun c1=>?_
 ·skip
  obtain rfl : x = 1 := by simpa using c1
  apply Yk
  iterate 42 first|refine S.pickOr tOk zOk rfl rfl tg ?_|refine S.pickAndG tOk zOk rfl rfl rfl tg tg ?_|refine S.pickAnd tOk zOk rfl rfl tg ?_|refine Yg rfl rfl tg ?_|refine Yp rfl ?_|apply Yw|apply Y1|apply Yn|apply Ys
  refine W.cond rfl (fun c2=>?_) fun c2=>?_
  ·skip
   apply Y1
   refine Yp rfl ?_
   apply Yn
   apply Yt
   apply Yu
   exact Yz rfl rfl rfl (by clear E; rw [part_r]; first | (simp_all [value_nil]; done) | (simp only [beq_eq_false_iff_ne, ne_eq] at *; rw [if_pos (by simp; omega)]; rfl))
  iterate 18 first|refine S.pickOr tOk zOk rfl rfl tg ?_|refine Yp rfl ?_|refine Yg rfl rfl tg ?_|apply Yk|apply Y1|apply Y3|apply Ys|apply Yn
  refine S.callG rfl rfl rfl rfl tg rfl rfl (fun h => pc_outref2_NameOf n (by omega)) ?_
  iterate 11 first|refine S.pickAndG tOk zOk rfl rfl rfl tg tg ?_|refine S.pickAnd tOk zOk rfl rfl tg ?_|refine Yg rfl rfl tg ?_|refine Yp rfl ?_
  refine S.callG rfl rfl rfl rfl tg rfl rfl (fun h => pc_outref2_PathOf n (by omega)) ?_
  refine Yg rfl rfl tg ?_
  refine S.pickAndG tOk zOk rfl rfl rfl tg tg ?_
  refine S.pickOr tOk zOk rfl rfl tg ?_
  apply Yn
  refine W.cond rfl (fun c3=>?_) fun c3=>?_
  ·skip
   apply Y1
   refine Yp rfl ?_
   apply Yn
   apply Yt
   apply Yu
   exact Yz rfl rfl rfl (by clear E; rw [part_r]; first | (simp_all [value_nil]; done) | (simp only [beq_eq_false_iff_ne, ne_eq] at *; rw [if_pos (by simp; omega)]; rfl))
  iterate 6 first|refine Yp rfl ?_|apply Yk|apply Y1|apply Ys|apply Yn
  refine S.call rfl rfl rfl rfl rfl (pc_outref2_ValueOf v (by omega)) ?_
  refine Yp rfl ?_
  apply Yn
  refine W.cond rfl (fun c4=>?_) fun c4=>?_
  ·skip
   apply Y1
   refine Yp rfl ?_
   apply Yn
   apply Yt
   apply Yu
   exact Yz rfl rfl rfl (by clear E; rw [part_r]; first | (simp_all [value_nil]; done) | (simp only [beq_eq_false_iff_ne, ne_eq] at *; rw [if_pos (by simp; omega)]; rfl))
  iterate 8 first|refine Yp rfl ?_|apply Yk|apply Y1|apply Yn|apply Ys
  refine W.cond rfl (fun c5=>?_) fun c5=>?_
  ·skip
   apply Y1
   iterate 2 refine Yp rfl ?_
   refine S.call rfl rfl rfl rfl rfl (pc_outref2_ReadRange v hv) ?_
   iterate 12 first|refine Yp rfl ?_|apply Yu|apply Yt|refine S.store tOk rfl rfl rfl rfl rfl rfl rfl rfl ?_|refine S.alloc tOk rfl rfl rfl rfl ?_|apply Y3|apply Yn
   exact Yz rfl rfl rfl (by clear E; rw [part_r]; first | (simp_all [value_nil]; done) | (simp only [beq_eq_false_iff_ne, ne_eq] at *; rw [if_pos (by simp; omega)]; rfl))
  apply Yk
  apply Y3
  refine Yp rfl ?_
  apply Yn
  apply Yt
  exact Yz rfl rfl rfl (by clear E; rw [part_r]; first | (simp_all [value_nil]; done) | (simp only [beq_eq_false_iff_ne, ne_eq] at *; rw [if_pos (by simp; omega)]; rfl))
 apply Ys
 apply Y1
 iterate 2 refine Yp rfl ?_
 apply Yn
 refine W.cond rfl (fun c6=>?_) fun c6=>?_
 ·skip
  obtain rfl : x = 2 := by simpa using c6
  apply Yk
  apply Yn
  refine W.cond rfl (fun c7=>?_) fun c7=>?_
  ·skip
   apply Yr
   iterate 44 first|refine S.pickOr tOk zOk rfl rfl tg ?_|refine S.pickAndG tOk zOk rfl rfl rfl tg tg ?_|refine S.pickAnd tOk zOk rfl rfl tg ?_|refine Yg rfl rfl tg ?_|refine Yp rfl ?_|apply Yw|apply Y1|apply Yn|apply Ys
   refine W.cond rfl (fun c8=>?_) fun c8=>?_
   ·skip
    apply Y1
    refine Yp rfl ?_
    apply Yn
    apply Yt
    apply Yu
    exact Yz rfl rfl rfl (by clear E; rw [part_r]; first | (simp_all [value_nil]; done) | (simp only [beq_eq_false_iff_ne, ne_eq] at *; rw [if_pos (by simp; omega)]; rfl))
   iterate 18 first|refine S.pickOr tOk zOk rfl rfl tg ?_|refine Yp rfl ?_|refine Yg rfl rfl tg ?_|apply Yk|apply Y1|apply Y3|apply Ys|apply Yn
   refine S.callG rfl rfl rfl rfl tg rfl rfl (fun h => pc_outref2_NameOf n (by omega)) ?_
   iterate 11 first|refine S.pickAndG tOk zOk rfl rfl rfl tg tg ?_|refine S.pickAnd tOk zOk rfl rfl tg ?_|refine Yg rfl rfl tg ?_|refine Yp rfl ?_
   refine S.callG rfl rfl rfl rfl tg rfl rfl (fun h => pc_outref2_PathOf n (by omega)) ?_
   refine Yg rfl rfl tg ?_
   refine S.pickAndG tOk zOk rfl rfl rfl tg tg ?_
   refine S.pickOr tOk zOk rfl rfl tg ?_
   apply Yn
   refine W.cond rfl (fun c9=>?_) fun c9=>?_
   ·skip
    apply Y1
    refine Yp rfl ?_
    apply Yn
    apply Yt
    apply Yu
    exact Yz rfl rfl rfl (by clear E; rw [part_r]; first | (simp_all [value_nil]; done) | (simp only [beq_eq_false_iff_ne, ne_eq] at *; rw [if_pos (by simp; omega)]; rfl))
   iterate 6 first|refine Yp rfl ?_|apply Yk|apply Y1|apply Ys|apply Yn
   refine S.call rfl rfl rfl rfl rfl (pc_outref2_ValueOf v (by omega)) ?_
   refine Yp rfl ?_
   apply Yn
   refine W.cond rfl (fun c10=>?_) fun c10=>?_
   ·skip
    apply Y1
    refine Yp rfl ?_
    apply Yn
    apply Yt
    apply Yu
    exact Yz rfl rfl rfl (by clear E; rw [part_r]; first | (simp_all [value_nil]; done) | (simp only [beq_eq_false_iff_ne, ne_eq] at *; rw [if_pos (by simp; omega)]; rfl))
   iterate 8 first|refine Yp rfl ?_|apply Yk|apply Y1|apply Yn|apply Ys
   refine W.cond rfl (fun c11=>?_) fun c11=>?_
   ·skip
    apply Y1
    iterate 2 refine Yp rfl ?_
    refine S.call rfl rfl rfl rfl rfl (pc_outref2_ReadRange v hv) ?_
    iterate 12 first|refine Yp rfl ?_|apply Yu|apply Yt|refine S.store tOk rfl rfl rfl rfl rfl rfl rfl rfl ?_|refine S.alloc tOk rfl rfl rfl rfl ?_|apply Y3|apply Yn
    exact Yz rfl rfl rfl (by clear E; rw [part_r]; first | (simp_all [value_nil]; done) | (simp only [beq_eq_false_iff_ne, ne_eq] at *; rw [if_pos (by simp; omega)]; rfl))
   apply Yk
   apply Y3
   refine Yp rfl ?_
   apply Yn
   apply Yt
   exact Yz rfl rfl rfl (by clear E; rw [part_r]; first | (simp_all [value_nil]; done) | (simp only [beq_eq_false_iff_ne, ne_eq] at *; rw [if_pos (by simp; omega)]; rfl))
  exact absurd c7 (by rw [c6]; simp)
 apply Y1
 iterate 2 refine Yp rfl ?_
 apply Yn
 refine W.cond rfl (fun c12=>?_) fun c12=>?_
 ·skip
  obtain rfl : x = 3 := by simpa using c12
  apply Yk
  apply Yn
  refine W.cond rfl (fun c13=>?_) fun c13=>?_
  ·skip
   apply Yr
   iterate 44 first|refine S.pickOr tOk zOk rfl rfl tg ?_|refine S.pickAndG tOk zOk rfl rfl rfl tg tg ?_|refine S.pickAnd tOk zOk rfl rfl tg ?_|refine Yg rfl rfl tg ?_|refine Yp rfl ?_|apply Yw|apply Y1|apply Yn|apply Ys
   refine W.cond rfl (fun c14=>?_) fun c14=>?_
   ·skip
    apply Y1
    refine Yp rfl ?_
    apply Yn
    apply Yt
    apply Yu
    exact Yz rfl rfl rfl (by clear E; rw [part_r]; first | (simp_all [value_nil]; done) | (simp only [beq_eq_false_iff_ne, ne_eq] at *; rw [if_pos (by simp; omega)]; rfl))
   iterate 18 first|refine S.pickOr tOk zOk rfl rfl tg ?_|refine Yp rfl ?_|refine Yg rfl rfl tg ?_|apply Yk|apply Y1|apply Y3|apply Ys|apply Yn
   refine S.callG rfl rfl rfl rfl tg rfl rfl (fun h => pc_outref2_NameOf n (by omega)) ?_
   iterate 11 first|refine S.pickAndG tOk zOk rfl rfl rfl tg tg ?_|refine S.pickAnd tOk zOk rfl rfl tg ?_|refine Yg rfl rfl tg ?_|refine Yp rfl ?_
   refine S.callG rfl rfl rfl rfl tg rfl rfl (fun h => pc_outref2_PathOf n (by omega)) ?_
   refine Yg rfl rfl tg ?_
   refine S.pickAndG tOk zOk rfl rfl rfl tg tg ?_
   refine S.pickOr tOk zOk rfl rfl tg ?_
   apply Yn
   refine W.cond rfl (fun c15=>?_) fun c15=>?_
   ·skip
    apply Y1
    refine Yp rfl ?_
    apply Yn
    apply Yt
    apply Yu
    exact Yz rfl rfl rfl (by clear E; rw [part_r]; first | (simp_all [value_nil]; done) | (simp only [beq_eq_false_iff_ne, ne_eq] at *; rw [if_pos (by simp; omega)]; rfl))
   iterate 6 first|refine Yp rfl ?_|apply Yk|apply Y1|apply Ys|apply Yn
   refine S.call rfl rfl rfl rfl rfl (pc_outref2_ValueOf v (by omega)) ?_
   refine Yp rfl ?_
   apply Yn
   refine W.cond rfl (fun c16=>?_) fun c16=>?_
   ·skip
    apply Y1
    refine Yp rfl ?_
    apply Yn
    apply Yt
    apply Yu
    exact Yz rfl rfl rfl (by clear E; rw [part_r]; first | (simp_all [value_nil]; done) | (simp only [beq_eq_false_iff_ne, ne_eq] at *; rw [if_pos (by simp; omega)]; rfl))
   iterate 8 first|refine Yp rfl ?_|apply Yk|apply Y1|apply Yn|apply Ys
   refine W.cond rfl (fun c17=>?_) fun c17=>?_
   ·skip
    apply Y1
    iterate 2 refine Yp rfl ?_
    refine S.call rfl rfl rfl rfl rfl (pc_outref2_ReadRange v hv) ?_
    iterate 12 first|refine Yp rfl ?_|apply Yu|apply Yt|refine S.store tOk rfl rfl rfl rfl rfl rfl rfl rfl ?_|refine S.alloc tOk rfl rfl rfl rfl ?_|apply Y3|apply Yn
    exact Yz rfl rfl rfl (by clear E; rw [part_r]; first | (simp_all [value_nil]; done) | (simp only [beq_eq_false_iff_ne, ne_eq] at *; rw [if_pos (by simp; omega)]; rfl))
   apply Yk
   apply Y3
   refine Yp rfl ?_
   apply Yn
   apply Yt
   exact Yz rfl rfl rfl (by clear E; rw [part_r]; first | (simp_all [value_nil]; done) | (simp only [beq_eq_false_iff_ne, ne_eq] at *; rw [if_pos (by simp; omega)]; rfl))
  exact absurd c13 (by rw [c12]; simp)
 apply Yr
 iterate 2 refine Yp rfl ?_
 apply Yn
 refine W.cond rfl (fun c18=>?_) fun c18=>?_
 ·skip
  obtain rfl : x = 5 := by simpa using c18
  apply Yr
  iterate 44 first|refine S.pickOr tOk zOk rfl rfl tg ?_|refine S.pickAndG tOk zOk rfl rfl rfl tg tg ?_|refine S.pickAnd tOk zOk rfl rfl tg ?_|refine Yg rfl rfl tg ?_|refine Yp rfl ?_|apply Yw|apply Y1|apply Yn|apply Ys
  refine W.cond rfl (fun c19=>?_) fun c19=>?_
  ·skip
   apply Y1
   refine Yp rfl ?_
   apply Yn
   apply Yt
   apply Yu
   exact Yz rfl rfl rfl (by clear E; rw [part_r]; first | (simp_all [value_nil]; done) | (simp only [beq_eq_false_iff_ne, ne_eq] at *; rw [if_pos (by simp; omega)]; rfl))
  iterate 18 first|refine S.pickOr tOk zOk rfl rfl tg ?_|refine Yp rfl ?_|refine Yg rfl rfl tg ?_|apply Yk|apply Y1|apply Y3|apply Ys|apply Yn
  refine S.callG rfl rfl rfl rfl tg rfl rfl (fun h => pc_outref2_NameOf n (by omega)) ?_
  iterate 11 first|refine S.pickAndG tOk zOk rfl rfl rfl tg tg ?_|refine S.pickAnd tOk zOk rfl rfl tg ?_|refine Yg rfl rfl tg ?_|refine Yp rfl ?_
  refine S.callG rfl rfl rfl rfl tg rfl rfl (fun h => pc_outref2_PathOf n (by omega)) ?_
  refine Yg rfl rfl tg ?_
  refine S.pickAndG tOk zOk rfl rfl rfl tg tg ?_
  refine S.pickOr tOk zOk rfl rfl tg ?_
  apply Yn
  refine W.cond rfl (fun c20=>?_) fun c20=>?_
  ·skip
   apply Y1
   refine Yp rfl ?_
   apply Yn
   apply Yt
   apply Yu
   exact Yz rfl rfl rfl (by clear E; rw [part_r]; first | (simp_all [value_nil]; done) | (simp only [beq_eq_false_iff_ne, ne_eq] at *; rw [if_pos (by simp; omega)]; rfl))
  iterate 6 first|refine Yp rfl ?_|apply Yk|apply Y1|apply Ys|apply Yn
  refine S.call rfl rfl rfl rfl rfl (pc_outref2_ValueOf v (by omega)) ?_
  refine Yp rfl ?_
  apply Yn
  refine W.cond rfl (fun c21=>?_) fun c21=>?_
  ·skip
   apply Y1
   refine Yp rfl ?_
   apply Yn
   apply Yt
   apply Yu
   exact Yz rfl rfl rfl (by clear E; rw [part_r]; first | (simp_all [value_nil]; done) | (simp only [beq_eq_false_iff_ne, ne_eq] at *; rw [if_pos (by simp; omega)]; rfl))
  iterate 8 first|refine Yp rfl ?_|apply Yk|apply Y1|apply Yn|apply Ys
  refine W.cond rfl (fun c22=>?_) fun c22=>?_
  ·skip
   apply Y1
   iterate 2 refine Yp rfl ?_
   refine S.call rfl rfl rfl rfl rfl (pc_outref2_ReadRange v hv) ?_
   iterate 12 first|refine Yp rfl ?_|apply Yu|apply Yt|refine S.store tOk rfl rfl rfl rfl rfl rfl rfl rfl ?_|refine S.alloc tOk rfl rfl rfl rfl ?_|apply Y3|apply Yn
   exact Yz rfl rfl rfl (by clear E; rw [part_r]; first | (simp_all [value_nil]; done) | (simp only [beq_eq_false_iff_ne, ne_eq] at *; rw [if_pos (by simp; omega)]; rfl))
  apply Yk
  apply Y3
  refine Yp rfl ?_
  apply Yn
  apply Yt
  exact Yz rfl rfl rfl (by clear E; rw [part_r]; first | (simp_all [value_nil]; done) | (simp only [beq_eq_false_iff_ne, ne_eq] at *; rw [if_pos (by simp; omega)]; rfl))
 apply Y1
 iterate 2 refine Yp rfl ?_
 apply Yn
 refine W.cond rfl (fun c23=>?_) fun c23=>?_
 ·skip
  obtain rfl : x = 4 := by simpa using c23
  apply Yr
  iterate 43 first|refine S.pickOr tOk zOk rfl rfl tg ?_|refine S.pickAndG tOk zOk rfl rfl rfl tg tg ?_|refine S.pickAnd tOk zOk rfl rfl tg ?_|refine Yg rfl rfl tg ?_|refine Yp rfl ?_|apply Yw|apply Y1|apply Yn|apply Ys
  refine W.cond rfl (fun c24=>?_) fun c24=>?_
  ·skip
   apply Y1
   refine Yp rfl ?_
   apply Yn
   apply Yt
   apply Yu
   exact Yz rfl rfl rfl (by clear E; rw [part_r]; first | (simp_all [value_nil]; done) | (simp only [beq_eq_false_iff_ne, ne_eq] at *; rw [if_pos (by simp; omega)]; rfl))
  iterate 18 first|refine S.pickOr tOk zOk rfl rfl tg ?_|refine Yp rfl ?_|refine Yg rfl rfl tg ?_|apply Yk|apply Y1|apply Y3|apply Ys|apply Yn
  refine S.callG rfl rfl rfl rfl tg rfl rfl (fun h => pc_outref2_NameOf n (by omega)) ?_
  iterate 11 first|refine S.pickAndG tOk zOk rfl rfl rfl tg tg ?_|refine S.pickAnd tOk zOk rfl rfl tg ?_|refine Yg rfl rfl tg ?_|refine Yp rfl ?_
  refine S.callG rfl rfl rfl rfl tg rfl rfl (fun h => pc_outref2_PathOf n (by omega)) ?_
  refine Yg rfl rfl tg ?_
  refine S.pickAndG tOk zOk rfl rfl rfl tg tg ?_
  refine S.pickOr tOk zOk rfl rfl tg ?_
  apply Yn
  refine W.cond rfl (fun c25=>?_) fun c25=>?_
  ·skip
   apply Y1
   refine Yp rfl ?_
   apply Yn
   apply Yt
   apply Yu
   exact Yz rfl rfl rfl (by clear E; rw [part_r]; first | (simp_all [value_nil]; done) | (simp only [beq_eq_false_iff_ne, ne_eq] at *; rw [if_pos (by simp; omega)]; rfl))
  iterate 6 first|refine Yp rfl ?_|apply Yk|apply Y1|apply Ys|apply Yn
  refine S.call rfl rfl rfl rfl rfl (pc_outref2_ValueOf v (by omega)) ?_
  refine Yp rfl ?_
  apply Yn
  refine W.cond rfl (fun c26=>?_) fun c26=>?_
  ·skip
   apply Y1
   refine Yp rfl ?_
   apply Yn
   apply Yt
   apply Yu
   exact Yz rfl rfl rfl (by clear E; rw [part_r]; first | (simp_all [value_nil]; done) | (simp only [beq_eq_false_iff_ne, ne_eq] at *; rw [if_pos (by simp; omega)]; rfl))
  iterate 8 first|refine Yp rfl ?_|apply Yk|apply Y1|apply Yn|apply Ys
  refine W.cond rfl (fun c27=>?_) fun c27=>?_
  ·skip
   apply Y1
   iterate 2 refine Yp rfl ?_
   refine S.call rfl rfl rfl rfl rfl (pc_outref2_ReadRange v hv) ?_
   iterate 12 first|refine Yp rfl ?_|apply Yu|apply Yt|refine S.store tOk rfl rfl rfl rfl rfl rfl rfl rfl ?_|refine S.alloc tOk rfl rfl rfl rfl ?_|apply Y3|apply Yn
   exact Yz rfl rfl rfl (by clear E; rw [part_r]; first | (simp_all [value_nil]; done) | (simp only [beq_eq_false_iff_ne, ne_eq] at *; rw [if_pos (by simp; omega)]; rfl))
  apply Yk
  apply Y3
  refine Yp rfl ?_
  apply Yn
  apply Yt
  exact Yz rfl rfl rfl (by clear E; rw [part_r]; first | (simp_all [value_nil]; done) | (simp only [beq_eq_false_iff_ne, ne_eq] at *; rw [if_pos (by simp; omega)]; rfl))
 apply Ys
 apply Y1
 iterate 2 refine Yp rfl ?_
 apply Yn
 refine W.cond rfl (fun c28=>?_) fun c28=>?_
 ·skip
  obtain rfl : x = 6 := by simpa using c28
  apply Yk
  apply Yn
  refine W.cond rfl (fun c29=>?_) fun c29=>?_
  ·skip
   apply Yr
   iterate 43 first|refine S.pickOr tOk zOk rfl rfl tg ?_|refine S.pickAndG tOk zOk rfl rfl rfl tg tg ?_|refine S.pickAnd tOk zOk rfl rfl tg ?_|refine Yg rfl rfl tg ?_|refine Yp rfl ?_|apply Yw|apply Y1|apply Yn|apply Ys
   refine W.cond rfl (fun c30=>?_) fun c30=>?_
   ·skip
    apply Y1
    refine Yp rfl ?_
    apply Yn
    apply Yt
    apply Yu
    exact Yz rfl rfl rfl (by clear E; rw [part_r]; first | (simp_all [value_nil]; done) | (simp only [beq_eq_false_iff_ne, ne_eq] at *; rw [if_pos (by simp; omega)]; rfl))
   iterate 18 first|refine S.pickOr tOk zOk rfl rfl tg ?_|refine Yp rfl ?_|refine Yg rfl rfl tg ?_|apply Yk|apply Y1|apply Y3|apply Ys|apply Yn
   refine S.callG rfl rfl rfl rfl tg rfl rfl (fun h => pc_outref2_NameOf n (by omega)) ?_
   iterate 11 first|refine S.pickAndG tOk zOk rfl rfl rfl tg tg ?_|refine S.pickAnd tOk zOk rfl rfl tg ?_|refine Yg rfl rfl tg ?_|refine Yp rfl ?_
   refine S.callG rfl rfl rfl rfl tg rfl rfl (fun h => pc_outref2_PathOf n (by omega)) ?_
   refine Yg rfl rfl tg ?_
   refine S.pickAndG tOk zOk rfl rfl rfl tg tg ?_
   refine S.pickOr tOk zOk rfl rfl tg ?_
   apply Yn
   refine W.cond rfl (fun c31=>?_) fun c31=>?_
   ·skip
    apply Y1
    refine Yp rfl ?_
    apply Yn
    apply Yt
    apply Yu
    exact Yz rfl rfl rfl (by clear E; rw [part_r]; first | (simp_all [value_nil]; done) | (simp only [beq_eq_false_iff_ne, ne_eq] at *; rw [if_pos (by simp; omega)]; rfl))
   iterate 6 first|refine Yp rfl ?_|apply Yk|apply Y1|apply Ys|apply Yn
   refine S.call rfl rfl rfl rfl rfl (pc_outref2_ValueOf v (by omega)) ?_
   refine Yp rfl ?_
   apply Yn
   refine W.cond rfl (fun c32=>?_) fun c32=>?_
   ·skip
    apply Y1
    refine Yp rfl ?_
    apply Yn
    apply Yt
    apply Yu
    exact Yz rfl rfl rfl (by clear E; rw [part_r]; first | (simp_all [value_nil]; done) | (simp only [beq_eq_false_iff_ne, ne_eq] at *; rw [if_pos (by simp; omega)]; rfl))
   iterate 8 first|refine Yp rfl ?_|apply Yk|apply Y1|apply Yn|apply Ys
   refine W.cond rfl (fun c33=>?_) fun c33=>?_
   ·skip
    apply Y1
    iterate 2 refine Yp rfl ?_
    refine S.call rfl rfl rfl rfl rfl (pc_outref2_ReadRange v hv) ?_
    iterate 12 first|refine Yp rfl ?_|apply Yu|apply Yt|refine S.store tOk rfl rfl rfl rfl rfl rfl rfl rfl ?_|refine S.alloc tOk rfl rfl rfl rfl ?_|apply Y3|apply Yn
    exact Yz rfl rfl rfl (by clear E; rw [part_r]; first | (simp_all [value_nil]; done) | (simp only [beq_eq_false_iff_ne, ne_eq] at *; rw [if_pos (by simp; omega)]; rfl))
   apply Yk
   apply Y3
   refine Yp rfl ?_
   apply Yn
   apply Yt
   exact Yz rfl rfl rfl (by clear E; rw [part_r]; first | (simp_all [value_nil]; done) | (simp only [beq_eq_false_iff_ne, ne_eq] at *; rw [if_pos (by simp; omega)]; rfl))
  exact absurd c29 (by rw [c28]; simp)
 apply Y1
 iterate 2 refine Yp rfl ?_
 apply Yn
 refine W.cond rfl (fun c34=>?_) fun c34=>?_
 ·skip
  obtain rfl : x = 7 := by simpa using c34
  apply Yk
  apply Yn
  refine W.cond rfl (fun c35=>?_) fun c35=>?_
  ·skip
   apply Yr
   iterate 43 first|refine S.pickOr tOk zOk rfl rfl tg ?_|refine S.pickAndG tOk zOk rfl rfl rfl tg tg ?_|refine S.pickAnd tOk zOk rfl rfl tg ?_|refine Yg rfl rfl tg ?_|refine Yp rfl ?_|apply Yw|apply Y1|apply Yn|apply Ys
   refine W.cond rfl (fun c36=>?_) fun c36=>?_
   ·skip
    apply Y1
    refine Yp rfl ?_
    apply Yn
    apply Yt
    apply Yu
    exact Yz rfl rfl rfl (by clear E; rw [part_r]; first | (simp_all [value_nil]; done) | (simp only [beq_eq_false_iff_ne, ne_eq] at *; rw [if_pos (by simp; omega)]; rfl))
   iterate 18 first|refine S.pickOr tOk zOk rfl rfl tg ?_|refine Yp rfl ?_|refine Yg rfl rfl tg ?_|apply Yk|apply Y1|apply Y3|apply Ys|apply Yn
   refine S.callG rfl rfl rfl rfl tg rfl rfl (fun h => pc_outref2_NameOf n (by omega)) ?_
   iterate 11 first|refine S.pickAndG tOk zOk rfl rfl rfl tg tg ?_|refine S.pickAnd tOk zOk rfl rfl tg ?_|refine Yg rfl rfl tg ?_|refine Yp rfl ?_
   refine S.callG rfl rfl rfl rfl tg rfl rfl (fun h => pc_outref2_PathOf n (by omega)) ?_
   refine Yg rfl rfl tg ?_
   refine S.pickAndG tOk zOk rfl rfl rfl tg tg ?_
   refine S.pickOr tOk zOk rfl rfl tg ?_
   apply Yn
   refine W.cond rfl (fun c37=>?_) fun c37=>?_
   ·skip
    apply Y1
    refine Yp rfl ?_
    apply Yn
    apply Yt
    apply Yu
    exact Yz rfl rfl rfl (by clear E; rw [part_r]; first | (simp_all [value_nil]; done) | (simp only [beq_eq_false_iff_ne, ne_eq] at *; rw [if_pos (by simp; omega)]; rfl))
   iterate 6 first|refine Yp rfl ?_|apply Yk|apply Y1|apply Ys|apply Yn
   refine S.call rfl rfl rfl rfl rfl (pc_outref2_ValueOf v (by omega)) ?_
   refine Yp rfl ?_
   apply Yn
   refine W.cond rfl (fun c38=>?_) fun c38=>?_
   ·skip
    apply Y1
    refine Yp rfl ?_
    apply Yn
    apply Yt
    apply Yu
    exact Yz rfl rfl rfl (by clear E; rw [part_r]; first | (simp_all [value_nil]; done) | (simp only [beq_eq_false_iff_ne, ne_eq] at *; rw [if_pos (by simp; omega)]; rfl))
   iterate 8 first|refine Yp rfl ?_|apply Yk|apply Y1|apply Yn|apply Ys
   refine W.cond rfl (fun c39=>?_) fun c39=>?_
   ·skip
    apply Y1
    iterate 2 refine Yp rfl ?_
    refine S.call rfl rfl rfl rfl rfl (pc_outref2_ReadRange v hv) ?_
    iterate 12 first|refine Yp rfl ?_|apply Yu|apply Yt|refine S.store tOk rfl rfl rfl rfl rfl rfl rfl rfl ?_|refine S.alloc tOk rfl rfl rfl rfl ?_|apply Y3|apply Yn
    exact Yz rfl rfl rfl (by clear E; rw [part_r]; first | (simp_all [value_nil]; done) | (simp only [beq_eq_false_iff_ne, ne_eq] at *; rw [if_pos (by simp; omega)]; rfl))
   apply Yk
   apply Y3
   refine Yp rfl ?_
   apply Yn
   apply Yt
   exact Yz rfl rfl rfl (by clear E; rw [part_r]; first | (simp_all [value_nil]; done) | (simp only [beq_eq_false_iff_ne, ne_eq] at *; rw [if_pos (by simp; omega)]; rfl))
  exact absurd c35 (by rw [c34]; simp)
 apply Yr
 iterate 2 refine Yp rfl ?_
 apply Yn
 refine W.cond rfl (fun c40=>?_) fun c40=>?_
 ·skip
  obtain rfl : x = 8 := by simpa using c40
  apply Yr
  iterate 43 first|refine S.pickOr tOk zOk rfl rfl tg ?_|refine S.pickAndG tOk zOk rfl rfl rfl tg tg ?_|refine S.pickAnd tOk zOk rfl rfl tg ?_|refine Yg rfl rfl tg ?_|refine Yp rfl ?_|apply Yw|apply Y1|apply Yn|apply Ys
  refine W.cond rfl (fun c41=>?_) fun c41=>?_
  ·skip
   apply Y1
   refine Yp rfl ?_
   apply Yn
   apply Yt
   apply Yu
   exact Yz rfl rfl rfl (by clear E; rw [part_r]; first | (simp_all [value_nil]; done) | (simp only [beq_eq_false_iff_ne, ne_eq] at *; rw [if_pos (by simp; omega)]; rfl))
  iterate 18 first|refine S.pickOr tOk zOk rfl rfl tg ?_|refine Yp rfl ?_|refine Yg rfl rfl tg ?_|apply Yk|apply Y1|apply Y3|apply Ys|apply Yn
  refine S.callG rfl rfl rfl rfl tg rfl rfl (fun h => pc_outref2_NameOf n (by omega)) ?_
  iterate 11 first|refine S.pickAndG tOk zOk rfl rfl rfl tg tg ?_|refine S.pickAnd tOk zOk rfl rfl tg ?_|refine Yg rfl rfl tg ?_|refine Yp rfl ?_
  refine S.callG rfl rfl rfl rfl tg rfl rfl (fun h => pc_outref2_PathOf n (by omega)) ?_
  refine Yg rfl rfl tg ?_
  refine S.pickAndG tOk zOk rfl rfl rfl tg tg ?_
  refine S.pickOr tOk zOk rfl rfl tg ?_
  apply Yn
  refine W.cond rfl (fun c42=>?_) fun c42=>?_
  ·skip
   apply Y1
   refine Yp rfl ?_
   apply Yn
   apply Yt
   apply Yu
   exact Yz rfl rfl rfl (by clear E; rw [part_r]; first | (simp_all [value_nil]; done) | (simp only [beq_eq_false_iff_ne, ne_eq] at *; rw [if_pos (by simp; omega)]; rfl))
  iterate 6 first|refine Yp rfl ?_|apply Yk|apply Y1|apply Ys|apply Yn
  refine S.call rfl rfl rfl rfl rfl (pc_outref2_ValueOf v (by omega)) ?_
  refine Yp rfl ?_
  apply Yn
  refine W.cond rfl (fun c43=>?_) fun c43=>?_
  ·skip
   apply Y1
   refine Yp rfl ?_
   apply Yn
   apply Yt
   apply Yu
   exact Yz rfl rfl rfl (by clear E; rw [part_r]; first | (simp_all [value_nil]; done) | (simp only [beq_eq_false_iff_ne, ne_eq] at *; rw [if_pos (by simp; omega)]; rfl))
  iterate 8 first|refine Yp rfl ?_|apply Yk|apply Y1|apply Yn|apply Ys
  refine W.cond rfl (fun c44=>?_) fun c44=>?_
  ·skip
   apply Y1
   iterate 2 refine Yp rfl ?_
   refine S.call rfl rfl rfl rfl rfl (pc_outref2_ReadRange v hv) ?_
   iterate 12 first|refine Yp rfl ?_|apply Yu|apply Yt|refine S.store tOk rfl rfl rfl rfl rfl rfl rfl rfl ?_|refine S.alloc tOk rfl rfl rfl rfl ?_|apply Y3|apply Yn
   exact Yz rfl rfl rfl (by clear E; rw [part_r]; first | (simp_all [value_nil]; done) | (simp only [beq_eq_false_iff_ne, ne_eq] at *; rw [if_pos (by simp; omega)]; rfl))
  apply Yk
  apply Y3
  refine Yp rfl ?_
  apply Yn
  apply Yt
  exact Yz rfl rfl rfl (by clear E; rw [part_r]; first | (simp_all [value_nil]; done) | (simp only [beq_eq_false_iff_ne, ne_eq] at *; rw [if_pos (by simp; omega)]; rfl))
 apply Y1
 refine Yp rfl ?_
 apply Yn
 apply Yt
 apply Yv
 apply Yu
 exact Yz rfl rfl rfl (by clear E; rw [part_r]; first | (simp_all [value_nil]; done) | (simp only [beq_eq_false_iff_ne, ne_eq] at *; rw [if_pos (by simp; omega)]; rfl))
end
section
open Go
theorem visits_true {S : Type} {g : CT → S → Bool × S} : ∀ {l : List CT} {s : S}, (∀ c ∈ l, ∀ s, (g c s).1 = true) → (visits g l s).1 = true
  | [], s, h => rfl
  | c :: l, s, h => by
    unfold visits
    rw [if_pos (h c List.mem_cons_self s)]
    exact visits_true fun a ha => h a (List.mem_cons_of_mem _ ha)
theorem visit_true {S : Type} {f : CT → Int → S → Bool × S} (h : ∀ c lv s, (f c lv s).1 = true) : ∀ (n : Nat) (c : CT) (lv : Int) (s : S), c.w ≤ n → (visit f c lv s).1 = true
  | 0, c, lv, s, hn => by have := c.pos; omega
  | n + 1, c, lv, s, hn => by
    rw [visit_go (h c lv s)]
    exact visits_true fun a ha s => visit_true h n a (up1 lv) s (by have := CT.sz ha; omega)
def maxI (a b : Int) : Int := if a < b then b else a
def ce1 (c : CT) (lv : Int) (s : Int × Int) : Bool × (Int × Int) := (true, (up1 s.1, maxI s.2 lv))
def ce2 (c : CT) (lv : Int) (s : Int) : Bool × Int := (true, if s == 0 then c.part else s)
theorem ce1_t (c : CT) (lv : Int) (s : Int × Int) : (visit ce1 c lv s).1 = true := visit_true (fun _ _ _ => rfl) c.w c lv s (Nat.le_refl _)
theorem ce2_t (c : CT) (lv : Int) (s : Int) : (visit ce2 c lv s).1 = true := visit_true (fun _ _ _ => rfl) c.w c lv s (Nat.le_refl _)
def errR (c : CT) : Int :=
 if decide ((visit ce1 c 0 (0, 0)).2.1 > 100) then 4
 else firstB (visit ce2 c 0 0).2 (if decide ((visit ce1 c 0 (0, 0)).2.2 > 20) then 4 else 0)
end
section
open Go
open Go.RowKit
attribute [local irreducible] thenK blockK W
attribute [local irreducible] rangeB rangeR pathB nameB valueB visit visits checkP
theorem pc_ce1 (x : Int) (n v : List UInt8) (xs : List (List D)) (lv p d : Int) :
  HCall Tryz.prog J 31 ([.agg [.d (.int .i64 x), .d (.str n), .d (.str v), .d (.vec 4 xs)], .one (.d (.int .i64 lv)), .one (.ptr 0 0), .one (.ptr 1 0)]) ([[.d (.int .i64 p)], [.d (.int .i64 d)]]) ([]) ([]) (isH (.tup []) ([[.d (.int .i64 (up1 p))], [.d (.int .i64 (maxI d lv))]]) ([]) ([])) := by
 refine HCall.ofD tOk ⟨2, 0, 0⟩ (fn := Tryz.f31) Tryz.func31 (by kernel_rfl) rfl (Nat.le_of_ble_eq_true rfl) (fun E => ?_)
 iterate 11 first|refine Yp rfl ?_|refine S.store tOk rfl rfl rfl rfl rfl rfl rfl rfl ?_|refine S.box rfl rfl rfl rfl ?_|apply Y4|apply Y3|apply Y1
 exact ⟨_, rfl, rfl, LeG.refl _, rfl, rfl, rfl⟩
theorem pc_ce2 (x : Int) (n v : List UInt8) (xs : List (List D)) (hn : n.length < 4294967000) (hv : v.length < 4294967000) (lv e : Int) :
  HCall Tryz.prog J 32 ([.agg [.d (.int .i64 x), .d (.str n), .d (.str v), .d (.vec 4 xs)], .one (.d (.int .i64 lv)), .one (.ptr 0 0)]) ([[.d (.int .i64 e)]]) ([]) ([]) (isH (.tup []) ([[.d (.int .i64 (if e == 0 then partP x n v (xs.length : Int) else e))]]) ([]) ([])) := by
 refine HCall.ofD tOk ⟨1, 0, 0⟩ (fn := Tryz.f32) Tryz.func32 (by kernel_rfl) rfl (Nat.le_of_ble_eq_true rfl) (fun E => ?_)
 apply Y1
 refine S.box rfl rfl rfl rfl ?_
 apply Y3
 iterate 2 refine Yp rfl ?_
 apply Yn
 refine W.cond rfl (fun c1=>?_) fun c1=>?_
 ·skip
  apply Yr
  refine Yp rfl ?_
  refine S.call rfl rfl rfl rfl rfl (pc_partError x n v xs hn hv) ?_
  refine S.store tOk rfl rfl rfl rfl rfl rfl rfl rfl ?_
  exact ⟨_, rfl, rfl, LeG.refl _, (by rw [if_pos c1]; rfl), rfl, rfl⟩
 apply Yk
 exact ⟨_, rfl, rfl, LeG.refl _, (by rw [if_neg (Bool.eq_false_iff.1 c1)]; rfl), rfl, rfl⟩
theorem pc_parts1s (c : CT) (lv : Int) (p : Int) (d : Int) (hc : CtBig c) (ih : ∀ a ∈ c.l, ∀ (lv  : Int) (p : Int) (d : Int), CtBig a → HCall Tryz.prog J 30 [ctV a, .one (.d (.int .i64 lv)), .one (.clo 31 [.ptr 0 0, .ptr 1 0])] [[.d (.int .i64 p)], [.d (.int .i64 d)]] [] [] (isH (.tup []) [[.d (.int .i64 (visit ce1 a lv (p, d)).2.1)], [.d (.int .i64 (visit ce1 a lv (p, d)).2.2)]] [] [])) :
  HCall Tryz.prog J 30 ([ctV c, .one (.d (.int .i64 lv)), .one (.clo 31 [.ptr 0 0, .ptr 1 0])]) ([[.d (.int .i64 p)], [.d (.int .i64 d)]]) ([]) ([]) (isH (.tup []) ([[.d (.int .i64 (visit ce1 c lv (p, d)).2.1)], [.d (.int .i64 (visit ce1 c lv (p, d)).2.2)]]) ([]) ([])) := by
 have hbig := hc.ll
 have hf : (ce1 c lv (p, d)).1 = true := rfl
 unfold ctV
 rw [ds_map]
 have hlen : ((c.l.map CT.d).length : Int) = (c.l.length : Int) := by rw [List.length_map]
 refine HCall.ofD tOk ⟨2, 0, 0⟩ (fn := Tryz.f30) Tryz.func30 (by kernel_rfl) rfl (Nat.le_of_ble_eq_true rfl) (fun E => ?_)
 apply Y1
 refine S.box rfl rfl rfl rfl ?_
 apply Y3
 iterate 3 refine Yp rfl ?_
 refine S.hcallD rfl rfl rfl rfl ((pc_ce1 c.k c.n c.v _ lv p d).fd [0, 1] [] [] rfl) ?_
 apply Y3
 iterate 4 refine Yp rfl ?_
 apply Yn
 apply Yb
 refine W.loop (fun k st => ∃ i : Nat, ∃ p1 : Int, ∃ d1 : Int, i ≤ c.l.length ∧ visits (fun a => visit ce1 a (up1 lv)) (c.l.take i) (ce1 c lv (p, d)).2 = (true, (p1, d1)) ∧ k = c.l.length - i ∧ ∃ t b2 r2 m2, st = ⟨t, [[.d (.int .i64 p1)], [.d (.int .i64 d1)], [.d (.int .i64 c.k), .d (.str c.n), .d (.str c.v), .d (.vec 4 (c.l.map CT.d))]] ++ b2, [] ++ r2, [] ++ m2⟩ ∧ holdsL t [(1, .one (.d (.int .i64 lv))), (2, .one (.clo 31 [.ptr 0 0, .ptr 1 0])), (13, .one (.d (.vec 4 (c.l.map CT.d)))), (14, .one (.d (.int .i64 ((c.l.map CT.d).length : Int)))), (15, .one (.d (.int .i64 (i : Int))))]) (c.l.length) ⟨0, _, _, Nat.zero_le _, visits_nil, rfl, _, _, _, _, rfl, rfl, rfl, rfl, rfl, rfl, trivial⟩ ?_
 rintro k0 _ ⟨i, p1, d1, f0_0, f0_1, rfl, t0, bb0, rr0, mm0, rfl, hh0⟩
 refine W.keepR _ _ _ _ _ _ _ hh0 rfl ?_
 apply Y1
 refine Yp rfl ?_
 apply Yn
 apply Ys
 refine W.cond rfl (fun c1=>?_) fun c1=>?_
 ·skip
  have hi := row_lt c1
  apply Yk
  apply Yn
  apply Ys
  apply Yb
  apply Y1
  refine YE rfl (row_ok hi) (getD_map_ct hi) rfl ?_
  iterate 8 first|refine Yp rfl ?_|refine S.store tOk rfl rfl rfl rfl rfl rfl rfl rfl ?_|refine S.alloc tOk rfl rfl rfl rfl ?_|apply Y4
  refine S.hcallD rfl rfl rfl rfl ((ih (c.l.getD i CT.z) (mem_ct hi) (up1 lv) p1 d1 (hc.l _ (mem_ct hi))).fd [0, 1] [] [] rfl) ?_
  apply Yw
  apply Y4
  iterate 2 refine Yp rfl ?_
  refine loop_n (c.l.length - (i + 1)) (by omega) ⟨i + 1, _, _, hi, visit_next hi f0_1 (ce1_t _ _ _), rfl, _, _, _, _, rfl, rfl, rfl, rfl, rfl, inc_i64 (by omega), trivial⟩
 have hi := row_ge c1
 have hv := visit_all hf hi f0_1
 apply Yq
 apply Ye
 apply Ye
 apply Yx
 exact ⟨_, rfl, rfl, LeG.refl _, (by rw [hv]; rfl), rfl, rfl⟩
theorem pc_parts1 : ∀ (n : Nat) (c : CT), c.w ≤ n → ∀ (lv : Int) (p : Int) (d : Int), CtBig c → HCall Tryz.prog J 30 [ctV c, .one (.d (.int .i64 lv)), .one (.clo 31 [.ptr 0 0, .ptr 1 0])] [[.d (.int .i64 p)], [.d (.int .i64 d)]] [] [] (isH (.tup []) [[.d (.int .i64 (visit ce1 c lv (p, d)).2.1)], [.d (.int .i64 (visit ce1 c lv (p, d)).2.2)]] [] [])
 | 0, c, h => by have := c.pos; omega
 | n + 1, c, h => fun lv p d hc => pc_parts1s c lv p d hc (fun a ha => pc_parts1 n a (by have := CT.sz ha; omega))
theorem pc_parts2s (c : CT) (lv : Int) (e : Int) (hc : CtBig c) (ih : ∀ a ∈ c.l, ∀ (lv  : Int) (e : Int), CtBig a → HCall Tryz.prog J 30 [ctV a, .one (.d (.int .i64 lv)), .one (.clo 32 [.ptr 0 0])] [[.d (.int .i64 e)]] [] [] (isH (.tup []) [[.d (.int .i64 (visit ce2 a lv e).2)]] [] [])) :
  HCall Tryz.prog J 30 ([ctV c, .one (.d (.int .i64 lv)), .one (.clo 32 [.ptr 0 0])]) ([[.d (.int .i64 e)]]) ([]) ([]) (isH (.tup []) ([[.d (.int .i64 (visit ce2 c lv e).2)]]) ([]) ([])) := by
 have hbig := hc.ll
 have hf : (ce2 c lv e).1 = true := rfl
 unfold ctV
 rw [ds_map]
 have hlen : ((c.l.map CT.d).length : Int) = (c.l.length : Int) := by rw [List.length_map]
 have hcl2 := pc_ce2 c.k c.n c.v (c.l.map CT.d) hc.n hc.v lv e
 rw [hlen] at hcl2
 refine HCall.ofD tOk ⟨1, 0, 0⟩ (fn := Tryz.f30) Tryz.func30 (by kernel_rfl) rfl (Nat.le_of_ble_eq_true rfl) (fun E => ?_)
 apply Y1
 refine S.box rfl rfl rfl rfl ?_
 apply Y3
 iterate 3 refine Yp rfl ?_
 refine S.hcallD rfl rfl rfl rfl (hcl2.fd [0] [] [] rfl) ?_
 apply Y3
 iterate 4 refine Yp rfl ?_
 apply Yn
 apply Yb
 refine W.loop (fun k st => ∃ i : Nat, ∃ e1 : Int, i ≤ c.l.length ∧ visits (fun a => visit ce2 a (up1 lv)) (c.l.take i) (ce2 c lv e).2 = (true, e1) ∧ k = c.l.length - i ∧ ∃ t b2 r2 m2, st = ⟨t, [[.d (.int .i64 e1)], [.d (.int .i64 c.k), .d (.str c.n), .d (.str c.v), .d (.vec 4 (c.l.map CT.d))]] ++ b2, [] ++ r2, [] ++ m2⟩ ∧ holdsL t [(1, .one (.d (.int .i64 lv))), (2, .one (.clo 32 [.ptr 0 0])), (13, .one (.d (.vec 4 (c.l.map CT.d)))), (14, .one (.d (.int .i64 ((c.l.map CT.d).length : Int)))), (15, .one (.d (.int .i64 (i : Int))))]) (c.l.length) ⟨0, _, Nat.zero_le _, visits_nil, rfl, _, _, _, _, rfl, rfl, rfl, rfl, rfl, rfl, trivial⟩ ?_
 rintro k0 _ ⟨i, e1, f0_0, f0_1, rfl, t0, bb0, rr0, mm0, rfl, hh0⟩
 refine W.keepR _ _ _ _ _ _ _ hh0 rfl ?_
 apply Y1
 refine Yp rfl ?_
 apply Yn
 apply Ys
 refine W.cond rfl (fun c1=>?_) fun c1=>?_
 ·skip
  have hi := row_lt c1
  apply Yk
  apply Yn
  apply Ys
  apply Yb
  apply Y1
  refine YE rfl (row_ok hi) (getD_map_ct hi) rfl ?_
  iterate 8 first|refine Yp rfl ?_|refine S.store tOk rfl rfl rfl rfl rfl rfl rfl rfl ?_|refine S.alloc tOk rfl rfl rfl rfl ?_|apply Y4
  refine S.hcallD rfl rfl rfl rfl ((ih (c.l.getD i CT.z) (mem_ct hi) (up1 lv) e1 (hc.l _ (mem_ct hi))).fd [0] [] [] rfl) ?_
  apply Yw
  apply Y4
  iterate 2 refine Yp rfl ?_
  refine loop_n (c.l.length - (i + 1)) (by omega) ⟨i + 1, _, hi, visit_next hi f0_1 (ce2_t _ _ _), rfl, _, _, _, _, rfl, rfl, rfl, rfl, rfl, inc_i64 (by omega), trivial⟩
 have hi := row_ge c1
 have hv := visit_all hf hi f0_1
 apply Yq
 apply Ye
 apply Ye
 apply Yx
 exact ⟨_, rfl, rfl, LeG.refl _, (by rw [hv]; rfl), rfl, rfl⟩
theorem pc_parts2 : ∀ (n : Nat) (c : CT), c.w ≤ n → ∀ (lv : Int) (e : Int), CtBig c → HCall Tryz.prog J 30 [ctV c, .one (.d (.int .i64 lv)), .one (.clo 32 [.ptr 0 0])] [[.d (.int .i64 e)]] [] [] (isH (.tup []) [[.d (.int .i64 (visit ce2 c lv e).2)]] [] [])
 | 0, c, h => by have := c.pos; omega
 | n + 1, c, h => fun lv e hc => pc_parts2s c lv e hc (fun a ha => pc_parts2 n a (by have := CT.sz ha; omega))
theorem err_1 {c : CT} (h : decide ((visit ce1 c 0 (0, 0)).2.1 > 100) = true) : errR c = 4 := if_pos h
theorem err_0 {c : CT} (h : decide ((visit ce1 c 0 (0, 0)).2.1 > 100) = false) : errR c = firstB (visit ce2 c 0 0).2 (if decide ((visit ce1 c 0 (0, 0)).2.2 > 20) then 4 else 0) := if_neg (by rw [h]; simp)
theorem pc_CondErr (c : CT) (hc : CtBig c) :
  PureCall Tryz.prog J 7 [ctV c] (.one (.d (.int .i64 (errR c)))) := by
 refine PureCall.of_body tOk (fn := Tryz.f7) Tryz.func7 (by kernel_rfl) rfl (Nat.le_of_ble_eq_true rfl) (fun E => ?_)
 apply Y1
 iterate 9 first|refine Yp rfl ?_|refine S.store tOk rfl rfl rfl rfl rfl rfl rfl rfl ?_|refine S.alloc tOk rfl rfl rfl rfl ?_|refine S.box rfl rfl rfl rfl ?_|apply Y3
 refine S.makeFunc rfl rfl rfl ?_
 refine S.hcallD rfl rfl rfl rfl ((pc_parts1 c.w c (Nat.le_refl _) 0 0 0 hc).fd [1, 2] [] [] rfl) ?_
 iterate 6 first|refine Yp rfl ?_|apply Y1|apply Yn|apply Ys
 refine W.cond rfl (fun c1=>?_) fun c1=>?_
 ·skip
  apply Y1
  refine Yp rfl ?_
  apply Yn
  apply Yt
  apply Yu
  exact Yz rfl rfl rfl (by rw [err_1 c1]; rfl)
 apply Yk
 apply Y3
 refine S.alloc tOk rfl rfl rfl rfl ?_
 refine S.store tOk rfl rfl rfl rfl rfl rfl rfl rfl ?_
 apply Y3
 refine Yp rfl ?_
 refine S.makeFunc rfl rfl rfl ?_
 refine S.hcallD rfl rfl rfl rfl ((pc_parts2 c.w c (Nat.le_refl _) 0 0 hc).fd [3] [] [] rfl) ?_
 apply Yn
 apply Ys
 refine W.regionD mixed (by kernel_rfl) ?_
 iterate 3 refine Ym rfl rfl ?_
 refine D.call rfl rfl rfl rfl rfl (pc_outref2_When _ 4) ?_
 refine D.slice tOk rfl rfl ?_
 refine D.call rfl rfl rfl rfl rfl (pc_first2 (visit ce2 c 0 0).2 (if decide ((visit ce1 c 0 (0, 0)).2.2 > 20) then 4 else 0)) ?_
 refine Ym rfl rfl ?_
 apply Yn
 apply Yt
 exact Yz rfl rfl rfl (by rw [err_0 c1])
end
end Go.Proofs.YtfcdmcdhhikhaaaGreatDoor
namespace Go.Proofs.YtfcdmcdhhikhaaaGreatDoor
section
open Go
theorem ws_app : ∀ (l m : List CT), CT.ws (l ++ m) = CT.ws l + CT.ws m
  | [], m => by show CT.ws m = 0 + CT.ws m; omega
  | c :: l, m => by
    show c.w + CT.ws (l ++ m) = (c.w + CT.ws l) + CT.ws m
    rw [ws_app l m]; omega
mutual
def CT.pt : CT → Int → List (CT × Int)
  | .mk k n v l, lv => (.mk k n v l, lv) :: CT.pts l (up1 lv)
def CT.pts : List CT → Int → List (CT × Int)
  | [], _ => []
  | c :: l, lv => c.pt lv ++ CT.pts l lv
end
theorem pt_eq (c : CT) (lv : Int) : c.pt lv = (c, lv) :: CT.pts c.l (up1 lv) := by cases c; rfl
theorem pts_len : ∀ (n : Nat) (l : List CT) (lv : Int), CT.ws l ≤ n → (CT.pts l lv).length = CT.ws l
  | n, [], lv, h => rfl
  | 0, c :: l, lv, h => by
    have h1 : CT.ws (c :: l) = c.w + CT.ws l := rfl
    have := c.pos; omega
  | n + 1, c :: l, lv, h => by
    have h1 : CT.ws (c :: l) = c.w + CT.ws l := rfl
    have h2 := c.pos
    have h3 : c.w = CT.ws c.l + 1 := by cases c; rfl
    show (c.pt lv ++ CT.pts l lv).length = _
    rw [pt_eq, List.length_append, List.length_cons, pts_len n l lv (by omega), pts_len n c.l _ (by omega)]
    omega
theorem pt_len (c : CT) (lv : Int) : (c.pt lv).length = c.w := by
 have h3 : c.w = CT.ws c.l + 1 := by cases c; rfl
 rw [pt_eq, List.length_cons, pts_len _ c.l _ (Nat.le_refl _), h3]
def runs {S : Type} (f : CT → Int → S → Bool × S) : List (CT × Int) → S → Bool × S
 | [], s => (true, s)
 | (c, lv) :: L, s => if (f c lv s).1 then runs f L (f c lv s).2 else (false, (f c lv s).2)
theorem runs_app {S : Type} {f : CT → Int → S → Bool × S} : ∀ (A B : List (CT × Int)) (s : S), runs f (A ++ B) s = if (runs f A s).1 then runs f B (runs f A s).2 else (false, (runs f A s).2)
  | [], B, s => rfl
  | (c, lv) :: A, B, s => by
    have e : ∀ L : List (CT × Int), runs f ((c, lv) :: L) s = if (f c lv s).1 then runs f L (f c lv s).2 else (false, (f c lv s).2) := fun L => rfl
    rw [List.cons_append, e, e]
    cases h : (f c lv s).1 with
    | true => rw [if_pos rfl, if_pos rfl]; exact runs_app A B _
    | false => simp
theorem visits_runs {S : Type} {f : CT → Int → S → Bool × S} : ∀ (n : Nat) (l : List CT) (lv : Int) (s : S), CT.ws l ≤ n → visits (fun a => visit f a lv) l s = runs f (CT.pts l lv) s
  | n, [], lv, s, h => rfl
  | 0, c :: l, lv, s, h => by
    have h1 : CT.ws (c :: l) = c.w + CT.ws l := rfl
    have := c.pos; omega
  | n + 1, c :: l, lv, s, h => by
    have h1 : CT.ws (c :: l) = c.w + CT.ws l := rfl
    have h2 := c.pos
    have h3 : c.w = CT.ws c.l + 1 := by cases c; rfl
    have hc : ∀ s, visit f c lv s = runs f (c.pt lv) s := fun s => by
      rw [visit_eq, pt_eq, visits_runs n c.l _ _ (by omega)]; rfl
    show (if (visit f c lv s).1 then visits (fun a => visit f a lv) l (visit f c lv s).2 else (false, (visit f c lv s).2)) = runs f (c.pt lv ++ CT.pts l lv) s
    rw [runs_app, hc, visits_runs n l lv _ (by omega)]
theorem visit_runs {S : Type} {f : CT → Int → S → Bool × S} (c : CT) (lv : Int) (s : S) : visit f c lv s = runs f (c.pt lv) s := by
 rw [visit_eq, pt_eq, visits_runs _ c.l _ _ (Nat.le_refl _)]; rfl
theorem up1_of {n : Nat} (h : n < 4000000000) : up1 (n : Int) = ((n + 1 : Nat) : Int) := by
 unfold up1
 rw [IntKind.wrap_i64]; omega
def deepB (L : List (CT × Int)) : Bool := L.any fun p => decide (p.2 > 20)
theorem run_ce1 : ∀ (L : List (CT × Int)) (n : Nat) (d : Int), n + L.length < 4000000000 → (runs ce1 L ((n : Int), d)).2.1 = ((n + L.length : Nat) : Int) ∧ decide ((runs ce1 L ((n : Int), d)).2.2 > 20) = (decide (d > 20) || deepB L)
  | [], n, d, h => by
    refine ⟨rfl, ?_⟩
    show decide (d > 20) = (decide (d > 20) || false)
    rw [Bool.or_false]
  | (c, lv) :: L, n, d, h => by
    have hl : ((c, lv) :: L).length = L.length + 1 := rfl
    rw [hl] at h
    have h1 : runs ce1 ((c, lv) :: L) ((n : Int), d) = runs ce1 L (((n + 1 : Nat) : Int), maxI d lv) := by
      show runs ce1 L (up1 (n : Int), maxI d lv) = _
      rw [up1_of (by omega)]
    have ih := run_ce1 L (n + 1) (maxI d lv) (by omega)
    rw [h1]
    refine ⟨ih.1.trans (by rw [hl]; congr 1; omega), ih.2.trans ?_⟩
    have : decide (maxI d lv > 20) = (decide (d > 20) || decide (lv > 20)) := by
      unfold maxI; split <;> simp <;> omega
    rw [this]
    show _ = (decide (d > 20) || (decide (lv > 20) || deepB L))
    rw [Bool.or_assoc]
theorem run_cc1 : ∀ (L : List (CT × Int)) (n : Nat) (b : Bool), n ≤ 100 → (n + L.length ≤ 100 → runs cc1 L ((n : Int), b) = (true, (((n + L.length : Nat) : Int), b || deepB L))) ∧ (100 < n + L.length → (runs cc1 L ((n : Int), b)).2.1 = 101)
  | [], n, b, h => by
    refine ⟨fun _ => ?_, fun h2 => by simp at h2; omega⟩
    show (true, ((n : Int), b)) = (true, ((n : Int), b || false))
    rw [Bool.or_false]
  | (c, lv) :: L, n, b, h => by
    have hl : ((c, lv) :: L).length = L.length + 1 := rfl
    have h1 : runs cc1 ((c, lv) :: L) ((n : Int), b) = if decide (((n + 1 : Nat) : Int) ≤ 100) then runs cc1 L (((n + 1 : Nat) : Int), b || decide (lv > 20)) else (false, (((n + 1 : Nat) : Int), b || decide (lv > 20))) := by
      show (if decide (up1 (n : Int) ≤ 100) then runs cc1 L (up1 (n : Int), b || decide (lv > 20)) else (false, (up1 (n : Int), b || decide (lv > 20)))) = _
      rw [up1_of (by omega)]
    rw [h1, hl]
    by_cases h2 : n + 1 ≤ 100
    · rw [if_pos (by simp; omega)]
      have ih := run_cc1 L (n + 1) (b || decide (lv > 20)) h2
      refine ⟨fun h3 => (ih.1 (by omega)).trans ?_, fun h3 => ih.2 (by omega)⟩
      show (true, _, (b || decide (lv > 20)) || deepB L) = (true, _, b || (decide (lv > 20) || deepB L))
      rw [Bool.or_assoc]
      have : n + 1 + L.length = n + (L.length + 1) := by omega
      rw [this]
    · rw [if_neg (by simp; omega)]
      refine ⟨fun h3 => by omega, fun _ => ?_⟩
      show ((n + 1 : Nat) : Int) = 101
      omega
theorem run_ce2_old : ∀ (L : List (CT × Int)) (e : Int), (e == 0) = false → (runs ce2 L e).2 = e
  | [], e, h => rfl
  | (c, lv) :: L, e, h => by
    show (runs ce2 L (if e == 0 then c.part else e)).2 = e
    rw [h]; exact run_ce2_old L e h
theorem run_2 : ∀ (L : List (CT × Int)), (runs ce2 L 0).2 = (runs cc2 L 0).2
  | [] => rfl
  | (c, lv) :: L => by
    show (runs ce2 L c.part).2 = (if c.part == 0 then runs cc2 L c.part else (false, c.part)).2
    cases h : (c.part == 0) with
    | true =>
      have h0 : c.part = 0 := by simpa using h
      rw [h0]; exact run_2 L
    | false => exact run_ce2_old L _ h
theorem errs_eq {c : CT} (h : c.w < 3000000000) : errR c = checkP c := by
  unfold errR checkP
  rw [visit_runs, visit_runs, visit_runs, visit_runs]
  have hl := pt_len c 0
  have h1 := run_ce1 (c.pt 0) 0 0 (by omega)
  have h2 := run_cc1 (c.pt 0) 0 false (by omega)
  simp only [Int.ofNat_zero, Int.natCast_zero, show ((0 : Nat) : Int) = 0 from rfl, Nat.zero_add] at h1 h2
  rw [h1.1, h1.2, hl, run_2]
  rw [hl] at h2
  by_cases h3 : c.w ≤ 100
  · have h4 := h2.1 h3
    rw [h4]
    have : decide (((c.w : Nat) : Int) > 100) = false := by simp; omega
    rw [this]
    unfold firstB
    show (if false then _ else _) = _
    cases hp : ((runs cc2 (c.pt 0) 0).2 == 0) with
    | true =>
      have hp0 : (runs cc2 (c.pt 0) 0).2 = 0 := by simpa using hp
      cases hd : deepB (c.pt 0) <;> simp [hp0]
    | false =>
      simp at hp
      simp [hp]
  · have h4 := h2.2 (by omega)
    rw [h4]
    have : decide (((c.w : Nat) : Int) > 100) = true := by simp; omega
    rw [this]; rfl
end
section
open Go
open Go.RowKit
attribute [local irreducible] thenK blockK W
attribute [local irreducible] rangeB rangeR pathB nameB valueB visit visits checkP errR
end
section
open Go
mutual
def CT.tx : CT → L8
  | .mk k n v l => n ++ (CT.txs l).flatten
def CT.txs : List CT → List L8
  | [] => []
  | c :: l => c.tx :: CT.txs l
end
mutual
def CT.b : CT → Nat
  | .mk k n v l => n.length + 2 * v.length + 30 + CT.bs l
def CT.bs : List CT → Nat
  | [] => 0
  | c :: l => c.b + 5 + CT.bs l
end
inductive CtT : CT → Prop where
 | mk (k : Int) (n v : L8) (l : List CT) (h1 : n.length ≤ 2000000) (h2 : v.length ≤ 2000000) (h4 : l.length ≤ 2000000) (h5 : k = 6 → l.length = 1) (h6 : k = 5 → (rangeB v).2 = 0) (h3 : ∀ a ∈ l, CtT a) : CtT (.mk k n v l)
theorem CtT.n {c : CT} (h : CtT c) : c.n.length ≤ 2000000 := by cases h; assumption
theorem CtT.v {c : CT} (h : CtT c) : c.v.length ≤ 2000000 := by cases h; assumption
theorem CtT.ll {c : CT} (h : CtT c) : c.l.length ≤ 2000000 := by cases h; assumption
theorem CtT.not {c : CT} (h : CtT c) : c.k = 6 → c.l.length = 1 := by cases h; assumption
theorem CtT.ver {c : CT} (h : CtT c) : c.k = 5 → (rangeB c.v).2 = 0 := by cases h; assumption
theorem CtT.l {c : CT} (h : CtT c) : ∀ a ∈ c.l, CtT a := by cases h; assumption
end
section
open Go
open Go.RowKit
attribute [local irreducible] thenK blockK W
attribute [local irreducible] rangeB pathB nameB valueB firstNe CT.tx CT.b visit visits checkP errR
end
section
open Go
theorem spanE_0 {s : Sp} (h : spanE s = 0) : (s.hf = false → s.f = Ver.z) ∧ (s.ht = false → s.t = Ver.z) ∧ s.f.check = 0 ∧ s.t.check = 0 ∧ (s.hf = true → s.ht = true → orderB s.f s.t < 0) := by
 have hc := span_checks h
 have hform : ((!(s.f.eqb Ver.z) && !s.hf) || (!(s.t.eqb Ver.z) && !s.ht)) = false := by
  cases hx : ((!(s.f.eqb Ver.z) && !s.hf) || (!(s.t.eqb Ver.z) && !s.ht)) with
  | false => rfl
  | true => have := spE_form hx; omega
 have hf := form_f hform
 refine ⟨hf.1, hf.2, hc.1, hc.2, fun h1 h2 => ?_⟩
 have e2 : (s.hf && s.f.check != 0) = false := by simp [hc.1]
 have e3 : (s.ht && s.t.check != 0) = false := by simp [hc.2]
 cases h4 : ((s.hf && s.ht) && decide (orderB s.f s.t ≥ 0)) with
 | false => rw [h1, h2] at h4; simpa using h4
 | true => have := spE_o hform e2 e3 h4; omega
theorem spAt_zero {ss : List Sp} (h : rangeE ss = 0) {i : Nat} (hi : i < ss.length) : spAt ss i = 0 := by
 unfold rangeE at h
 split at h
 ·skip
  exact absurd h (by decide)
 ·skip
  exact firstNe_zero h _ (List.mem_map.2 ⟨i, List.mem_range.2 hi, rfl⟩)
theorem span_zero {ss : List Sp} (h : rangeE ss = 0) {i : Nat} (hi : i < ss.length) : spanE (ss.getD i Sp.z) = 0 := by
 have h1 := spAt_zero h hi
 cases hx : (spanE (ss.getD i Sp.z) != 0) with
 | false => simpa using hx
 | true => rw [spAt_own hx] at h1; exact h1
theorem span_in {ss : List Sp} (h : rangeE ss = 0) {s : Sp} (hs : s ∈ ss) : spanE s = 0 := by
 obtain ⟨i, hi, rfl⟩ := List.getElem_of_mem hs
 have := span_zero h hi
 rwa [List.getD_eq_getElem?_getD, List.getElem?_eq_getElem hi] at this
theorem within_inside {s : Sp} {v : Ver} (hf : s.f.check = 0) (ht : s.t.check = 0) (hv : v.check = 0) : withinB s v = insideR s v := by
 unfold withinB insideR
 rw [compare_eq hv hf, compare_eq hv ht]
 congr 1
 ·skip
  cases s.hf
  ·skip
   rfl
  ·skip
   rw [Bool.eq_iff_iff]; simp
 ·skip
  cases s.ht
  ·skip
   rfl
  ·skip
   rw [Bool.eq_iff_iff]; simp
theorem has_eq {ss : List Sp} {v : Ver} (h : rangeE ss = 0) (hv : v.check = 0) : hasB ss v = hasR ss v := by
 unfold hasB hasR
 have hc : ∀ s ∈ ss, s.f.check = 0 ∧ s.t.check = 0 := fun s hs => ⟨(spanE_0 (span_in h hs)).2.2.1, (spanE_0 (span_in h hs)).2.2.2.1⟩
 have key : ∀ s ∈ ss, hasAt ss.length v s = hasAtR (allR ss) v s := fun s hs => by
  unfold hasAt hasAtR
  rw [within_inside (hc s hs).1 (hc s hs).2 hv]
  have e : (((ss.length : Int) == 1 && !s.hf) && !s.ht) = allR ss := by
   unfold allR
   match ss, hs with
   | [x], hs => rw [List.mem_singleton.1 hs]; rfl
   | x :: y :: l, hs =>
    have : (((x :: y :: l).length : Int) == 1) = false := by simp; omega
    rw [this]; rfl
  rw [e]
 rw [Bool.eq_iff_iff, List.any_eq_true, List.any_eq_true]
 exact ⟨fun ⟨s, h1, h2⟩ => ⟨s, h1, by rw [← key s h1]; exact h2⟩, fun ⟨s, h1, h2⟩ => ⟨s, h1, by rw [key s h1]; exact h2⟩⟩
end
section
open Go
theorem rangeB_E (s : L8) : rangeE (rangeB s).1 = 0 := by
 have h0 : rangeE [] = 0 := by decide
 unfold rangeB
 repeat' split
 ·skip
  exact h0
 ·skip
  exact h0
 ·skip
  exact h0
 ·skip
  exact h0
 ·skip
  exact h0
 ·skip
  rename_i h
  simpa using h
theorem check_e {v : Ver} (h : v.check = 0) : v.e.length ≤ 40 := by
  unfold Ver.check checkB at h
  split at h
  · cases h
  · split at h
    · cases h
    · rename_i h2
      simp only [Bool.and_eq_true, Bool.not_eq_true', not_and, Bool.not_eq_false] at h2
      by_cases he : v.e = []
      · rw [he]; exact Nat.zero_le _
      · have h3 := h2 (by simpa using he)
        unfold earlyB at h3
        rw [Bool.and_eq_true, decide_eq_true_eq] at h3
        omega
theorem range_sp (s : L8) : ∀ x ∈ (rangeB s).1, SpLen x := fun x hx => by
 have h := spanE_0 (span_in (rangeB_E s) hx)
 have h1 := check_e h.2.2.1
 have h2 := check_e h.2.2.2.1
 exact ⟨by omega, by omega⟩
abbrev Tell := L8 → L8 × Bool
def holdK (k : Int) (n v : L8) (xs : List Bool) (f g : Tell) : Bool :=
 if k == 2 then (f n).2 && (f n).1 == v else if k == 3 then (g n).2 && (g n).1 == v else if k == 4 then (g n).2
 else if k == 5 then ((f n).2 && (parseB (f n).1).2 == 0 && (rangeB v).2 == 0) && hasB (rangeB v).1 (parseB (f n).1).1
 else if k == 6 then !xs.getD 0 false else if k == 7 then !xs.any (fun b => !b) else if k == 8 then xs.any id else true
mutual
def CT.ho (f g : Tell) : CT → Bool
  | .mk k n v l => holdK k n v (CT.hos f g l) f g
def CT.hos (f g : Tell) : List CT → List Bool
  | [] => []
  | c :: l => CT.ho f g c :: CT.hos f g l
end
theorem hos_map (f g : Tell) : ∀ (l : List CT), CT.hos f g l = l.map (CT.ho f g)
  | [] => rfl
  | c :: l => by
    show CT.ho f g c :: CT.hos f g l = _
    rw [hos_map f g l]; rfl
theorem ho_eq (f g : Tell) (c : CT) : c.ho f g = holdK c.k c.n c.v (c.l.map (CT.ho f g)) f g := by
 cases c with | mk k n v l =>
 show holdK k n v (CT.hos f g l) f g = _
 rw [hos_map]; rfl
section
variable {f g : Tell} {c : CT}
theorem ho_2 (h : (c.k == 2) = true) : c.ho f g = ((f c.n).2 && (f c.n).1 == c.v) := by rw [ho_eq]; exact if_pos h
theorem ho_3 (h2 : (c.k == 2) = false) (h : (c.k == 3) = true) : c.ho f g = ((g c.n).2 && (g c.n).1 == c.v) := by rw [ho_eq, holdK, if_neg (Bool.eq_false_iff.1 h2)]; exact if_pos h
theorem ho_4 (h2 : (c.k == 2) = false) (h3 : (c.k == 3) = false) (h : (c.k == 4) = true) : c.ho f g = (g c.n).2 := by
 rw [ho_eq, holdK, if_neg (Bool.eq_false_iff.1 h2), if_neg (Bool.eq_false_iff.1 h3)]; exact if_pos h
theorem ho_5 (h2 : (c.k == 2) = false) (h3 : (c.k == 3) = false) (h4 : (c.k == 4) = false) (h : (c.k == 5) = true) : c.ho f g = (((f c.n).2 && (parseB (f c.n).1).2 == 0 && (rangeB c.v).2 == 0) && hasB (rangeB c.v).1 (parseB (f c.n).1).1) := by
 rw [ho_eq, holdK, if_neg (Bool.eq_false_iff.1 h2), if_neg (Bool.eq_false_iff.1 h3), if_neg (Bool.eq_false_iff.1 h4)]; exact if_pos h
theorem ho_6 (h : (c.k == 6) = true) (h1 : 0 < c.l.length) : c.ho f g = !(c.l.getD 0 CT.z).ho f g := by
 have hk : c.k = 6 := by simpa using h
 rw [ho_eq, hk]
 show (!(c.l.map (CT.ho f g)).getD 0 false) = _
 match c.l, h1 with
 | a :: _, _ => rfl
theorem ho_7 (h : (c.k == 7) = true) : c.ho f g = !c.l.any (fun a => !a.ho f g) := by
 have hk : c.k = 7 := by simpa using h
 rw [ho_eq, hk]
 show (!(c.l.map (CT.ho f g)).any (fun b => !b)) = _
 rw [List.any_map]; rfl
theorem ho_8 (h : (c.k == 8) = true) : c.ho f g = c.l.any (fun a => a.ho f g) := by
 have hk : c.k = 8 := by simpa using h
 rw [ho_eq, hk]
 show (c.l.map (CT.ho f g)).any id = _
 rw [List.any_map]; rfl
theorem ho_0 (h2 : (c.k == 2) = false) (h3 : (c.k == 3) = false) (h4 : (c.k == 4) = false) (h5 : (c.k == 5) = false) (h6 : (c.k == 6) = false) (h7 : (c.k == 7) = false) (h8 : (c.k == 8) = false) : c.ho f g = true := by
 rw [ho_eq, holdK]; simp only [h2, h3, h4, h5, h6, h7, h8, Bool.false_eq_true, if_false]
end
end
section
open Go
open Go.RowKit
attribute [local irreducible] thenK blockK W
attribute [local irreducible] rangeB pathB nameB valueB parseB hasB CT.ho holdK
theorem pc_IndexFunc_Cond (f : Nat) (caps : List C) (b : List (List C)) (r : List (Option RowO)) (m : List (List (DV × DV))) (φ : CT → Bool) (l : List CT) (hl : l.length ≤ 1000000000) (hc : ∀ a ∈ l, HCall Tryz.prog J f (ctV a :: caps.map V.one) b r m (isH (.one (.d (.bool (φ a)))) b r m)) :
  HCall Tryz.prog J 115 ([.one (.d (.vec 4 (l.map CT.d))), .one (.clo f caps)]) (b) (r) (m) (isH (.one (.d (.int .i64 (idxOf φ l)))) (b) (r) (m)) := by
 have hmap : (l.map CT.d).length = l.length := List.length_map _
 refine HCall.ofN tOk (fn := Tryz.f115) Tryz.func115 (by kernel_rfl) rfl (Nat.le_of_ble_eq_true rfl) (fun E => ?_)
 iterate 9 first|refine Yp rfl ?_|apply Y1|apply Yn|apply Ys
 apply Yb
 refine W.loop (fun k st => ∃ i : Nat, i ≤ l.length ∧ (l.take i).any φ = false ∧ k = l.length - i ∧ ∃ t, st = ⟨t, b, r, m⟩ ∧ holdsL t [(0, .one (.d (.vec 4 (l.map CT.d)))), (1, .one (.clo f caps)), (6, .one (.d (.vec 4 (l.map CT.d)))), (7, .one (.d (.int .i64 ((l.map CT.d).length : Int)))), (8, .one (.d (.int .i64 (i : Int))))]) (l.length) ⟨0, Nat.zero_le _, by simp, rfl, _, rfl, rfl, rfl, rfl, rfl, rfl, trivial⟩ ?_
 rintro k0 _ ⟨i, f0_0, f0_1, rfl, t0, rfl, hh0⟩
 refine W.keep _ hh0 ?_
 apply Y1
 refine Yp rfl ?_
 apply Yn
 apply Ys
 refine W.cond rfl (fun c1=>?_) fun c1=>?_
 ·skip
  have hi := row_lt c1
  iterate 11 first|refine Yp rfl ?_|apply Yb|apply Yk|apply Y3|apply Y1|apply Ys|apply Yn
  refine YE rfl (row_ok hi) (getD_map_ct hi) rfl ?_
  refine Yp rfl ?_
  refine S.hcallU rfl rfl rfl (hc (l.getD i CT.z) (mem_ct hi)) ?_
  apply Yn
  refine W.cond rfl (fun c2=>?_) fun c2=>?_
  ·skip
   iterate 10 first|apply Yu|apply Yv|refine Yp rfl ?_|apply Yt|apply Y1|apply Yn
   exact ⟨_, rfl, LeG.of_eq (congrArg (fun x => V.one (C.d (D.int .i64 x))) (idxOf_at (d := CT.z) hi f0_1 c2).symm), rfl, rfl, rfl⟩
  apply Yk
  apply Yw
  apply Y4
  iterate 2 refine Yp rfl ?_
  refine loop_n (l.length - (i + 1)) (by omega) ⟨i + 1, hi, any_take (d := CT.z) hi f0_1 c2, rfl, _, rfl, rfl, rfl, rfl, rfl, inc_i64 (by omega), trivial⟩
 have hi := row_ge c1
 apply Yq
 apply Ye
 apply Ye
 apply Yx
 apply Y3
 refine Yp rfl ?_
 apply Yn
 apply Yt
 exact ⟨_, rfl, LeG.of_eq (congrArg (fun x => V.one (C.d (D.int .i64 x))) (idxOf_none (any_end hi f0_1)).symm), rfl, rfl, rfl⟩
theorem pc_ContainsFunc_Cond (f : Nat) (caps : List C) (b : List (List C)) (r : List (Option RowO)) (m : List (List (DV × DV))) (φ : CT → Bool) (l : List CT) (hl : l.length ≤ 1000000000) (hc : ∀ a ∈ l, HCall Tryz.prog J f (ctV a :: caps.map V.one) b r m (isH (.one (.d (.bool (φ a)))) b r m)) :
  HCall Tryz.prog J 66 ([.one (.d (.vec 4 (l.map CT.d))), .one (.clo f caps)]) (b) (r) (m) (isH (.one (.d (.bool (l.any φ)))) (b) (r) (m)) := by
 refine HCall.ofN tOk (fn := Tryz.f66) Tryz.func66 (by kernel_rfl) rfl (Nat.le_of_ble_eq_true rfl) (fun E => ?_)
 iterate 5 first|refine Yp rfl ?_|apply Y3|apply Y1
 refine S.hcallD rfl rfl rfl rfl (pc_IndexFunc_Cond f caps b r m φ l hl hc) ?_
 iterate 2 refine Yp rfl ?_
 apply Yn
 apply Yt
 exact ⟨_, rfl, LeG.of_eq (congrArg (fun x => V.one (C.d (D.bool x))) idxOf_ge), rfl, rfl, rfl⟩
end
section
open Go
open Go.RowKit
attribute [local irreducible] thenK blockK W
attribute [local irreducible] rangeB rangeR pathB nameB valueB parseB hasB hasR CT.ho holdK
def tellT (t : Tab) (q : L8) : L8 × Bool := (getL beqS [] t q, hasL beqS t q)
theorem ho_5r {f g : Tell} {c : CT} (h2 : (c.k == 2) = false) (h3 : (c.k == 3) = false) (h4 : (c.k == 4) = false) (h : (c.k == 5) = true) (hr : (rangeB c.v).2 = 0) : c.ho f g = (((f c.n).2 && (parseB (f c.n).1).2 == 0) && hasR (rangeB c.v).1 (parseB (f c.n).1).1) := by
 rw [ho_5 h2 h3 h4 h, hr]
 cases hq : (f c.n).2 with
 | false => rfl
 | true =>
  cases hp : ((parseB (f c.n).1).2 == 0) with
  | false => rfl
  | true =>
   show (hasB _ _) = (hasR _ _)
   have h0 : (parseB (f c.n).1).2 = 0 := by simpa using hp
   exact has_eq (rangeB_E c.v) (parse_check (s := (f c.n).1) (Prod.ext rfl h0))
structure TabB (t : Tab) : Prop where
 v : ∀ q, (getL beqS [] t q).length < 4294967000
theorem pc_ref1 (ft gt : Tab) (a : CT) (ha : HCall Tryz.prog J 21 [ctV a, .one (.map 0), .one (.map 1)] [] [] [tabD ft, tabD gt] (isH (.one (.d (.bool (a.ho (tellT ft) (tellT gt))))) [] [] [tabD ft, tabD gt])) :
  HCall Tryz.prog J 67 ([ctV a, .one (.ptr 0 0), .one (.ptr 1 0)]) ([[.map 0], [.map 1]]) ([]) ([tabD ft, tabD gt]) (isH (.one (.d (.bool (!a.ho (tellT ft) (tellT gt))))) ([[.map 0], [.map 1]]) ([]) ([tabD ft, tabD gt])) := by
 refine HCall.ofD tOk ⟨2, 0, 2⟩ (fn := Tryz.f67) Tryz.func67 (by kernel_rfl) rfl (Nat.le_of_ble_eq_true rfl) (fun E => ?_)
 iterate 7 first|refine Yp rfl ?_|refine S.box rfl rfl rfl rfl ?_|apply Y3|apply Y1
 refine S.hcallD rfl rfl rfl rfl (ha.fd [] [] [0, 1] rfl) ?_
 iterate 2 refine Yp rfl ?_
 apply Yn
 apply Yt
 exact ⟨_, rfl, rfl, LeG.refl _, rfl, rfl, rfl⟩
theorem pc_ref2 (ft gt : Tab) (a : CT) (ha : HCall Tryz.prog J 21 [ctV a, .one (.map 0), .one (.map 1)] [] [] [tabD ft, tabD gt] (isH (.one (.d (.bool (a.ho (tellT ft) (tellT gt))))) [] [] [tabD ft, tabD gt])) :
  HCall Tryz.prog J 68 ([ctV a, .one (.ptr 0 0), .one (.ptr 1 0)]) ([[.map 0], [.map 1]]) ([]) ([tabD ft, tabD gt]) (isH (.one (.d (.bool (a.ho (tellT ft) (tellT gt))))) ([[.map 0], [.map 1]]) ([]) ([tabD ft, tabD gt])) := by
 refine HCall.ofD tOk ⟨2, 0, 2⟩ (fn := Tryz.f68) Tryz.func68 (by kernel_rfl) rfl (Nat.le_of_ble_eq_true rfl) (fun E => ?_)
 iterate 7 first|refine Yp rfl ?_|refine S.box rfl rfl rfl rfl ?_|apply Y3|apply Y1
 refine S.hcallD rfl rfl rfl rfl (ha.fd [] [] [0, 1] rfl) ?_
 refine Yp rfl ?_
 apply Yn
 apply Yt
 exact ⟨_, rfl, rfl, LeG.refl _, rfl, rfl, rfl⟩
theorem pc_refs (ft gt : Tab) (hf : TabB ft) (hg : TabB gt) (c : CT) (hc : CtT c) (ih : ∀ a ∈ c.l, HCall Tryz.prog J 21 [ctV a, .one (.map 0), .one (.map 1)] [] [] [tabD ft, tabD gt] (isH (.one (.d (.bool (a.ho (tellT ft) (tellT gt))))) [] [] [tabD ft, tabD gt])) :
  HCall Tryz.prog J 21 ([ctV c, .one (.map 0), .one (.map 1)]) ([]) ([]) ([tabD ft, tabD gt]) (isH (.one (.d (.bool (c.ho (tellT ft) (tellT gt))))) ([]) ([]) ([tabD ft, tabD gt])) := by
 have hl := hc.ll
 have hv := hc.v
 have hfl := hf.v c.n
 have hpe := parse_e (getL beqS [] ft c.n)
 have hrl := rangeB_len c.v
 have pcR := pc_outref2_ReadRange c.v (by omega)
 rw [← range_eq] at pcR
 unfold ctV
 rw [ds_map]
 refine HCall.ofD tOk ⟨0, 0, 2⟩ (fn := Tryz.f21) Tryz.func21 (by kernel_rfl) rfl (Nat.le_of_ble_eq_true rfl) (fun E => ?_)
 iterate 16 first|refine Yp rfl ?_|refine S.box rfl rfl rfl rfl ?_|apply Yb|apply Y1|apply Yn|apply Ys
 refine W.cond rfl (fun c1=>?_) fun c1=>?_
 ·skip
  apply Y1
  iterate 3 refine Yp rfl ?_
  refine S.lookup tOk keyS (fD := fun v : List UInt8 => DV.one (.str v)) [] (ft) rfl rfl rfl rfl rfl rfl rfl rfl rfl rfl (show mapV true _ _ = V.tup [_, _] from rfl) ?_
  iterate 18 first|refine S.pickAnd tOk zOk rfl rfl tg ?_|refine Yp rfl ?_|refine Yg rfl rfl tg ?_|apply Yu|apply Yv|apply Yt|apply Y3|apply Yn
  exact ⟨_, rfl, rfl, LeG.of_force rfl (by first | (rw [ho_2 c1]; rfl) | (rw [ho_3 c1 c2]; rfl) | (rw [ho_4 c1 c2 c3]; rfl) | (rw [ho_5r c1 c2 c3 c4 hk5]; rfl) | (rw [ho_6 c5 h0]; done) | (rw [ho_7 c6]; done) | (rw [ho_8 c7]; done) | (rw [ho_0 c1 c2 c3 c4 c5 c6 c7]; rfl)), rfl, rfl, rfl⟩
 apply Y1
 iterate 2 refine Yp rfl ?_
 apply Yn
 refine W.cond rfl (fun c2=>?_) fun c2=>?_
 ·skip
  apply Y1
  iterate 3 refine Yp rfl ?_
  refine S.lookup tOk keyS (fD := fun v : List UInt8 => DV.one (.str v)) [] (gt) rfl rfl rfl rfl rfl rfl rfl rfl rfl rfl (show mapV true _ _ = V.tup [_, _] from rfl) ?_
  iterate 18 first|refine S.pickAnd tOk zOk rfl rfl tg ?_|refine Yp rfl ?_|refine Yg rfl rfl tg ?_|apply Yu|apply Yv|apply Yt|apply Y3|apply Yn
  exact ⟨_, rfl, rfl, LeG.of_force rfl (by first | (rw [ho_2 c1]; rfl) | (rw [ho_3 c1 c2]; rfl) | (rw [ho_4 c1 c2 c3]; rfl) | (rw [ho_5r c1 c2 c3 c4 hk5]; rfl) | (rw [ho_6 c5 h0]; done) | (rw [ho_7 c6]; done) | (rw [ho_8 c7]; done) | (rw [ho_0 c1 c2 c3 c4 c5 c6 c7]; rfl)), rfl, rfl, rfl⟩
 apply Y1
 iterate 2 refine Yp rfl ?_
 apply Yn
 refine W.cond rfl (fun c3=>?_) fun c3=>?_
 ·skip
  apply Y1
  iterate 3 refine Yp rfl ?_
  refine S.lookup tOk keyS (fD := fun v : List UInt8 => DV.one (.str v)) [] (gt) rfl rfl rfl rfl rfl rfl rfl rfl rfl rfl (show mapV true _ _ = V.tup [_, _] from rfl) ?_
  iterate 12 first|refine Yp rfl ?_|apply Yu|apply Yv|apply Yt|apply Y3|apply Yn
  exact ⟨_, rfl, rfl, LeG.of_force rfl (by first | (rw [ho_2 c1]; rfl) | (rw [ho_3 c1 c2]; rfl) | (rw [ho_4 c1 c2 c3]; rfl) | (rw [ho_5r c1 c2 c3 c4 hk5]; rfl) | (rw [ho_6 c5 h0]; done) | (rw [ho_7 c6]; done) | (rw [ho_8 c7]; done) | (rw [ho_0 c1 c2 c3 c4 c5 c6 c7]; rfl)), rfl, rfl, rfl⟩
 apply Y1
 iterate 2 refine Yp rfl ?_
 apply Yn
 refine W.cond rfl (fun c4=>?_) fun c4=>?_
 ·skip
  have hk5 := hc.ver (by simpa using c4)
  apply Y1
  iterate 3 refine Yp rfl ?_
  refine S.lookup tOk keyS (fD := fun v : List UInt8 => DV.one (.str v)) [] (ft) rfl rfl rfl rfl rfl rfl rfl rfl rfl rfl (show mapV true _ _ = V.tup [_, _] from rfl) ?_
  iterate 7 first|refine Yp rfl ?_|apply Y3
  refine S.call rfl rfl rfl rfl rfl (pc_outref2_ReadVersion (getL beqS [] ft c.n) (by omega)) ?_
  iterate 9 first|refine Yp rfl ?_|refine S.store tOk rfl rfl rfl rfl rfl rfl rfl rfl ?_|refine S.alloc tOk rfl rfl rfl rfl ?_|apply Y3
  refine S.call rfl rfl rfl rfl rfl (pcR) ?_
  iterate 15 first|refine S.pickAnd tOk zOk rfl rfl tg ?_|refine Yp rfl ?_|refine Yg rfl rfl tg ?_|refine S.store tOk rfl rfl rfl rfl rfl rfl rfl rfl ?_|refine S.alloc tOk rfl rfl rfl rfl ?_|apply Y3
  refine S.callG rfl rfl rfl rfl tg rfl rfl (fun _ => pc_outref2_HasOf (rangeB c.v).1 (by omega) (range_sp c.v) (parseB (getL beqS [] ft c.n)).1 (by omega)) ?_
  refine S.pickAnd tOk zOk rfl rfl tg ?_
  refine Yp rfl ?_
  apply Yn
  apply Yt
  apply Yv
  apply Yu
  exact ⟨_, rfl, rfl, LeG.of_force rfl (by first | (rw [ho_2 c1]; rfl) | (rw [ho_3 c1 c2]; rfl) | (rw [ho_4 c1 c2 c3]; rfl) | (rw [ho_5r c1 c2 c3 c4 hk5]; rfl) | (rw [ho_6 c5 h0]; done) | (rw [ho_7 c6]; done) | (rw [ho_8 c7]; done) | (rw [ho_0 c1 c2 c3 c4 c5 c6 c7]; rfl)), rfl, rfl, rfl⟩
 apply Y1
 iterate 2 refine Yp rfl ?_
 apply Yn
 refine W.cond rfl (fun c5=>?_) fun c5=>?_
 ·skip
  have hk6 := hc.not (by simpa using c5)
  have h0 : 0 < c.l.length := by omega
  apply Ys
  refine W.regionS 6 mixed rfl (by kernel_rfl) ?_
  refine AnyZ.eager 0 rfl (by kernel_rfl) (Eag.pure tOk zOk rfl (fun _ _ _ => rfl) rfl rfl) ?_
  refine AnyZ.three 1 4 5 (by kernel_rfl) rfl rfl rfl ?_ ?_ ?_
  ·skip
   refine OpZ.d ?_
   refine Ym rfl rfl ?_
   refine WD.nil ?_
   refine AnyZ.three 2 4 5 (by kernel_rfl) rfl rfl rfl ?_ ?_ ?_
   ·skip
    refine OpZ.d ?_
    refine D.pureE tOk zOk rfl rfl (row_ok (i := 0) h0) (getD_map_ct (i := 0) h0) rfl ?_
    refine WD.nil ?_
    refine AnyZ.three 3 4 5 (by kernel_rfl) rfl rfl rfl ?_ ?_ ?_
    ·skip
     refine OpZ.d ?_
     refine Ym rfl rfl ?_
     refine WD.nil ?_
     refine AnyZ.two 4 5 (by kernel_rfl) rfl rfl ?_ ?_
     ·skip
      refine OpZ.d ?_
      refine Ym rfl rfl ?_
      refine WD.nil ?_
      refine AnyZ.one 5 (by kernel_rfl) rfl ?_
      refine OpZ.d ?_
      refine Ym rfl rfl ?_
      refine WD.nil ?_
      refine AnyZ.nil (by kernel_rfl) ?_
      refine S.hcallD rfl rfl rfl rfl ((ih (c.l.getD 0 CT.z) (mem_ct h0)).fd [] [] [0, 1] rfl) ?_
      iterate 6 first|refine Yp rfl ?_|apply Yu|apply Yv|apply Yt|apply Yn
      exact ⟨_, rfl, rfl, LeG.of_force rfl (by first | (rw [ho_2 c1]; rfl) | (rw [ho_3 c1 c2]; rfl) | (rw [ho_4 c1 c2 c3]; rfl) | (rw [ho_5r c1 c2 c3 c4 hk5]; rfl) | (rw [ho_6 c5 h0]; done) | (rw [ho_7 c6]; done) | (rw [ho_8 c7]; done) | (rw [ho_0 c1 c2 c3 c4 c5 c6 c7]; rfl)), rfl, rfl, rfl⟩
     refine OpZ.d ?_
     refine Ym rfl rfl ?_
     refine WD.nil ?_
     refine AnyZ.one 4 (by kernel_rfl) rfl ?_
     refine OpZ.d ?_
     refine Ym rfl rfl ?_
     refine WD.nil ?_
     refine AnyZ.nil (by kernel_rfl) ?_
     refine S.hcallD rfl rfl rfl rfl ((ih (c.l.getD 0 CT.z) (mem_ct h0)).fd [] [] [0, 1] rfl) ?_
     iterate 6 first|refine Yp rfl ?_|apply Yu|apply Yv|apply Yt|apply Yn
     exact ⟨_, rfl, rfl, LeG.of_force rfl (by first | (rw [ho_2 c1]; rfl) | (rw [ho_3 c1 c2]; rfl) | (rw [ho_4 c1 c2 c3]; rfl) | (rw [ho_5r c1 c2 c3 c4 hk5]; rfl) | (rw [ho_6 c5 h0]; done) | (rw [ho_7 c6]; done) | (rw [ho_8 c7]; done) | (rw [ho_0 c1 c2 c3 c4 c5 c6 c7]; rfl)), rfl, rfl, rfl⟩
    ·skip
     refine OpZ.d ?_
     refine Ym rfl rfl ?_
     refine WD.nil ?_
     refine AnyZ.two 3 5 (by kernel_rfl) rfl rfl ?_ ?_
     ·skip
      refine OpZ.d ?_
      refine Ym rfl rfl ?_
      refine WD.nil ?_
      refine AnyZ.one 5 (by kernel_rfl) rfl ?_
      refine OpZ.d ?_
      refine Ym rfl rfl ?_
      refine WD.nil ?_
      refine AnyZ.nil (by kernel_rfl) ?_
      refine S.hcallD rfl rfl rfl rfl ((ih (c.l.getD 0 CT.z) (mem_ct h0)).fd [] [] [0, 1] rfl) ?_
      iterate 6 first|refine Yp rfl ?_|apply Yu|apply Yv|apply Yt|apply Yn
      exact ⟨_, rfl, rfl, LeG.of_force rfl (by first | (rw [ho_2 c1]; rfl) | (rw [ho_3 c1 c2]; rfl) | (rw [ho_4 c1 c2 c3]; rfl) | (rw [ho_5r c1 c2 c3 c4 hk5]; rfl) | (rw [ho_6 c5 h0]; done) | (rw [ho_7 c6]; done) | (rw [ho_8 c7]; done) | (rw [ho_0 c1 c2 c3 c4 c5 c6 c7]; rfl)), rfl, rfl, rfl⟩
     refine OpZ.d ?_
     refine Ym rfl rfl ?_
     refine WD.nil ?_
     refine AnyZ.one 3 (by kernel_rfl) rfl ?_
     refine OpZ.d ?_
     refine Ym rfl rfl ?_
     refine WD.nil ?_
     refine AnyZ.nil (by kernel_rfl) ?_
     refine S.hcallD rfl rfl rfl rfl ((ih (c.l.getD 0 CT.z) (mem_ct h0)).fd [] [] [0, 1] rfl) ?_
     iterate 6 first|refine Yp rfl ?_|apply Yu|apply Yv|apply Yt|apply Yn
     exact ⟨_, rfl, rfl, LeG.of_force rfl (by first | (rw [ho_2 c1]; rfl) | (rw [ho_3 c1 c2]; rfl) | (rw [ho_4 c1 c2 c3]; rfl) | (rw [ho_5r c1 c2 c3 c4 hk5]; rfl) | (rw [ho_6 c5 h0]; done) | (rw [ho_7 c6]; done) | (rw [ho_8 c7]; done) | (rw [ho_0 c1 c2 c3 c4 c5 c6 c7]; rfl)), rfl, rfl, rfl⟩
    refine OpZ.d ?_
    refine Ym rfl rfl ?_
    refine WD.nil ?_
    refine AnyZ.two 3 4 (by kernel_rfl) rfl rfl ?_ ?_
    ·skip
     refine OpZ.d ?_
     refine Ym rfl rfl ?_
     refine WD.nil ?_
     refine AnyZ.one 4 (by kernel_rfl) rfl ?_
     refine OpZ.d ?_
     refine Ym rfl rfl ?_
     refine WD.nil ?_
     refine AnyZ.nil (by kernel_rfl) ?_
     refine S.hcallD rfl rfl rfl rfl ((ih (c.l.getD 0 CT.z) (mem_ct h0)).fd [] [] [0, 1] rfl) ?_
     iterate 6 first|refine Yp rfl ?_|apply Yu|apply Yv|apply Yt|apply Yn
     exact ⟨_, rfl, rfl, LeG.of_force rfl (by first | (rw [ho_2 c1]; rfl) | (rw [ho_3 c1 c2]; rfl) | (rw [ho_4 c1 c2 c3]; rfl) | (rw [ho_5r c1 c2 c3 c4 hk5]; rfl) | (rw [ho_6 c5 h0]; done) | (rw [ho_7 c6]; done) | (rw [ho_8 c7]; done) | (rw [ho_0 c1 c2 c3 c4 c5 c6 c7]; rfl)), rfl, rfl, rfl⟩
    refine OpZ.d ?_
    refine Ym rfl rfl ?_
    refine WD.nil ?_
    refine AnyZ.one 3 (by kernel_rfl) rfl ?_
    refine OpZ.d ?_
    refine Ym rfl rfl ?_
    refine WD.nil ?_
    refine AnyZ.nil (by kernel_rfl) ?_
    refine S.hcallD rfl rfl rfl rfl ((ih (c.l.getD 0 CT.z) (mem_ct h0)).fd [] [] [0, 1] rfl) ?_
    iterate 6 first|refine Yp rfl ?_|apply Yu|apply Yv|apply Yt|apply Yn
    exact ⟨_, rfl, rfl, LeG.of_force rfl (by first | (rw [ho_2 c1]; rfl) | (rw [ho_3 c1 c2]; rfl) | (rw [ho_4 c1 c2 c3]; rfl) | (rw [ho_5r c1 c2 c3 c4 hk5]; rfl) | (rw [ho_6 c5 h0]; done) | (rw [ho_7 c6]; done) | (rw [ho_8 c7]; done) | (rw [ho_0 c1 c2 c3 c4 c5 c6 c7]; rfl)), rfl, rfl, rfl⟩
   ·skip
    refine OpZ.d ?_
    refine Ym rfl rfl ?_
    refine WD.nil ?_
    refine AnyZ.two 2 5 (by kernel_rfl) rfl rfl ?_ ?_
    ·skip
     refine OpZ.d ?_
     refine D.pureE tOk zOk rfl rfl (row_ok (i := 0) h0) (getD_map_ct (i := 0) h0) rfl ?_
     refine WD.nil ?_
     refine AnyZ.two 3 5 (by kernel_rfl) rfl rfl ?_ ?_
     ·skip
      refine OpZ.d ?_
      refine Ym rfl rfl ?_
      refine WD.nil ?_
      refine AnyZ.one 5 (by kernel_rfl) rfl ?_
      refine OpZ.d ?_
      refine Ym rfl rfl ?_
      refine WD.nil ?_
      refine AnyZ.nil (by kernel_rfl) ?_
      refine S.hcallD rfl rfl rfl rfl ((ih (c.l.getD 0 CT.z) (mem_ct h0)).fd [] [] [0, 1] rfl) ?_
      iterate 6 first|refine Yp rfl ?_|apply Yu|apply Yv|apply Yt|apply Yn
      exact ⟨_, rfl, rfl, LeG.of_force rfl (by first | (rw [ho_2 c1]; rfl) | (rw [ho_3 c1 c2]; rfl) | (rw [ho_4 c1 c2 c3]; rfl) | (rw [ho_5r c1 c2 c3 c4 hk5]; rfl) | (rw [ho_6 c5 h0]; done) | (rw [ho_7 c6]; done) | (rw [ho_8 c7]; done) | (rw [ho_0 c1 c2 c3 c4 c5 c6 c7]; rfl)), rfl, rfl, rfl⟩
     refine OpZ.d ?_
     refine Ym rfl rfl ?_
     refine WD.nil ?_
     refine AnyZ.one 3 (by kernel_rfl) rfl ?_
     refine OpZ.d ?_
     refine Ym rfl rfl ?_
     refine WD.nil ?_
     refine AnyZ.nil (by kernel_rfl) ?_
     refine S.hcallD rfl rfl rfl rfl ((ih (c.l.getD 0 CT.z) (mem_ct h0)).fd [] [] [0, 1] rfl) ?_
     iterate 6 first|refine Yp rfl ?_|apply Yu|apply Yv|apply Yt|apply Yn
     exact ⟨_, rfl, rfl, LeG.of_force rfl (by first | (rw [ho_2 c1]; rfl) | (rw [ho_3 c1 c2]; rfl) | (rw [ho_4 c1 c2 c3]; rfl) | (rw [ho_5r c1 c2 c3 c4 hk5]; rfl) | (rw [ho_6 c5 h0]; done) | (rw [ho_7 c6]; done) | (rw [ho_8 c7]; done) | (rw [ho_0 c1 c2 c3 c4 c5 c6 c7]; rfl)), rfl, rfl, rfl⟩
    refine OpZ.d ?_
    refine Ym rfl rfl ?_
    refine WD.nil ?_
    refine AnyZ.one 2 (by kernel_rfl) rfl ?_
    refine OpZ.d ?_
    refine D.pureE tOk zOk rfl rfl (row_ok (i := 0) h0) (getD_map_ct (i := 0) h0) rfl ?_
    refine WD.nil ?_
    refine AnyZ.one 3 (by kernel_rfl) rfl ?_
    refine OpZ.d ?_
    refine Ym rfl rfl ?_
    refine WD.nil ?_
    refine AnyZ.nil (by kernel_rfl) ?_
    refine S.hcallD rfl rfl rfl rfl ((ih (c.l.getD 0 CT.z) (mem_ct h0)).fd [] [] [0, 1] rfl) ?_
    iterate 6 first|refine Yp rfl ?_|apply Yu|apply Yv|apply Yt|apply Yn
    exact ⟨_, rfl, rfl, LeG.of_force rfl (by first | (rw [ho_2 c1]; rfl) | (rw [ho_3 c1 c2]; rfl) | (rw [ho_4 c1 c2 c3]; rfl) | (rw [ho_5r c1 c2 c3 c4 hk5]; rfl) | (rw [ho_6 c5 h0]; done) | (rw [ho_7 c6]; done) | (rw [ho_8 c7]; done) | (rw [ho_0 c1 c2 c3 c4 c5 c6 c7]; rfl)), rfl, rfl, rfl⟩
   refine OpZ.d ?_
   refine Ym rfl rfl ?_
   refine WD.nil ?_
   refine AnyZ.two 2 4 (by kernel_rfl) rfl rfl ?_ ?_
   ·skip
    refine OpZ.d ?_
    refine D.pureE tOk zOk rfl rfl (row_ok (i := 0) h0) (getD_map_ct (i := 0) h0) rfl ?_
    refine WD.nil ?_
    refine AnyZ.two 3 4 (by kernel_rfl) rfl rfl ?_ ?_
    ·skip
     refine OpZ.d ?_
     refine Ym rfl rfl ?_
     refine WD.nil ?_
     refine AnyZ.one 4 (by kernel_rfl) rfl ?_
     refine OpZ.d ?_
     refine Ym rfl rfl ?_
     refine WD.nil ?_
     refine AnyZ.nil (by kernel_rfl) ?_
     refine S.hcallD rfl rfl rfl rfl ((ih (c.l.getD 0 CT.z) (mem_ct h0)).fd [] [] [0, 1] rfl) ?_
     iterate 6 first|refine Yp rfl ?_|apply Yu|apply Yv|apply Yt|apply Yn
     exact ⟨_, rfl, rfl, LeG.of_force rfl (by first | (rw [ho_2 c1]; rfl) | (rw [ho_3 c1 c2]; rfl) | (rw [ho_4 c1 c2 c3]; rfl) | (rw [ho_5r c1 c2 c3 c4 hk5]; rfl) | (rw [ho_6 c5 h0]; done) | (rw [ho_7 c6]; done) | (rw [ho_8 c7]; done) | (rw [ho_0 c1 c2 c3 c4 c5 c6 c7]; rfl)), rfl, rfl, rfl⟩
    refine OpZ.d ?_
    refine Ym rfl rfl ?_
    refine WD.nil ?_
    refine AnyZ.one 3 (by kernel_rfl) rfl ?_
    refine OpZ.d ?_
    refine Ym rfl rfl ?_
    refine WD.nil ?_
    refine AnyZ.nil (by kernel_rfl) ?_
    refine S.hcallD rfl rfl rfl rfl ((ih (c.l.getD 0 CT.z) (mem_ct h0)).fd [] [] [0, 1] rfl) ?_
    iterate 6 first|refine Yp rfl ?_|apply Yu|apply Yv|apply Yt|apply Yn
    exact ⟨_, rfl, rfl, LeG.of_force rfl (by first | (rw [ho_2 c1]; rfl) | (rw [ho_3 c1 c2]; rfl) | (rw [ho_4 c1 c2 c3]; rfl) | (rw [ho_5r c1 c2 c3 c4 hk5]; rfl) | (rw [ho_6 c5 h0]; done) | (rw [ho_7 c6]; done) | (rw [ho_8 c7]; done) | (rw [ho_0 c1 c2 c3 c4 c5 c6 c7]; rfl)), rfl, rfl, rfl⟩
   refine OpZ.d ?_
   refine Ym rfl rfl ?_
   refine WD.nil ?_
   refine AnyZ.one 2 (by kernel_rfl) rfl ?_
   refine OpZ.d ?_
   refine D.pureE tOk zOk rfl rfl (row_ok (i := 0) h0) (getD_map_ct (i := 0) h0) rfl ?_
   refine WD.nil ?_
   refine AnyZ.one 3 (by kernel_rfl) rfl ?_
   refine OpZ.d ?_
   refine Ym rfl rfl ?_
   refine WD.nil ?_
   refine AnyZ.nil (by kernel_rfl) ?_
   refine S.hcallD rfl rfl rfl rfl ((ih (c.l.getD 0 CT.z) (mem_ct h0)).fd [] [] [0, 1] rfl) ?_
   iterate 6 first|refine Yp rfl ?_|apply Yu|apply Yv|apply Yt|apply Yn
   exact ⟨_, rfl, rfl, LeG.of_force rfl (by first | (rw [ho_2 c1]; rfl) | (rw [ho_3 c1 c2]; rfl) | (rw [ho_4 c1 c2 c3]; rfl) | (rw [ho_5r c1 c2 c3 c4 hk5]; rfl) | (rw [ho_6 c5 h0]; done) | (rw [ho_7 c6]; done) | (rw [ho_8 c7]; done) | (rw [ho_0 c1 c2 c3 c4 c5 c6 c7]; rfl)), rfl, rfl, rfl⟩
  ·skip
   refine OpZ.d ?_
   refine Ym rfl rfl ?_
   refine WD.nil ?_
   refine AnyZ.two 1 5 (by kernel_rfl) rfl rfl ?_ ?_
   ·skip
    refine OpZ.d ?_
    refine Ym rfl rfl ?_
    refine WD.nil ?_
    refine AnyZ.two 2 5 (by kernel_rfl) rfl rfl ?_ ?_
    ·skip
     refine OpZ.d ?_
     refine D.pureE tOk zOk rfl rfl (row_ok (i := 0) h0) (getD_map_ct (i := 0) h0) rfl ?_
     refine WD.nil ?_
     refine AnyZ.two 3 5 (by kernel_rfl) rfl rfl ?_ ?_
     ·skip
      refine OpZ.d ?_
      refine Ym rfl rfl ?_
      refine WD.nil ?_
      refine AnyZ.one 5 (by kernel_rfl) rfl ?_
      refine OpZ.d ?_
      refine Ym rfl rfl ?_
      refine WD.nil ?_
      refine AnyZ.nil (by kernel_rfl) ?_
      refine S.hcallD rfl rfl rfl rfl ((ih (c.l.getD 0 CT.z) (mem_ct h0)).fd [] [] [0, 1] rfl) ?_
      iterate 6 first|refine Yp rfl ?_|apply Yu|apply Yv|apply Yt|apply Yn
      exact ⟨_, rfl, rfl, LeG.of_force rfl (by first | (rw [ho_2 c1]; rfl) | (rw [ho_3 c1 c2]; rfl) | (rw [ho_4 c1 c2 c3]; rfl) | (rw [ho_5r c1 c2 c3 c4 hk5]; rfl) | (rw [ho_6 c5 h0]; done) | (rw [ho_7 c6]; done) | (rw [ho_8 c7]; done) | (rw [ho_0 c1 c2 c3 c4 c5 c6 c7]; rfl)), rfl, rfl, rfl⟩
     refine OpZ.d ?_
     refine Ym rfl rfl ?_
     refine WD.nil ?_
     refine AnyZ.one 3 (by kernel_rfl) rfl ?_
     refine OpZ.d ?_
     refine Ym rfl rfl ?_
     refine WD.nil ?_
     refine AnyZ.nil (by kernel_rfl) ?_
     refine S.hcallD rfl rfl rfl rfl ((ih (c.l.getD 0 CT.z) (mem_ct h0)).fd [] [] [0, 1] rfl) ?_
     iterate 6 first|refine Yp rfl ?_|apply Yu|apply Yv|apply Yt|apply Yn
     exact ⟨_, rfl, rfl, LeG.of_force rfl (by first | (rw [ho_2 c1]; rfl) | (rw [ho_3 c1 c2]; rfl) | (rw [ho_4 c1 c2 c3]; rfl) | (rw [ho_5r c1 c2 c3 c4 hk5]; rfl) | (rw [ho_6 c5 h0]; done) | (rw [ho_7 c6]; done) | (rw [ho_8 c7]; done) | (rw [ho_0 c1 c2 c3 c4 c5 c6 c7]; rfl)), rfl, rfl, rfl⟩
    refine OpZ.d ?_
    refine Ym rfl rfl ?_
    refine WD.nil ?_
    refine AnyZ.one 2 (by kernel_rfl) rfl ?_
    refine OpZ.d ?_
    refine D.pureE tOk zOk rfl rfl (row_ok (i := 0) h0) (getD_map_ct (i := 0) h0) rfl ?_
    refine WD.nil ?_
    refine AnyZ.one 3 (by kernel_rfl) rfl ?_
    refine OpZ.d ?_
    refine Ym rfl rfl ?_
    refine WD.nil ?_
    refine AnyZ.nil (by kernel_rfl) ?_
    refine S.hcallD rfl rfl rfl rfl ((ih (c.l.getD 0 CT.z) (mem_ct h0)).fd [] [] [0, 1] rfl) ?_
    iterate 6 first|refine Yp rfl ?_|apply Yu|apply Yv|apply Yt|apply Yn
    exact ⟨_, rfl, rfl, LeG.of_force rfl (by first | (rw [ho_2 c1]; rfl) | (rw [ho_3 c1 c2]; rfl) | (rw [ho_4 c1 c2 c3]; rfl) | (rw [ho_5r c1 c2 c3 c4 hk5]; rfl) | (rw [ho_6 c5 h0]; done) | (rw [ho_7 c6]; done) | (rw [ho_8 c7]; done) | (rw [ho_0 c1 c2 c3 c4 c5 c6 c7]; rfl)), rfl, rfl, rfl⟩
   refine OpZ.d ?_
   refine Ym rfl rfl ?_
   refine WD.nil ?_
   refine AnyZ.one 1 (by kernel_rfl) rfl ?_
   refine OpZ.d ?_
   refine Ym rfl rfl ?_
   refine WD.nil ?_
   refine AnyZ.one 2 (by kernel_rfl) rfl ?_
   refine OpZ.d ?_
   refine D.pureE tOk zOk rfl rfl (row_ok (i := 0) h0) (getD_map_ct (i := 0) h0) rfl ?_
   refine WD.nil ?_
   refine AnyZ.one 3 (by kernel_rfl) rfl ?_
   refine OpZ.d ?_
   refine Ym rfl rfl ?_
   refine WD.nil ?_
   refine AnyZ.nil (by kernel_rfl) ?_
   refine S.hcallD rfl rfl rfl rfl ((ih (c.l.getD 0 CT.z) (mem_ct h0)).fd [] [] [0, 1] rfl) ?_
   iterate 6 first|refine Yp rfl ?_|apply Yu|apply Yv|apply Yt|apply Yn
   exact ⟨_, rfl, rfl, LeG.of_force rfl (by first | (rw [ho_2 c1]; rfl) | (rw [ho_3 c1 c2]; rfl) | (rw [ho_4 c1 c2 c3]; rfl) | (rw [ho_5r c1 c2 c3 c4 hk5]; rfl) | (rw [ho_6 c5 h0]; done) | (rw [ho_7 c6]; done) | (rw [ho_8 c7]; done) | (rw [ho_0 c1 c2 c3 c4 c5 c6 c7]; rfl)), rfl, rfl, rfl⟩
  refine OpZ.d ?_
  refine Ym rfl rfl ?_
  refine WD.nil ?_
  refine AnyZ.two 1 4 (by kernel_rfl) rfl rfl ?_ ?_
  ·skip
   refine OpZ.d ?_
   refine Ym rfl rfl ?_
   refine WD.nil ?_
   refine AnyZ.two 2 4 (by kernel_rfl) rfl rfl ?_ ?_
   ·skip
    refine OpZ.d ?_
    refine D.pureE tOk zOk rfl rfl (row_ok (i := 0) h0) (getD_map_ct (i := 0) h0) rfl ?_
    refine WD.nil ?_
    refine AnyZ.two 3 4 (by kernel_rfl) rfl rfl ?_ ?_
    ·skip
     refine OpZ.d ?_
     refine Ym rfl rfl ?_
     refine WD.nil ?_
     refine AnyZ.one 4 (by kernel_rfl) rfl ?_
     refine OpZ.d ?_
     refine Ym rfl rfl ?_
     refine WD.nil ?_
     refine AnyZ.nil (by kernel_rfl) ?_
     refine S.hcallD rfl rfl rfl rfl ((ih (c.l.getD 0 CT.z) (mem_ct h0)).fd [] [] [0, 1] rfl) ?_
     iterate 6 first|refine Yp rfl ?_|apply Yu|apply Yv|apply Yt|apply Yn
     exact ⟨_, rfl, rfl, LeG.of_force rfl (by first | (rw [ho_2 c1]; rfl) | (rw [ho_3 c1 c2]; rfl) | (rw [ho_4 c1 c2 c3]; rfl) | (rw [ho_5r c1 c2 c3 c4 hk5]; rfl) | (rw [ho_6 c5 h0]; done) | (rw [ho_7 c6]; done) | (rw [ho_8 c7]; done) | (rw [ho_0 c1 c2 c3 c4 c5 c6 c7]; rfl)), rfl, rfl, rfl⟩
    refine OpZ.d ?_
    refine Ym rfl rfl ?_
    refine WD.nil ?_
    refine AnyZ.one 3 (by kernel_rfl) rfl ?_
    refine OpZ.d ?_
    refine Ym rfl rfl ?_
    refine WD.nil ?_
    refine AnyZ.nil (by kernel_rfl) ?_
    refine S.hcallD rfl rfl rfl rfl ((ih (c.l.getD 0 CT.z) (mem_ct h0)).fd [] [] [0, 1] rfl) ?_
    iterate 6 first|refine Yp rfl ?_|apply Yu|apply Yv|apply Yt|apply Yn
    exact ⟨_, rfl, rfl, LeG.of_force rfl (by first | (rw [ho_2 c1]; rfl) | (rw [ho_3 c1 c2]; rfl) | (rw [ho_4 c1 c2 c3]; rfl) | (rw [ho_5r c1 c2 c3 c4 hk5]; rfl) | (rw [ho_6 c5 h0]; done) | (rw [ho_7 c6]; done) | (rw [ho_8 c7]; done) | (rw [ho_0 c1 c2 c3 c4 c5 c6 c7]; rfl)), rfl, rfl, rfl⟩
   refine OpZ.d ?_
   refine Ym rfl rfl ?_
   refine WD.nil ?_
   refine AnyZ.one 2 (by kernel_rfl) rfl ?_
   refine OpZ.d ?_
   refine D.pureE tOk zOk rfl rfl (row_ok (i := 0) h0) (getD_map_ct (i := 0) h0) rfl ?_
   refine WD.nil ?_
   refine AnyZ.one 3 (by kernel_rfl) rfl ?_
   refine OpZ.d ?_
   refine Ym rfl rfl ?_
   refine WD.nil ?_
   refine AnyZ.nil (by kernel_rfl) ?_
   refine S.hcallD rfl rfl rfl rfl ((ih (c.l.getD 0 CT.z) (mem_ct h0)).fd [] [] [0, 1] rfl) ?_
   iterate 6 first|refine Yp rfl ?_|apply Yu|apply Yv|apply Yt|apply Yn
   exact ⟨_, rfl, rfl, LeG.of_force rfl (by first | (rw [ho_2 c1]; rfl) | (rw [ho_3 c1 c2]; rfl) | (rw [ho_4 c1 c2 c3]; rfl) | (rw [ho_5r c1 c2 c3 c4 hk5]; rfl) | (rw [ho_6 c5 h0]; done) | (rw [ho_7 c6]; done) | (rw [ho_8 c7]; done) | (rw [ho_0 c1 c2 c3 c4 c5 c6 c7]; rfl)), rfl, rfl, rfl⟩
  refine OpZ.d ?_
  refine Ym rfl rfl ?_
  refine WD.nil ?_
  refine AnyZ.one 1 (by kernel_rfl) rfl ?_
  refine OpZ.d ?_
  refine Ym rfl rfl ?_
  refine WD.nil ?_
  refine AnyZ.one 2 (by kernel_rfl) rfl ?_
  refine OpZ.d ?_
  refine D.pureE tOk zOk rfl rfl (row_ok (i := 0) h0) (getD_map_ct (i := 0) h0) rfl ?_
  refine WD.nil ?_
  refine AnyZ.one 3 (by kernel_rfl) rfl ?_
  refine OpZ.d ?_
  refine Ym rfl rfl ?_
  refine WD.nil ?_
  refine AnyZ.nil (by kernel_rfl) ?_
  refine S.hcallD rfl rfl rfl rfl ((ih (c.l.getD 0 CT.z) (mem_ct h0)).fd [] [] [0, 1] rfl) ?_
  iterate 6 first|refine Yp rfl ?_|apply Yu|apply Yv|apply Yt|apply Yn
  exact ⟨_, rfl, rfl, LeG.of_force rfl (by first | (rw [ho_2 c1]; rfl) | (rw [ho_3 c1 c2]; rfl) | (rw [ho_4 c1 c2 c3]; rfl) | (rw [ho_5r c1 c2 c3 c4 hk5]; rfl) | (rw [ho_6 c5 h0]; done) | (rw [ho_7 c6]; done) | (rw [ho_8 c7]; done) | (rw [ho_0 c1 c2 c3 c4 c5 c6 c7]; rfl)), rfl, rfl, rfl⟩
 apply Y1
 iterate 2 refine Yp rfl ?_
 apply Yn
 refine W.cond rfl (fun c6=>?_) fun c6=>?_
 ·skip
  apply Y1
  iterate 2 refine Yp rfl ?_
  refine S.makeFunc rfl rfl rfl ?_
  refine S.hcallD rfl rfl rfl rfl (pc_ContainsFunc_Cond 67 [.ptr 1 0, .ptr 2 0] _ _ _ (fun a => !a.ho (tellT ft) (tellT gt)) c.l (by omega) (fun a ha => (pc_ref1 ft gt a (ih a ha)).fd [1, 2] [] [0, 1] rfl)) ?_
  iterate 6 first|refine Yp rfl ?_|apply Yu|apply Yv|apply Yt|apply Yn
  exact ⟨_, rfl, rfl, LeG.of_force rfl (by first | (rw [ho_2 c1]; rfl) | (rw [ho_3 c1 c2]; rfl) | (rw [ho_4 c1 c2 c3]; rfl) | (rw [ho_5r c1 c2 c3 c4 hk5]; rfl) | (rw [ho_6 c5 h0]; done) | (rw [ho_7 c6]; done) | (rw [ho_8 c7]; done) | (rw [ho_0 c1 c2 c3 c4 c5 c6 c7]; rfl)), rfl, rfl, rfl⟩
 apply Y1
 iterate 2 refine Yp rfl ?_
 apply Yn
 refine W.cond rfl (fun c7=>?_) fun c7=>?_
 ·skip
  apply Y1
  iterate 2 refine Yp rfl ?_
  refine S.makeFunc rfl rfl rfl ?_
  refine S.hcallD rfl rfl rfl rfl (pc_ContainsFunc_Cond 68 [.ptr 1 0, .ptr 2 0] _ _ _ (fun a => a.ho (tellT ft) (tellT gt)) c.l (by omega) (fun a ha => (pc_ref2 ft gt a (ih a ha)).fd [1, 2] [] [0, 1] rfl)) ?_
  refine Yp rfl ?_
  apply Yn
  apply Yt
  apply Yv
  apply Yu
  exact ⟨_, rfl, rfl, LeG.of_force rfl (by first | (rw [ho_2 c1]; rfl) | (rw [ho_3 c1 c2]; rfl) | (rw [ho_4 c1 c2 c3]; rfl) | (rw [ho_5r c1 c2 c3 c4 hk5]; rfl) | (rw [ho_6 c5 h0]; done) | (rw [ho_7 c6]; done) | (rw [ho_8 c7]; done) | (rw [ho_0 c1 c2 c3 c4 c5 c6 c7]; rfl)), rfl, rfl, rfl⟩
 apply Yk
 apply Yw
 apply Y3
 refine Yp rfl ?_
 apply Yn
 apply Yt
 exact ⟨_, rfl, rfl, LeG.of_force rfl (by first | (rw [ho_2 c1]; rfl) | (rw [ho_3 c1 c2]; rfl) | (rw [ho_4 c1 c2 c3]; rfl) | (rw [ho_5r c1 c2 c3 c4 hk5]; rfl) | (rw [ho_6 c5 h0]; done) | (rw [ho_7 c6]; done) | (rw [ho_8 c7]; done) | (rw [ho_0 c1 c2 c3 c4 c5 c6 c7]; rfl)), rfl, rfl, rfl⟩
theorem pc_ref (ft gt : Tab) (hf : TabB ft) (hg : TabB gt) : ∀ (n : Nat) (c : CT), c.w ≤ n → CtT c → HCall Tryz.prog J 21 [ctV c, .one (.map 0), .one (.map 1)] [] [] [tabD ft, tabD gt] (isH (.one (.d (.bool (c.ho (tellT ft) (tellT gt))))) [] [] [tabD ft, tabD gt])
 | 0, c, h => by have := c.pos; omega
 | n + 1, c, h => fun hc => pc_refs ft gt hf hg c hc (fun a ha => pc_ref ft gt hf hg n a (by have := CT.sz ha; omega) (hc.l a ha))
end
end Go.Proofs.YtfcdmcdhhikhaaaGreatDoor
/-
  DERIVED: THE SHELF's CONTRACTS AT THIS DUMP, IN PLAIN WORDS (tools/lay-plain.mjs out of 'TryzShelfK.lean', which tools/lay-shelf.mjs wrote): THE SAME DECLARATIONS UNDER THE SAME NAMES: 'import', 'namespace', 'open', 'def', 'theorem' AND NOTHING ELSE: no command of the shelf's: FOR A HAND-IN. Each laying: the table of numbers ('.._ren') and one theorem, a field a fact of the dump's own or the kernel's comparison; each contract: ONE APPLICATION.
-/
namespace Go.Proofs
open Go.Shelf
def Tryz.sort57_ren : Go.Shelf.Ren := ⟨fun | 6 => 57 | 8 => 98 | 9 => 97 | 19 => 148 | 20 => 149 | 21 => 139 | 22 => 140 | 23 => 141 | 24 => 142 | 25 => 143 | 26 => 144 | 27 => 145 | 28 => 146 | 29 => 147 | 36 => 183 | 31 => 184 | 32 => 185 | 37 => 186 | 38 => 187 | 39 => 188 | 41 => 209 | n => n, fun | 27 => 39 | 29 => 9 | 3 => 3 | 32 => 132 | 26 => 39 | 0 => 0 | 44 => 180 | 46 => 182 | 4 => 4 | 36 => 174 | 35 => 173 | 41 => 116 | 5 => 5 | 9 => 9 | 53 => 222 | 57 => 226 | 63 => 235 | 64 => 236 | n => n, fun | n => n⟩
theorem Tryz.sort57 : Go.Proofs.SlLaysM.n6 Tryz.prog Tryz.sort57_ren := {
 mixed := by kernel_rfl
 f6 := ⟨Tryz.f57.name, by decide, Tryz.func57.trans (congrArg some (by kernel_rfl))⟩
 f8 := Tryz.func98.trans (congrArg some (by kernel_rfl))
 f9 := ⟨Tryz.f97.name, by decide, Tryz.func97.trans (congrArg some (by kernel_rfl))⟩
 f19 := Tryz.func148.trans (congrArg some (by kernel_rfl))
 f20 := Tryz.func149.trans (congrArg some (by kernel_rfl))
 f21 := ⟨Tryz.f139.name, by decide, Tryz.func139.trans (congrArg some (by kernel_rfl))⟩
 f22 := ⟨Tryz.f140.name, by decide, Tryz.func140.trans (congrArg some (by kernel_rfl))⟩
 f23 := ⟨Tryz.f141.name, by decide, Tryz.func141.trans (congrArg some (by kernel_rfl))⟩
 f24 := ⟨Tryz.f142.name, by decide, Tryz.func142.trans (congrArg some (by kernel_rfl))⟩
 f25 := ⟨Tryz.f143.name, by decide, Tryz.func143.trans (congrArg some (by kernel_rfl))⟩
 f26 := ⟨Tryz.f144.name, by decide, Tryz.func144.trans (congrArg some (by kernel_rfl))⟩
 f27 := ⟨Tryz.f145.name, by decide, Tryz.func145.trans (congrArg some (by kernel_rfl))⟩
 f28 := ⟨Tryz.f146.name, by decide, Tryz.func146.trans (congrArg some (by kernel_rfl))⟩
 f29 := ⟨Tryz.f147.name, by decide, Tryz.func147.trans (congrArg some (by kernel_rfl))⟩
 f31 := Tryz.func184.trans (congrArg some (by kernel_rfl))
 f32 := Tryz.func185.trans (congrArg some (by kernel_rfl))
 f36 := ⟨Tryz.f183.name, by decide, Tryz.func183.trans (congrArg some (by kernel_rfl))⟩
 f37 := ⟨Tryz.f186.name, by decide, Tryz.func186.trans (congrArg some (by kernel_rfl))⟩
 f38 := ⟨Tryz.f187.name, by decide, Tryz.func187.trans (congrArg some (by kernel_rfl))⟩
 f39 := ⟨Tryz.f188.name, by decide, Tryz.func188.trans (congrArg some (by kernel_rfl))⟩
 f41 := ⟨Tryz.f209.name, by decide, Tryz.func209.trans (congrArg some (by kernel_rfl))⟩
 t0 := Tryz.underlying0
 a0 := Tryz.isAgg0
 z0 := Tryz.sizeOf0
 v0 := Tryz.zeroValue0
 t3 := Tryz.underlying3
 a3 := Tryz.isAgg3
 z3 := Tryz.sizeOf3
 v3 := Tryz.zeroValue3
 t4 := Tryz.underlying4
 a4 := Tryz.isAgg4
 z4 := Tryz.sizeOf4
 v4 := Tryz.zeroValue4
 t5 := Tryz.underlying5
 a5 := Tryz.isAgg5
 z5 := Tryz.sizeOf5
 v5 := Tryz.zeroValue5
 t9 := Tryz.underlying9
 a9 := Tryz.isAgg9
 z9 := Tryz.sizeOf9
 v9 := Tryz.zeroValue9
 t26 := Tryz.underlying39
 a26 := Tryz.isAgg39
 z26 := Tryz.sizeOf39
 v26 := Tryz.zeroValue39
 t27 := Tryz.underlying39
 a27 := Tryz.isAgg39
 z27 := Tryz.sizeOf39
 v27 := Tryz.zeroValue39
 t29 := Tryz.underlying9
 a29 := Tryz.isAgg9
 z29 := Tryz.sizeOf9
 v29 := Tryz.zeroValue9
 t32 := Tryz.underlying132
 a32 := Tryz.isAgg132
 z32 := Tryz.sizeOf132
 v32 := Tryz.zeroValue132
 t35 := Tryz.underlying173
 a35 := Tryz.isAgg173
 z35 := Tryz.sizeOf173
 v35 := Tryz.zeroValue173
 t36 := Tryz.underlying174
 a36 := Tryz.isAgg174
 z36 := Tryz.sizeOf174
 v36 := Tryz.zeroValue174
 t41 := Tryz.underlying116
 a41 := Tryz.isAgg116
 z41 := Tryz.sizeOf116
 v41 := Tryz.zeroValue116
 t44 := Tryz.underlying180
 a44 := Tryz.isAgg180
 z44 := Tryz.sizeOf180
 v44 := Tryz.zeroValue180
 t46 := Tryz.underlying182
 a46 := Tryz.isAgg182
 z46 := Tryz.sizeOf182
 v46 := Tryz.zeroValue182
 t53 := Tryz.underlying222
 a53 := Tryz.isAgg222
 z53 := Tryz.sizeOf222
 v53 := Tryz.zeroValue222
 t57 := Tryz.underlying226
 a57 := Tryz.isAgg226
 z57 := Tryz.sizeOf226
 v57 := Tryz.zeroValue226
 t63 := Tryz.underlying235
 a63 := Tryz.isAgg235
 z63 := Tryz.sizeOf235
 v63 := Tryz.zeroValue235
 t64 := Tryz.underlying236
 a64 := Tryz.isAgg236
 z64 := Tryz.sizeOf236
 v64 := Tryz.zeroValue236 }
def Tryz.sorted43_ren : Go.Shelf.Ren := ⟨fun | 6 => 43 | 8 => 83 | 9 => 57 | 11 => 133 | 13 => 98 | 12 => 97 | 23 => 148 | 24 => 149 | 14 => 139 | 15 => 140 | 16 => 141 | 17 => 142 | 18 => 143 | 19 => 144 | 20 => 145 | 21 => 146 | 22 => 147 | 25 => 183 | 26 => 184 | 27 => 185 | 28 => 186 | 29 => 187 | 30 => 188 | 31 => 209 | n => n, fun | 26 => 9 | 28 => 80 | 24 => 39 | 0 => 0 | 3 => 3 | 37 => 132 | 48 => 180 | 50 => 182 | 4 => 4 | 40 => 174 | 39 => 173 | 45 => 116 | 5 => 5 | 9 => 9 | 51 => 222 | 55 => 226 | 57 => 235 | 58 => 236 | 33 => 71 | n => n, fun | n => n⟩
theorem Tryz.sorted43 : Go.Proofs.SlLaysZ.n6 Tryz.prog Tryz.sorted43_ren := {
 mixed := by kernel_rfl
 f6 := ⟨Tryz.f43.name, by decide, Tryz.func43.trans (congrArg some (by kernel_rfl))⟩
 f8 := ⟨Tryz.f83.name, by decide, Tryz.func83.trans (congrArg some (by kernel_rfl))⟩
 f11 := ⟨Tryz.f133.name, by decide, Tryz.func133.trans (congrArg some (by kernel_rfl))⟩
 t0 := Tryz.underlying0
 a0 := Tryz.isAgg0
 z0 := Tryz.sizeOf0
 v0 := Tryz.zeroValue0
 t24 := Tryz.underlying39
 a24 := Tryz.isAgg39
 z24 := Tryz.sizeOf39
 v24 := Tryz.zeroValue39
 t26 := Tryz.underlying9
 a26 := Tryz.isAgg9
 z26 := Tryz.sizeOf9
 v26 := Tryz.zeroValue9
 t28 := Tryz.underlying80
 a28 := Tryz.isAgg80
 z28 := Tryz.sizeOf80
 v28 := Tryz.zeroValue80
 i26 := by kernel_rfl }
def Tryz.keys44_ren : Go.Shelf.Ren := ⟨fun | 7 => 44 | 10 => 84 | n => n, fun | 23 => 70 | 26 => 9 | 3 => 4 | 28 => 80 | 0 => 0 | 27 => 79 | 33 => 71 | 4 => 4 | n => n, fun | n => n⟩
theorem Tryz.keys44 : Go.Proofs.SlLaysZ.n7 Tryz.prog Tryz.keys44_ren := {
 mixed := by kernel_rfl
 f7 := ⟨Tryz.f44.name, by decide, Tryz.func44.trans (congrArg some (by kernel_rfl))⟩
 f10 := ⟨Tryz.f84.name, by decide, Tryz.func84.trans (congrArg some (by kernel_rfl))⟩
 t0 := Tryz.underlying0
 a0 := Tryz.isAgg0
 z0 := Tryz.sizeOf0
 v0 := Tryz.zeroValue0
 t4 := Tryz.underlying4
 a4 := Tryz.isAgg4
 z4 := Tryz.sizeOf4
 v4 := Tryz.zeroValue4
 t23 := Tryz.underlying70
 a23 := Tryz.isAgg70
 z23 := Tryz.sizeOf70
 v23 := Tryz.zeroValue70
 t26 := Tryz.underlying9
 a26 := Tryz.isAgg9
 z26 := Tryz.sizeOf9
 v26 := Tryz.zeroValue9
 t27 := Tryz.underlying79
 a27 := Tryz.isAgg79
 z27 := Tryz.sizeOf79
 v27 := Tryz.zeroValue79
 t28 := Tryz.underlying80
 a28 := Tryz.isAgg80
 z28 := Tryz.sizeOf80
 v28 := Tryz.zeroValue80
 t33 := Tryz.underlying71
 a33 := Tryz.isAgg71
 z33 := Tryz.sizeOf71
 v33 := Tryz.zeroValue71 }
end Go.Proofs
namespace Go.Proofs.YtfcdmcdhhikhaaaGreatDoor
section
open Go Go.RowKit Go.Maps Go.Sort Go.Shelf
theorem sorts_in (m : Nat) : AnyZ.SortsIn Tryz.prog Tryz.sorted43_ren Fence.wide m :=
 ⟨fun blk off cap ss W hH hblk hsz => callsIn_wide.2 (AnyM.slices_Sort_string Tryz.sort57 blk off cap ss W hH hblk hsz), fun p cap W => callsIn_wide.2 (AnyM.slices_Sort_string_none Tryz.sort57 p cap W)⟩
set_option maxHeartbeats 1000000 in
theorem so_44 : SortedOk Tryz.prog 43 84 9 := fun b nn Bm D0 R w hB hc hown hmax hbytes => by
 have hseq : SeqGives Fence.wide 2 Tryz.prog 84 #[.pointer (some ⟨Bm, 0, none⟩)] encStr (fun ss => ss.Perm (strKeys D0)) (Maps.size D0) w :=
  AnyZ.keys_gives (ρ := Tryz.keys44_ren) { Tryz.keys44 with } Fence.wide _ trivial rfl (by omega) Bm b nn D0 _ hB hc hown
 refine (callsIn_wide.1 (AnyZ.sorted_in Tryz.sorted43 Fence.wide 5 trivial trivial trivial trivial rfl (by omega) (sorts_in _) (enters_of Tryz.func57 (by kernel_rfl) rfl) 84 #[.pointer (some ⟨Bm, 0, none⟩)] trivial (enters_of Tryz.func84 (by kernel_rfl) rfl) _ _ hmax hbytes _ hseq)).mono ?_
 rintro e w' ⟨v, ss, he, hp, hrow, _, hb⟩
 exact ⟨v, ss, he, hp, hrow, hb⟩
theorem pc_Sorted_44 {β : Type} {fD : β → DV} (tab : List (List UInt8 × β)) (hn : tab.length * 16 ≤ 140737488355328) (hl : ∀ x ∈ tab, x.1.length ≤ maxLen) (hd : (tab.map (·.1)).Nodup) :
  HCall Tryz.prog J 43 [.one (.clo 84 [.ptr 0 0])] [[.map 0]] [] [mapOf D.str fD tab] (isH (.one (.d (strsD (sortS (tab.map (·.1)))))) [[.map 0]] [] [mapOf D.str fD tab]) :=
 HCall.sorted so_44 (by kernel_rfl) Tryz.func43 (by kernel_rfl) (by kernel_rfl) tab hn hl hd
end
section
open Go
abbrev SetT := List (L8 × Bool)
def setD (s : SetT) : List (DV × DV) := mapOf D.str (fun v : Bool => DV.one (.bool v)) s
def useK (x : Int) (n : L8) : Option L8 := if x == 2 || x == 5 then some ([102, 97, 99, 116, 32] ++ n) else if x == 3 || x == 4 then some ([115, 101, 116, 116, 105, 110, 103, 32] ++ n) else none
def addS (s : SetT) : Option L8 → SetT
 | some q => setL beqS s q true
 | none => s
def nmS (c : CT) (lv : Int) (s : SetT) : Bool × SetT := (true, addS s (useK c.k c.n))
section
variable {x : Int} {n : L8}
theorem use_2 (h : (x == 2) = true) : useK x n = some ([102, 97, 99, 116, 32] ++ n) := by unfold useK; rw [h]; rfl
theorem use_5 (h : (x == 5) = true) : useK x n = some ([102, 97, 99, 116, 32] ++ n) := by unfold useK; rw [h, Bool.or_true]; rfl
theorem use_3 (h2 : (x == 2) = false) (h5 : (x == 5) = false) (h : (x == 3) = true) : useK x n = some ([115, 101, 116, 116, 105, 110, 103, 32] ++ n) := by unfold useK; rw [h2, h5, h]; rfl
theorem use_4 (h2 : (x == 2) = false) (h5 : (x == 5) = false) (h : (x == 4) = true) : useK x n = some ([115, 101, 116, 116, 105, 110, 103, 32] ++ n) := by unfold useK; rw [h2, h5, h, Bool.or_true]; rfl
theorem use_0 (h2 : (x == 2) = false) (h5 : (x == 5) = false) (h3 : (x == 3) = false) (h4 : (x == 4) = false) : useK x n = none := by unfold useK; rw [h2, h5, h3, h4]; rfl
end
end
section
open Go
open Go.RowKit
attribute [local irreducible] thenK blockK W
attribute [local irreducible] rangeB pathB nameB valueB visit visits useK
theorem pc_nm1 (x : Int) (n v : L8) (xs : List (List D)) (hn : n.length < 4294967000) (lv : Int) (s : SetT) :
  HCall Tryz.prog J 42 ([.agg [.d (.int .i64 x), .d (.str n), .d (.str v), .d (.vec 4 xs)], .one (.d (.int .i64 lv)), .one (.ptr 0 0)]) ([[.map 0]]) ([]) ([setD s]) (isH (.one (.d (.bool true))) ([[.map 0]]) ([]) ([setD (addS s (useK x n))])) := by
 refine HCall.ofD tOk ⟨1, 0, 1⟩ (fn := Tryz.f42) Tryz.func42 (by kernel_rfl) rfl (Nat.le_of_ble_eq_true rfl) (fun E => ?_)
 iterate 15 first|refine Yp rfl ?_|apply Yb|refine S.box rfl rfl rfl rfl ?_|apply Y1|apply Yn|apply Ys
 refine W.cond rfl (fun c1=>?_) fun c1=>?_
 ·skip
  apply Yk
  apply Yn
  refine W.cond rfl (fun c2=>?_) fun c2=>?_
  ·skip
   apply Yr
   iterate 3 refine Yp rfl ?_
   refine YP rfl (cat_ok (by simp [-List.getD_eq_getElem?_getD]; omega)) rfl ?_
   refine S.mapUpdate tOk keyS (fD := fun v : Bool => DV.one (.bool v)) true s rfl rfl rfl rfl rfl rfl rfl rfl (show _ = [setD (setL beqS s ([102, 97, 99, 116, 32] ++ n) true)] from rfl) ?_
   apply Yw
   apply Y3
   refine Yp rfl ?_
   apply Yn
   apply Yt
   exact ⟨_, rfl, rfl, LeG.refl _, rfl, rfl, (by rw [use_2 c1]; rfl)⟩
  exact absurd (c1.symm.trans c2) (by decide)
 apply Yr
 iterate 2 refine Yp rfl ?_
 apply Yn
 refine W.cond rfl (fun c3=>?_) fun c3=>?_
 ·skip
  apply Yr
  iterate 3 refine Yp rfl ?_
  refine YP rfl (cat_ok (by simp [-List.getD_eq_getElem?_getD]; omega)) rfl ?_
  refine S.mapUpdate tOk keyS (fD := fun v : Bool => DV.one (.bool v)) true s rfl rfl rfl rfl rfl rfl rfl rfl (show _ = [setD (setL beqS s ([102, 97, 99, 116, 32] ++ n) true)] from rfl) ?_
  apply Yw
  apply Y3
  refine Yp rfl ?_
  apply Yn
  apply Yt
  exact ⟨_, rfl, rfl, LeG.refl _, rfl, rfl, (by rw [use_5 c3]; rfl)⟩
 apply Ys
 apply Y1
 iterate 2 refine Yp rfl ?_
 apply Yn
 refine W.cond rfl (fun c4=>?_) fun c4=>?_
 ·skip
  apply Yk
  apply Yn
  refine W.cond rfl (fun c5=>?_) fun c5=>?_
  ·skip
   apply Yr
   iterate 3 refine Yp rfl ?_
   refine YP rfl (cat_ok (by simp [-List.getD_eq_getElem?_getD]; omega)) rfl ?_
   refine S.mapUpdate tOk keyS (fD := fun v : Bool => DV.one (.bool v)) true s rfl rfl rfl rfl rfl rfl rfl rfl (show _ = [setD (setL beqS s ([115, 101, 116, 116, 105, 110, 103, 32] ++ n) true)] from rfl) ?_
   apply Yw
   apply Y3
   refine Yp rfl ?_
   apply Yn
   apply Yt
   exact ⟨_, rfl, rfl, LeG.refl _, rfl, rfl, (by rw [use_3 c1 c3 c4]; rfl)⟩
  exact absurd (c4.symm.trans c5) (by decide)
 apply Yr
 iterate 2 refine Yp rfl ?_
 apply Yn
 refine W.cond rfl (fun c6=>?_) fun c6=>?_
 ·skip
  apply Yr
  iterate 3 refine Yp rfl ?_
  refine YP rfl (cat_ok (by simp [-List.getD_eq_getElem?_getD]; omega)) rfl ?_
  refine S.mapUpdate tOk keyS (fD := fun v : Bool => DV.one (.bool v)) true s rfl rfl rfl rfl rfl rfl rfl rfl (show _ = [setD (setL beqS s ([115, 101, 116, 116, 105, 110, 103, 32] ++ n) true)] from rfl) ?_
  apply Yw
  apply Y3
  refine Yp rfl ?_
  apply Yn
  apply Yt
  exact ⟨_, rfl, rfl, LeG.refl _, rfl, rfl, (by rw [use_4 c1 c3 c6]; rfl)⟩
 apply Yk
 apply Yw
 apply Y3
 refine Yp rfl ?_
 apply Yn
 apply Yt
 exact ⟨_, rfl, rfl, LeG.refl _, rfl, rfl, (by rw [use_0 c1 c3 c4 c6]; rfl)⟩
theorem pc_walk3s (c : CT) (lv : Int) (s : SetT) (hc : CtBig c) (ih : ∀ a ∈ c.l, ∀ (lv : Int) (s : SetT), CtBig a → HCall Tryz.prog J 41 [ctV a, .one (.d (.int .i64 lv)), .one (.clo 42 [.ptr 0 0])] [[.map 0]] [] [setD s] (isH (.one (.d (.bool (visit nmS a lv s).1))) [[.map 0]] [] [setD (visit nmS a lv s).2])) :
  HCall Tryz.prog J 41 ([ctV c, .one (.d (.int .i64 lv)), .one (.clo 42 [.ptr 0 0])]) ([[.map 0]]) ([]) ([setD s]) (isH (.one (.d (.bool (visit nmS c lv s).1))) ([[.map 0]]) ([]) ([setD (visit nmS c lv s).2])) := by
 have hf : (nmS c lv s).1 = true := rfl
 have hbig := hc.ll
 unfold ctV
 rw [ds_map]
 have hlen : ((c.l.map CT.d).length : Int) = (c.l.length : Int) := by rw [List.length_map]
 refine HCall.ofD tOk ⟨1, 0, 1⟩ (fn := Tryz.f41) Tryz.func41 (by kernel_rfl) rfl (Nat.le_of_ble_eq_true rfl) (fun E => ?_)
 iterate 9 first|refine Yp rfl ?_|refine S.box rfl rfl rfl rfl ?_|apply Y1|apply Ys|apply Yn
 refine S.hcallD rfl rfl rfl rfl ((pc_nm1 c.k c.n c.v _ hc.n lv s).fd [0] [] [0] rfl) ?_
 refine Yp rfl ?_
 apply Yn
 refine W.condF rfl rfl ?_
 iterate 9 first|refine Yp rfl ?_|apply Yk|apply Y1|apply Yn|apply Ys
 apply Yb
 refine W.loop (fun k st => ∃ i : Nat, ∃ s1 : SetT, i ≤ c.l.length ∧ visits (fun a => visit nmS a (up1 lv)) (c.l.take i) (nmS c lv s).2 = (true, s1) ∧ k = c.l.length - i ∧ ∃ t b2 r2 m2, st = ⟨t, [[.map 0], [.d (.int .i64 c.k), .d (.str c.n), .d (.str c.v), .d (.vec 4 (c.l.map CT.d))]] ++ b2, [] ++ r2, [setD s1] ++ m2⟩ ∧ holdsL t [(1, .one (.d (.int .i64 lv))), (2, .one (.clo 42 [.ptr 0 0])), (15, .one (.d (.vec 4 (c.l.map CT.d)))), (16, .one (.d (.int .i64 ((c.l.map CT.d).length : Int)))), (17, .one (.d (.int .i64 (i : Int))))]) (c.l.length) ⟨0, _, Nat.zero_le _, visits_nil, rfl, _, _, _, _, rfl, rfl, rfl, rfl, rfl, rfl, trivial⟩ ?_
 rintro k0 _ ⟨i, s1, f0_0, f0_1, rfl, t0, bb0, rr0, mm0, rfl, hh0⟩
 refine W.keepR _ _ _ _ _ _ _ hh0 rfl ?_
 apply Y1
 refine Yp rfl ?_
 apply Yn
 apply Ys
 refine W.cond rfl (fun c2=>?_) fun c2=>?_
 ·skip
  have hi := row_lt c2
  apply Yk
  apply Yn
  apply Ys
  apply Yb
  apply Y1
  refine YE rfl (row_ok hi) (getD_map_ct hi) rfl ?_
  iterate 8 first|refine Yp rfl ?_|refine S.store tOk rfl rfl rfl rfl rfl rfl rfl rfl ?_|refine S.alloc tOk rfl rfl rfl rfl ?_|apply Y3
  refine S.hcallD rfl rfl rfl rfl ((ih (c.l.getD i CT.z) (mem_ct hi) (up1 lv) s1 (hc.l _ (mem_ct hi))).fd [0] [] [0] rfl) ?_
  refine Yp rfl ?_
  apply Yn
  refine W.cond rfl (fun c3=>?_) fun c3=>?_
  ·skip
   have hv := visit_stop hf hi f0_1 (by simpa using c3)
   iterate 9 first|apply Yu|apply Yv|apply Yt|refine Yp rfl ?_|apply Y1|apply Yn
   exact ⟨_, rfl, rfl, (by rw [hv]; exact LeG.refl _), rfl, rfl, (by rw [hv]; rfl)⟩
  apply Yk
  apply Yw
  apply Y4
  iterate 2 refine Yp rfl ?_
  refine loop_n (c.l.length - (i + 1)) (by omega) ⟨i + 1, _, hi, visit_next hi f0_1 (by simpa using c3), rfl, _, _, _, _, rfl, rfl, rfl, rfl, rfl, inc_i64 (by omega), trivial⟩
 have hi := row_ge c2
 have hv := visit_all hf hi f0_1
 apply Yq
 apply Ye
 apply Ye
 apply Yx
 apply Y3
 refine Yp rfl ?_
 apply Yn
 apply Yt
 exact ⟨_, rfl, rfl, (by rw [hv]; exact LeG.refl _), rfl, rfl, (by rw [hv]; rfl)⟩
theorem pc_walk3 : ∀ (n : Nat) (c : CT), c.w ≤ n → ∀ (lv : Int) (s : SetT), CtBig c → HCall Tryz.prog J 41 [ctV c, .one (.d (.int .i64 lv)), .one (.clo 42 [.ptr 0 0])] [[.map 0]] [] [setD s] (isH (.one (.d (.bool (visit nmS c lv s).1))) [[.map 0]] [] [setD (visit nmS c lv s).2])
 | 0, c, h => by have := c.pos; omega
 | n + 1, c, h => fun lv s hc => pc_walk3s c lv s hc (fun a ha => pc_walk3 n a (by have := CT.sz ha; omega))
def namesP (c : CT) : List L8 × Int := if checkP c != 0 then ([], checkP c) else (sortS ((visit nmS c 0 []).2.map (·.1)), 0)
theorem np_1 {c : CT} (h : (checkP c != 0) = true) : namesP c = ([], checkP c) := if_pos h
theorem np_2 {c : CT} (h : (checkP c != 0) = false) : namesP c = (sortS ((visit nmS c 0 []).2.map (·.1)), 0) := if_neg (Bool.eq_false_iff.1 h)
structure NmOk (c : CT) : Prop where
 n : (visit nmS c 0 []).2.length * 16 ≤ 140737488355328
 l : ∀ x ∈ (visit nmS c 0 []).2, x.1.length ≤ maxLen
 d : ((visit nmS c 0 []).2.map (·.1)).Nodup
theorem pc_keysB (es : List (DV × DV)) :
  HCall Tryz.prog J 44 ([.one (.map 0)]) ([]) ([]) ([es]) (isH (.one (.clo 84 [.ptr 0 0])) ([[.map 0]]) ([]) ([es])) := by
 refine HCall.ofD tOk ⟨1, 0, 1⟩ (fn := Tryz.f44) Tryz.func44 (by kernel_rfl) rfl (Nat.le_of_ble_eq_true rfl) (fun E => ?_)
 apply Y1
 refine S.box rfl rfl rfl rfl ?_
 refine Yp rfl ?_
 apply Y3
 refine S.makeFunc rfl rfl rfl ?_
 refine Yp rfl ?_
 apply Yn
 apply Yt
 exact ⟨_, rfl, rfl, LeG.refl _, rfl, rfl, rfl⟩
theorem pc_ver_Names (c : CT) (hc : CtBig c) (hk : NmOk c) :
  PureCall Tryz.prog J 12 [ctV c] (.tup [.one (.d (strsD (namesP c).1)), .one (.d (.int .i64 (namesP c).2))]) := by
 refine PureCall.of_body tOk (fn := Tryz.f12) Tryz.func12 (by kernel_rfl) rfl (Nat.le_of_ble_eq_true rfl) (fun E => ?_)
 iterate 8 first|refine Yp rfl ?_|refine S.box rfl rfl rfl rfl ?_|apply Y1|apply Ys|apply Yn
 refine S.call rfl rfl rfl rfl rfl (pc_ver_CheckCond c hc) ?_
 iterate 5 first|refine Yp rfl ?_|apply Y3|apply Yn
 refine W.cond rfl (fun c1=>?_) fun c1=>?_
 ·skip
  iterate 7 first|refine Yp rfl ?_|apply Yu|apply Yt|apply Y1|apply Yn
  exact ⟨_, rfl, rfl, (by rw [np_1 c1]; exact LeV.tup2 (LeV.nil 1) (LeV.of_force rfl rfl))⟩
 apply Yk
 apply Y3
 refine S.makeMap rfl ?_
 refine S.alloc tOk rfl rfl rfl rfl ?_
 refine S.store tOk rfl rfl rfl rfl rfl rfl rfl rfl ?_
 apply Y3
 refine Yp rfl ?_
 refine S.makeFunc rfl rfl rfl ?_
 refine S.hcallD rfl rfl rfl rfl ((pc_walk3 _ c (Nat.le_refl _) 0 [] hc).fd [1] [] [0] rfl) ?_
 apply Y3
 refine Yp rfl ?_
 refine S.hcallD rfl rfl rfl rfl ((pc_keysB (setD (visit nmS c 0 []).2)).fd [] [] [0] rfl) ?_
 refine S.hcallD rfl rfl rfl rfl ((pc_Sorted_44 (visit nmS c 0 []).2 hk.n hk.l hk.d).fd [2] [] [0] rfl) ?_
 iterate 2 refine Yp rfl ?_
 apply Yn
 apply Yt
 exact Yz rfl rfl rfl (by rw [np_2 c1]; rfl)
end
section
open Go
open Go.RowKit
attribute [local irreducible] thenK blockK W
attribute [local irreducible] rangeB pathB nameB valueB visit visits checkP
end
section
open Go
inductive CtSm : CT → Prop where
 | mk (k : Int) (n v : L8) (l : List CT) (h1 : n.length ≤ 2000000) (h2 : v.length ≤ 2000000) (h4 : l.length ≤ 2000000) (h3 : ∀ a ∈ l, CtSm a) : CtSm (.mk k n v l)
theorem CtSm.big : ∀ {c : CT}, CtSm c → CtBig c := fun {c} h => by
 induction h with
 | mk k n v l h1 h2 h4 h3 ih => exact .mk k n v l (by omega) (by omega) (fun a ha => ih a ha) (by omega)
theorem runs_cc2 : ∀ (L : List (CT × Int)), (runs cc2 L 0).2 = 0 → ∀ p ∈ L, p.1.part = 0
  | [], _ => fun p hp => by cases hp
  | (c, lv) :: L, h => by
    have h1 : runs cc2 ((c, lv) :: L) 0 = if (c.part == 0) = true then runs cc2 L c.part else (false, c.part) := rfl
    rw [h1] at h
    by_cases hc : c.part = 0
    · rw [if_pos (by simpa using hc), hc] at h
      intro p hp
      rcases List.mem_cons.1 hp with rfl | hp
      · exact hc
      · exact runs_cc2 L h p hp
    · rw [if_neg (by simpa using hc)] at h
      exact absurd h hc
theorem pts_sub : ∀ {l : List CT} {a : CT} {lv : Int}, a ∈ l → ∀ p ∈ a.pt lv, p ∈ CT.pts l lv
  | c :: l, a, lv, h => fun p hp => by
    show p ∈ c.pt lv ++ CT.pts l lv
    rcases List.mem_cons.1 h with rfl | h
    · exact List.mem_append_left _ hp
    · exact List.mem_append_right _ (pts_sub h p hp)
theorem part_6 {c : CT} (h : c.part = 0) (hk : c.k = 6) : c.l.length = 1 := by
 unfold CT.part partP at h
 rw [hk] at h
 by_cases hl : c.l.length = 1
 ·skip
  exact hl
 ·skip
  exfalso
  have e : ((6 : Int) == 6 && ((c.l.length : Int) != 1)) = true := by simp; omega
  rw [if_neg (by decide), if_pos (by rw [e, Bool.or_true])] at h
  cases h
theorem part_5 {c : CT} (h : c.part = 0) (hk : c.k = 5) : (rangeB c.v).2 = 0 := by
  unfold CT.part partP at h
  rw [hk] at h
  rw [if_neg (by decide)] at h
  split at h
  · exact absurd h (by decide)
  · rw [if_neg (by decide), if_neg (show ¬ (((5 : Int) == 3 || (5 : Int) == 4) = true) by decide)] at h
    cases hn : nameB c.n with
    | false => rw [hn, if_pos (by decide)] at h; exact absurd h (by decide)
    | true =>
      rw [hn, if_neg (by decide)] at h
      cases hv : valueB c.v with
      | false => rw [hv, if_pos (by decide)] at h; exact absurd h (by decide)
      | true => rw [hv, if_neg (by decide), if_pos (by decide)] at h; exact h
theorem ctT_of : ∀ (n : Nat) (c : CT) (lv : Int), c.w ≤ n → CtSm c → (∀ p ∈ c.pt lv, p.1.part = 0) → CtT c
  | 0, c, lv, h, _, _ => by have := c.pos; omega
  | n + 1, c, lv, h, hs, hp => by
    have hc : c.part = 0 := hp (c, lv) (by rw [pt_eq]; simp)
    have hl : ∀ a ∈ c.l, CtT a := fun a ha => ctT_of n a (up1 lv) (by have := CT.sz ha; omega) (by cases hs with | mk k n v l h1 h2 h4 h3 => exact h3 a ha)
      (fun p hpa => hp p (by rw [pt_eq]; exact List.mem_cons_of_mem _ (pts_sub ha p hpa)))
    have h6 := part_6 hc
    have h5 := part_5 hc
    cases hs with | mk k n v l h1 h2 h4 h3 => exact .mk k n v l h1 h2 h4 h6 h5 hl
theorem check_parts {c : CT} (h : checkP c = 0) : ∀ p ∈ c.pt 0, p.1.part = 0 := by
 have h2 : (visit cc2 c 0 0).2 = 0 := by
  unfold checkP at h
  split at h
  ·skip
   cases h
  ·skip
   split at h
   ·skip
    cases h
   ·skip
    exact h
 rw [visit_runs] at h2
 exact runs_cc2 _ h2
theorem check_T {c : CT} (hs : CtSm c) (h : checkP c = 0) : CtT c := ctT_of _ c 0 (Nat.le_refl _) hs (check_parts h)
end
section
open Go Go.RowKit
section
variable {J : Inv} {k0 : Lens} {E : Env J k0} {P : Program} {n : Nat} {t : Nat → V} {b : List (List C)} {r : List (Option RowO)} {m : List (List (DV × DV))} {ops : Array Oper} {l : List Oper}
  {K : St → Prop} {i : Nat} {ty : TypeId} {pos : String} {after : Array Edge}
theorem W.freezeQ {c : Code} {KK : Ex → St → Prop} {ri : Nat} {q : RowO} (ks : List Nat) (hq : r[ri]? = some (some q)) {kk : Nat} {xs' : List (List D)} (hk : ∀ k ∈ ks, t k = .one (.row ri q.ver 0 kk)) (hxs : q.xs.take kk = xs')
    (h : W E P n c KK ⟨updL t ks (.one (.d (.vec q.sz xs'))), b, r.set ri none, m⟩) : W E P n c KK ⟨t, b, r, m⟩ := by
  subst hxs
  have hr : ri < r.length := (List.getElem?_eq_some_iff.1 hq).1
  have hlive : ∀ x, (⟨updL t ks (.one (.d (.vec q.sz (q.xs.take kk)))), b, r.set ri none, m⟩ : St).live x → (⟨t, b, r, m⟩ : St).live x ∧ x ≠ .r ri := fun x hx => by
    cases x with
    | b l => exact ⟨hx, by simp⟩
    | m l => exact ⟨hx, by simp⟩
    | r l =>
      obtain ⟨o, ho, hal⟩ := hx
      have ho : (r.set ri none)[l]? = some (some o) := ho
      by_cases e : ri = l
      · subst e; simp [List.getElem?_set, hr] at ho
      · exact ⟨⟨o, by simpa [List.getElem?_set, e] using ho, hal⟩, fun h => e (by injection h with h; exact h.symm)⟩
  refine h.weaken fun g a w rel => ?_
  have ho : (⟨t, b, r, m⟩ : St).r[ri]? = some (some q) := hq
  have hrl : q.al = true → (⟨t, b, r, m⟩ : St).live (.r ri) := fun h => ⟨q, hq, h⟩
  have ext : Ext g (⟨t, b, r, m⟩ : St).sh w ⟨fun x => g.im x ∨ (q.al = true ∧ x = g.at_ (.r ri)), g.at_, g.off, g.cap⟩ (⟨updL t ks (.one (.d (.vec q.sz (q.xs.take kk)))), b, r.set ri none, m⟩ : St).sh w := by
    refine ⟨fun _ h => .inl h, fun _ _ => rfl, Nat.le_refl _, Nat.le_refl _, by simp [St.sh], fun _ _ => rfl, fun _ _ => rfl, fun k al ver sz' len hk' hh => ?_⟩
    by_cases e : ri = k
    · subst e; simp [St.sh, List.getElem?_set, hr] at hh
    · exact ⟨al, ver, sz', len, by simpa [St.sh, List.getElem?_set, e] using hh, Nat.le_refl _, fun _ => ⟨rfl, rfl, Nat.le_refl _, rfl, rfl, rfl⟩⟩
  refine ⟨⟨fun x => g.im x ∨ (q.al = true ∧ x = g.at_ (.r ri)), g.at_, g.off, g.cap⟩, rel.below, rel.ext.trans ext, fun x hx => ?_, fun x hx => ?_, fun x hx => rel.own x (hlive x hx).1, ⟨fun x hx => rel.heap.lt x (hlive x hx).1, fun x hx => ?_, fun x y hx hy => rel.heap.inj x y (hlive x hx).1 (hlive y hy).1, fun k cs hk' => ?_, fun k o hk' => ?_, fun k es hk' => ?_⟩, rel.size, rel.defers, fun j hj => ?_⟩
  · rcases hx with h | ⟨h1, h2⟩
    · exact rel.imlt x h
    · rw [h2]; exact rel.heap.lt _ (hrl h1)
  · rcases hx with h | ⟨h1, h2⟩
    · exact rel.imold x h
    · rw [h2]; exact .inr (rel.own _ (hrl h1))
  · rintro (h | ⟨h1, h2⟩)
    · exact rel.heap.new x (hlive x hx).1 h
    · exact (hlive x hx).2 (rel.heap.inj x _ (hlive x hx).1 (hrl h1) h2)
  · obtain ⟨vs, ty, h1, h2, h3⟩ := rel.heap.box k cs hk'
    exact ⟨vs, ty, h1, h2, fun j c v hc hv => (h3 j c v hc hv).mono ext⟩
  · have hk' : (r.set ri none)[k]? = some (some o) := hk'
    by_cases e : ri = k
    · subst e; simp [List.getElem?_set, hr] at hk'
    · have h1 := rel.heap.row k o (by simpa [List.getElem?_set, e] using hk')
      by_cases hal : o.al = true
      · rw [if_pos hal] at h1 ⊢
        obtain ⟨vs, t', q1, q2, q3, q4, q5, q6⟩ := h1
        exact ⟨vs, t', q1, q2, q3, q4, q5, fun i j x d v p1 p2 p3 => (q6 i j x d v p1 p2 p3).mono ext.im ext.same⟩
      · rw [if_neg hal] at h1 ⊢; exact h1
  · obtain ⟨arr, clock, h1, h2, h3⟩ := rel.heap.map k es hk'
    exact ⟨arr, clock, h1, h2, fun i x e hx he => ⟨(h3 i x e hx he).1.mono ext, (h3 i x e hx he).2.mono ext⟩⟩
  · rcases updL_or t (.one (.d (.vec q.sz (q.xs.take kk)))) ks j with ⟨h1, h2⟩ | h1
    · have hup : (⟨updL t ks (.one (.d (.vec q.sz (q.xs.take kk)))), b, r.set ri none, m⟩ : St).t j = .one (.d (.vec q.sz (q.xs.take kk))) := h1
      rw [hup]
      have hv := rel.tmps j hj
      have e1 : (⟨t, b, r, m⟩ : St).t j = .one (.row ri q.ver 0 kk) := hk j h2
      rw [e1] at hv
      exact .one _ _ (.d _ _ (row_RDp rel ho hv))
    · have hup : (⟨updL t ks (.one (.d (.vec q.sz (q.xs.take kk)))), b, r.set ri none, m⟩ : St).t j = t j := h1
      rw [hup]
      exact (rel.tmps j hj).mono ext
structure Sort1Ok (P : Program) (J : Inv) (f : FuncId) (k : Nat) {α : Type} (enc : α → List Value) (srt : List α → List α) : Prop where
 enter : ∃ fn, P.funcs[f]? = some fn ∧ (fn.name == "runtime.NumGoroutine") = false ∧ fn.body.isNone = false
 len : ∀ xs, (srt xs).length = xs.length
 run : ∀ (xs : List α) (blk cap : Nat) (vs : Array Value) (tt : TypeId) (w : World), J.I w → J.N ≤ blk → w.heap[blk]? = some (.cells vs tt (0, 0)) → (∀ (i j : Nat) (x : α) (v : Value), xs[i]? = some x → (enc x)[j]? = some v → vs[i * k + j]? = some v) →
  xs.length * k ≤ vs.size → xs.length < 4611686018427387904 → xs ≠ [] →
  Calls P f #[.slice (some ⟨blk, 0, none⟩) xs.length cap] w fun e w' => e = .returned (.tuple #[]) ∧ w'.os = w.os ∧ w'.tape = w.tape ∧ w'.output = w.output ∧ w.heap.size ≤ w'.heap.size ∧
   (∀ q, q < w.heap.size → q ≠ blk → w'.heap[q]? = w.heap[q]?) ∧ ∃ vs', w'.heap[blk]? = some (.cells vs' tt (0, 0)) ∧ vs'.size = vs.size ∧
   (∀ (i j : Nat) (x : α) (v : Value), (srt xs)[i]? = some x → (enc x)[j]? = some v → vs'[i * k + j]? = some v)
 none : ∀ (p : Option Addr) (cap : Nat) (w : World), Calls P f #[.slice p 0 cap] w fun e w' => e = .returned (.tuple #[]) ∧ w' = w
theorem S.sortOwn {dst : Option Nat} {fo : Operand} {args : Array Operand} {ats : Array TypeId} {u : V} {f : FuncId} {e : TypeId} {ri ver k : Nat} {al : Bool} {α : Type} {enc : α → List Value} {fD : α → List D} {srt : List α → List α} (ys : List α)
  (hu : opd n ⟨t, b, r, m⟩ fo = (true, u)) (hc : calleeV u = some (f, [])) (ha : allOpdL n ⟨t, b, r, m⟩ args.toList = (true, [.one (.row ri ver 0 (ys.map fD).length)])) (so : Sort1Ok P J f k enc srt)
  (hr : r[ri]? = some (some ⟨al, ver, k, e, ys.map fD⟩)) (hk : ∀ x, (fD x).length = k) (hv : ∀ x, (fD x).map valD = (enc x).map some) (h63 : ys.length < 4611686018427387904) {r' : List (Option RowO)} (hr' : r.set ri (some ⟨al, ver, k, e, (srt ys).map fD⟩) = r')
  (h : WL E P n ops l K ⟨updO t dst .junk, b, r', m⟩) : WL E P n ops (⟨dst, .call ⟨.value fo, args, ats⟩, ty, pos, after, none⟩ :: l) K ⟨t, b, r, m⟩ := by
 subst hr'
 intro gh a w rel next Qx hn
 obtain ⟨o, ho⟩ : ∃ o : Oper, o = ⟨dst, .call ⟨.value fo, args, ats⟩, ty, pos, after, none⟩ := ⟨_, rfl⟩
 rw [← ho]
 have hg : o.guard = none := by rw [ho]
 have hop : o.op = .call { callee := .value fo, args, argTypes := ats } := by rw [ho]
 have hdst : o.dst = dst := by rw [ho]
 have hw : Region.wanted o (yielded ops a.tmps) = true := by simp [Region.wanted, hg]
 rw [if_pos hw]
 obtain ⟨fn, hf, h1, h2⟩ := so.enter
 obtain ⟨vs, hl, hx, hrun⟩ := call_run rel hop hu hc hf h1 h2
 obtain ⟨hal, hav⟩ := allOpdL_ok rel _ _ _ ha rfl
 have hvs : vs = [] := List.length_eq_zero_iff.1 (by simpa using hl)
 subst hvs
 have hlt : ri < r.length := (List.getElem?_eq_some_iff.1 hr).1
 unfold Oper.wp
 rw [hrun]
 have fin : ∀ (g' : Gh) (w' : World), Rel E n g' ⟨t, b, r.set ri (some ⟨al, ver, k, e, (srt ys).map fD⟩), m⟩ a w' → next (a.put o.dst (.tuple #[])) w' := fun g' w' rel' => by
  rw [hdst]
  have hp := rel'.put_same dst (u := .junk) (v := .tuple #[]) (.junk _)
  cases dst <;> exact hn _ _ _ w' h hp
 match hq : args.toList.map a.eval with
 | [x] =>
  rw [hq] at hav
  have hx1 := hav 0 _ x rfl rfl
  cases hx1 with | one _ _ hx1 => cases hx1 with | row _ _ _ _ _ p1 p2 p3 =>
  obtain ⟨_, p3⟩ := p3 _ _ _ _ (rows_get (s := ⟨t, b, r, m⟩) hr)
  obtain ⟨_, p3⟩ := p3 rfl
  have hrow := rel.heap.row ri _ hr
  show Calls P f _ w _
  cases al with
  | false =>
   rw [if_neg (by simp)] at hrow p3
   have p4 : x = .slice none 0 0 := p3
   clear p3
   subst p4
   have hys : ys = [] := by simpa using hrow
   subst hys
   refine (so.none none 0 w).mono ?_
   rintro _ w' ⟨rfl, rfl⟩
   have hs0 : srt [] = [] := List.length_eq_zero_iff.1 (so.len [])
   refine fin gh _ ?_
   rw [hs0]
   have : r.set ri (some ⟨false, ver, k, e, ([] : List α).map fD⟩) = r := by
    apply List.ext_getElem?
    intro q
    rw [List.getElem?_set]
    split
    ·skip
     rename_i hq; subst hq; first | rw [hr] | rw [if_pos hlt, hr]
    ·skip
     rfl
   rw [this]; exact rel
  | true =>
   rw [if_pos rfl] at hrow p3
   obtain ⟨vs, tt, q1, ⟨q2, q3, q4, q5⟩, q6, q7, _, q8⟩ := hrow
   simp only at q2 q3 q4 q5 q6 q7 q8
   rw [q4] at p3 q8 q2
   simp only [Nat.zero_add, Nat.zero_mul, Nat.sub_zero, List.length_map] at p3 q2 q6 q8
   subst p3
   by_cases hys : ys = []
   ·skip
    subst hys
    refine (so.none _ _ w).mono ?_
    rintro _ w' ⟨rfl, rfl⟩
    have hs0 : srt [] = [] := List.length_eq_zero_iff.1 (so.len [])
    refine fin gh _ ?_
    rw [hs0]
    have : r.set ri (some ⟨true, ver, k, e, ([] : List α).map fD⟩) = r := by
     apply List.ext_getElem?
     intro q
     rw [List.getElem?_set]
     split
     ·skip
      rename_i hq; subst hq; first | rw [hr] | rw [if_pos hlt, hr]
     ·skip
      rfl
    rw [this]; exact rel
   ·skip
    have hN : J.N ≤ gh.at_ (.r ri) := by
     rcases rel.own (.r ri) ⟨_, hr, rfl⟩ with hh | hh
     ·skip
      exact E.hN _ hh
     ·skip
      exact Nat.le_trans (J.lt _ E.hI) hh
    have hle : ys.length * k ≤ vs.size := by rw [q2]; exact Nat.mul_le_mul_right _ q6
    have hjk : ∀ (x : α) (j : Nat) (v : Value), (enc x)[j]? = some v → ∃ d, (fD x)[j]? = some d ∧ valD d = some v := fun x j v hj => by
     have h1 := congrArg (fun l => l[j]?) (hv x)
     simp only [List.getElem?_map, hj, Option.map_some] at h1
     cases hd : (fD x)[j]? with
     | none => rw [hd] at h1; cases h1
     | some d => rw [hd] at h1; exact ⟨d, rfl, by simpa using h1⟩
    have hkj : ∀ (x : α) (j : Nat) (d : D), (fD x)[j]? = some d → ∃ v, (enc x)[j]? = some v ∧ valD d = some v := fun x j d hj => by
     have h1 := congrArg (fun l => l[j]?) (hv x)
     simp only [List.getElem?_map, hj, Option.map_some] at h1
     cases hd : (enc x)[j]? with
     | none => rw [hd] at h1; cases h1
     | some v => rw [hd] at h1; exact ⟨v, rfl, by simpa using h1⟩
    refine (so.run ys (gh.at_ (.r ri)) (gh.cap ri) vs tt w rel.inv hN q1 (fun i j x v hi hj => ?_) hle h63 hys).mono ?_
    ·skip
     obtain ⟨d, hd, hvd⟩ := hjk x j v hj
     have hil : i < ys.length := (List.getElem?_eq_some_iff.1 hi).1
     have hjl : j < k := by rw [← hk x]; exact (List.getElem?_eq_some_iff.1 hd).1
     have hb : i * k + j < vs.size := by
      have := Nat.mul_le_mul_right k (show i + 1 ≤ ys.length from hil)
      rw [Nat.add_mul, Nat.one_mul] at this
      omega
     have := q8 i j (fD x) d vs[i * k + j] (by simp [hi]) hd (Array.getElem?_eq_getElem hb)
     rw [Array.getElem?_eq_getElem hb, valD_of hvd this]
    ·skip
     rintro _ w' ⟨rfl, z1, z2, z3, z4, z5, vs', z6, z7, z8⟩
     refine fin gh w' ?_
     refine rel.setXs (o := ⟨true, ver, k, e, ys.map fD⟩) hr rfl (by simp [so.len]) (fun x hx => ?_) q1 z1 z2 z3 z4 z5 z6 z7 (fun i j x d v g1 g2 g3 => ?_)
     ·skip
      obtain ⟨y, _, rfl⟩ := List.mem_map.1 hx; exact hk y
     ·skip
      rw [List.getElem?_map] at g1
      cases hs : (srt ys)[i]? with
      | none => rw [hs] at g1; cases g1
      | some y =>
       rw [hs] at g1
       obtain rfl : fD y = x := by simpa using g1
       obtain ⟨v', hv', hvd⟩ := hkj y j d g2
       have := z8 i j y v' hs hv'
       simp only [q4, Nat.zero_add] at g3
       rw [this] at g3
       obtain rfl : v' = v := by simpa using g3
       exact valD_rd hvd
 | [] => have := congrArg List.length hq; rw [List.length_map, ← hal] at this; simp at this
 | _ :: _ :: _ => have := congrArg List.length hq; rw [List.length_map, ← hal] at this; simp at this
end
open Go.Sort in
theorem Sort1Ok.str {P : Program} {J : Inv} {ρ : Go.Shelf.Ren} (L : SlLaysM.n6 P ρ) {f : FuncId} (hf : ρ.f 6 = f) (enter : ∃ fn, P.funcs[f]? = some fn ∧ (fn.name == "runtime.NumGoroutine") = false ∧ fn.body.isNone = false) :
  Sort1Ok P J f 1 (fun s : List UInt8 => [encStr s]) sortS := by
 subst hf
 refine ⟨enter, fun xs => List.length_mergeSort _, fun xs blk cap vs tt w hJ hN hb hcells hle h63 hne => ?_, fun p cap w => AnyM.slices_Sort_string_none L p cap w⟩
 have hblk := (Array.getElem?_eq_some_iff.1 hb).1
 have hH : Holds encStr w blk 0 xs.toArray := fun j hj => by
  have hj' : j < xs.length := by simpa using hj
  have hc := hcells j 0 xs[j] (encStr xs[j]) (List.getElem?_eq_getElem hj') rfl
  have e : (xs.toArray)[j]! = xs[j] := by simp [hj']
  rw [e, Nat.zero_add]
  rw [Nat.mul_one, Nat.add_zero] at hc
  exact ⟨by simp [World.cell?, hb, hc], by simp [World.frozen?, hb]⟩
 refine Calls.mono (AnyM.slices_Sort_string L blk 0 cap xs w hH hblk h63) fun e w' h => ?_
 obtain ⟨he, n, os, hw⟩ := h
 subst hw
 have hsz : (putRow encStr (Go.Sort.ahead w n) blk 0 (xs.mergeSort fun x y => decide (x ≤ y)).toArray).heap.size = w.heap.size := by
  show (w.heap.modify blk _).size = _; simp
 have hget : ∀ q, q < w.heap.size → (grow (putRow encStr (Go.Sort.ahead w n) blk 0 (xs.mergeSort fun x y => decide (x ≤ y)).toArray) os).heap[q]? = (w.heap.modify blk (onCells (Go.Sort.putCells encStr 0 (xs.mergeSort fun x y => decide (x ≤ y)).toArray)))[q]? := fun q hq => by
  show ((w.heap.modify blk _) ++ os)[q]? = _
  rw [Array.getElem?_append_left (by simpa using hq)]
 refine ⟨he, rfl, rfl, rfl, ?_, fun q hq hne => ?_, Go.Sort.putCells encStr 0 (xs.mergeSort fun x y => decide (x ≤ y)).toArray vs, ?_, ?_, fun i j x v hi hj => ?_⟩
 ·skip
  show w.heap.size ≤ ((w.heap.modify blk _) ++ os).size
  simp
 ·skip
  rw [hget q hq, Array.getElem?_modify, if_neg (Ne.symm hne)]
 ·skip
  rw [hget blk hblk, Array.getElem?_modify, if_pos rfl, hb]; rfl
 ·skip
  simp [Go.Sort.putCells]
 ·skip
  have hil := (List.getElem?_eq_some_iff.1 hi).1
  have hl : (sortS xs).length = xs.length := List.length_mergeSort _
  have hj0 : j = 0 := by have := (List.getElem?_eq_some_iff.1 hj).1; simp at this; exact this
  subst hj0
  obtain rfl : encStr x = v := by simpa using hj
  have hlt : i < vs.size := by omega
  have hms : (xs.mergeSort fun x y => decide (x ≤ y)) = sortS xs := rfl
  rw [hms]
  unfold Go.Sort.putCells
  rw [Nat.mul_one, Nat.add_zero, Array.getElem?_mapIdx, Array.getElem?_eq_getElem hlt]
  simp only [Option.map_some, List.size_toArray, Nat.zero_add, Nat.sub_zero]
  rw [if_pos ⟨Nat.zero_le _, by omega⟩]
  have : (sortS xs).toArray[i]! = x := by simp [hi]
  rw [this]
end
section
open Go Go.RowKit
theorem le_trS (a b c : L8) (h1 : leB a b = true) (h2 : leB b c = true) : leB a c = true := by simp only [leB, decide_eq_true_eq] at *; exact List.le_trans h1 h2
theorem le_toS (a b : L8) : (leB a b || leB b a) = true := by simp only [leB, Bool.or_eq_true, decide_eq_true_eq]; exact List.le_total a b
theorem le_asS {a b : L8} (h1 : leB a b = true) (h2 : leB b a = true) : a = b := by simp only [leB, decide_eq_true_eq] at *; exact List.le_antisymm h1 h2
def cmG : L8 → List L8 → List L8
 | _, [] => []
 | p, y :: l => if y == p then cmG y l else y :: cmG y l
def cmS : List L8 → List L8
 | [] => []
 | x :: l => x :: cmG x l
theorem cmG_mem : ∀ {l : List L8} {p v : L8}, (v = p ∨ v ∈ cmG p l) ↔ (v = p ∨ v ∈ l)
  | [], p, v => by simp [cmG]
  | y :: l, p, v => by
    have ih := cmG_mem (l := l) (p := y) (v := v)
    unfold cmG
    by_cases h : y = p
    · subst h
      rw [if_pos (by simp)]
      simp only [List.mem_cons]
      rw [ih]
      constructor
      · rintro (h | h) <;> simp [h]
      · rintro (h | h | h) <;> simp [h]
    · rw [if_neg (by simpa using h)]
      simp only [List.mem_cons]
      rw [ih]
theorem cmS_mem {l : List L8} {v : L8} : v ∈ cmS l ↔ v ∈ l := by
 cases l with
 | nil => exact Iff.rfl
 | cons x l => have := cmG_mem (l := l) (p := x) (v := v); simpa [cmS] using this
theorem cmG_up : ∀ {l : List L8} {p : L8}, (∀ v ∈ l, leB p v = true) → l.Pairwise (fun x y => leB x y = true) → (cmG p l).Pairwise (fun x y => leB x y = true ∧ x ≠ y) ∧ ∀ v ∈ cmG p l, leB p v = true ∧ p ≠ v
  | [], p, _, _ => ⟨.nil, fun v hv => by cases hv⟩
  | y :: l, p, hp, hs => by
    obtain ⟨h1, h2⟩ := List.pairwise_cons.1 hs
    have ih := cmG_up (l := l) (p := y) h1 h2
    unfold cmG
    by_cases h : y = p
    · subst h
      rw [if_pos (by simp)]; exact ih
    · rw [if_neg (by simpa using h)]
      have hpy := hp y List.mem_cons_self
      refine ⟨List.pairwise_cons.2 ⟨ih.2, ih.1⟩, fun v hv => ?_⟩
      rcases List.mem_cons.1 hv with rfl | hv
      · exact ⟨hpy, fun e => h e.symm⟩
      · have h3 := ih.2 v hv
        refine ⟨le_trS _ _ _ hpy h3.1, fun e => ?_⟩
        subst e
        exact h (le_asS h3.1 hpy)
theorem cmS_up {l : List L8} (hs : l.Pairwise (fun x y => leB x y = true)) : (cmS l).Pairwise (fun x y => leB x y = true ∧ x ≠ y) := by
 cases l with
 | nil => exact .nil
 | cons x l =>
  obtain ⟨h1, h2⟩ := List.pairwise_cons.1 hs
  have := cmG_up h1 h2
  exact List.pairwise_cons.2 ⟨this.2, this.1⟩
theorem cm_sort {l k : List L8} (hk : k.Nodup) (hm : ∀ v, v ∈ k ↔ v ∈ l) : cmS (sortS l) = sortS k := by
 have h1 := List.pairwise_mergeSort le_trS le_toS l
 have h2 := cmS_up (l := sortS l) h1
 have h3 : (cmS (sortS l)).Nodup := List.nodup_iff_pairwise_ne.2 (h2.imp fun h => h.2)
 have h4 : (cmS (sortS l)).Perm k := (List.perm_ext_iff_of_nodup h3 hk).2 fun v => by rw [cmS_mem]; show v ∈ l.mergeSort leB ↔ _; rw [(List.mergeSort_perm l leB).mem_iff, hm]
 have h5 : (cmS (sortS l)).mergeSort leB = cmS (sortS l) := List.mergeSort_of_pairwise (h2.imp fun h => h.1)
 have h6 : (cmS (sortS l)).mergeSort leB = sortS k := mergeSort_of_perm h4
 rw [← h5, h6]
def useL : List (CT × Int) → List L8
 | [] => []
 | p :: L => (useK p.1.k p.1.n).toList ++ useL L
def usS (c : CT) (lv : Int) (s : List L8) : Bool × List L8 := (true, s ++ (useK c.k c.n).toList)
theorem runs_us : ∀ (L : List (CT × Int)) (s : List L8), runs usS L s = (true, s ++ useL L)
  | [], s => by simp [runs, useL]
  | (c, lv) :: L, s => by
    show runs usS L (s ++ (useK c.k c.n).toList) = _
    rw [runs_us L]
    simp [useL]
theorem visit_us (c : CT) (lv : Int) (s : List L8) : visit usS c lv s = (true, s ++ useL (c.pt lv)) := by rw [visit_runs, runs_us]
def usesP (c : CT) : List L8 := cmS (sortS (useL (c.pt 0)))
theorem set_ks (s : SetT) (q : L8) : (setL beqS s q true).map (·.1) = if q ∈ s.map (·.1) then s.map (·.1) else s.map (·.1) ++ [q] := by
  induction s with
  | nil => rfl
  | cons x l ih =>
    unfold setL
    by_cases h : q = x.1
    · have hb : beqS q x.1 = true := by simpa [beqS] using h
      rw [hb, cond_true, List.map_cons, List.map_cons, if_pos (by rw [h]; simp)]
      simp [h]
    · have hb : beqS q x.1 = false := by simpa [beqS] using h
      rw [hb, cond_false, List.map_cons, ih, List.map_cons]
      by_cases hm : q ∈ l.map (·.1)
      · rw [if_pos hm, if_pos (List.mem_cons_of_mem _ hm)]
      · rw [if_neg hm, if_neg (by simp only [List.mem_cons]; rintro (e | e); exact h e; exact hm e)]; rfl
theorem addS_ks (s : SetT) (o : Option L8) (hd : (s.map (·.1)).Nodup) : ((addS s o).map (·.1)).Nodup ∧ (∀ v, v ∈ (addS s o).map (·.1) ↔ v ∈ s.map (·.1) ∨ v ∈ o.toList) ∧ (addS s o).length ≤ s.length + 1 := by
 cases o with
 | none => exact ⟨hd, fun v => by simp [addS], by simp [addS]⟩
 | some q =>
  have e := set_ks s q
  show ((setL beqS s q true).map (·.1)).Nodup ∧ (∀ v, v ∈ (setL beqS s q true).map (·.1) ↔ _) ∧ (setL beqS s q true).length ≤ _
  have hl : (setL beqS s q true).length = ((setL beqS s q true).map (·.1)).length := by simp
  rw [hl, e]
  by_cases hm : q ∈ s.map (·.1)
  ·skip
   rw [if_pos hm]
   refine ⟨hd, fun v => ⟨.inl, fun h => h.elim id fun h => ?_⟩, by simp⟩
   have : v = q := by simpa using h
   rw [this]; exact hm
  ·skip
   rw [if_neg hm]
   refine ⟨?_, fun v => by simp, by simp⟩
   rw [List.nodup_append]
   refine ⟨hd, by simp, fun a ha b hb e => hm ?_⟩
   have : b = q := by simpa using hb
   rw [← this, ← e]; exact ha
theorem runs_nm : ∀ (L : List (CT × Int)) (s : SetT), (s.map (·.1)).Nodup → (runs nmS L s).1 = true ∧ ((runs nmS L s).2.map (·.1)).Nodup ∧ (∀ v, v ∈ (runs nmS L s).2.map (·.1) ↔ v ∈ s.map (·.1) ∨ v ∈ useL L) ∧ (runs nmS L s).2.length ≤ s.length + L.length
  | [], s, h => ⟨rfl, h, fun v => by simp [runs, useL], Nat.le_refl _⟩
  | (c, lv) :: L, s, h => by
    obtain ⟨h1, h2, h3⟩ := addS_ks s (useK c.k c.n) h
    obtain ⟨g1, g2, g3, g4⟩ := runs_nm L (addS s (useK c.k c.n)) h1
    have e : runs nmS ((c, lv) :: L) s = runs nmS L (addS s (useK c.k c.n)) := rfl
    rw [e]
    refine ⟨g1, g2, fun v => ?_, by simp only [List.length_cons]; omega⟩
    rw [g3, h2]
    show _ ↔ _ ∨ v ∈ (useK c.k c.n).toList ++ useL L
    rw [List.mem_append, or_assoc]
theorem useK_len {x : Int} {n v : L8} (h : v ∈ (useK x n).toList) : v.length ≤ n.length + 8 := by
  unfold useK at h
  split at h
  · have : v = [102, 97, 99, 116, 32] ++ n := by simpa using h
    rw [this]; simp
  · split at h
    · have : v = [115, 101, 116, 116, 105, 110, 103, 32] ++ n := by simpa using h
      rw [this]; simp
    · simp at h
theorem pt_T : ∀ (n : Nat) (c : CT) (lv : Int), c.w ≤ n → CtSm c → ∀ p ∈ c.pt lv, p.1.n.length ≤ 2000000
  | 0, c, lv, h, _ => by have := c.pos; omega
  | n + 1, c, lv, h, hc => by
    have hl : ∀ (l : List CT) (m : Int), (∀ a ∈ l, a.w ≤ n ∧ CtSm a) → ∀ p ∈ CT.pts l m, p.1.n.length ≤ 2000000 := fun l => by
      induction l with
      | nil => exact fun m _ p hp => by cases hp
      | cons a l ih =>
        intro m ha p hp
        have hp : p ∈ a.pt m ++ CT.pts l m := hp
        rcases List.mem_append.1 hp with hp | hp
        · exact pt_T n a m (ha a (by simp)).1 (ha a (by simp)).2 p hp
        · exact ih m (fun b hb => ha b (by simp [hb])) p hp
    intro p hp
    rw [pt_eq] at hp
    rcases List.mem_cons.1 hp with rfl | hp
    · cases hc with | mk k n v l h1 h2 h4 h3 => exact h1
    · exact hl c.l _ (fun a ha => ⟨by have := CT.sz ha; omega, by cases hc with | mk k n v l h1 h2 h4 h3 => exact h3 a ha⟩) p hp
theorem useL_len {N : Nat} : ∀ {L : List (CT × Int)}, (∀ p ∈ L, p.1.n.length ≤ N) → ∀ v ∈ useL L, v.length ≤ N + 8
  | [], _ => fun v hv => by cases hv
  | p :: L, h => fun v hv => by
    have hv : v ∈ (useK p.1.k p.1.n).toList ++ useL L := hv
    rcases List.mem_append.1 hv with hv | hv
    · have := useK_len hv
      have := h p (by simp)
      omega
    · exact useL_len (fun q hq => h q (by simp [hq])) v hv
theorem useL_le : ∀ (L : List (CT × Int)), (useL L).length ≤ L.length
  | [] => Nat.le_refl _
  | p :: L => by
    have h1 := useL_le L
    have h2 : (useK p.1.k p.1.n).toList.length ≤ 1 := by cases useK p.1.k p.1.n <;> simp
    show ((useK p.1.k p.1.n).toList ++ useL L).length ≤ L.length + 1
    rw [List.length_append]; omega
theorem nm_facts (c : CT) : ((visit nmS c 0 []).2.map (·.1)).Nodup ∧ (∀ v, v ∈ (visit nmS c 0 []).2.map (·.1) ↔ v ∈ useL (c.pt 0)) ∧ (visit nmS c 0 []).2.length ≤ c.w := by
 rw [visit_runs]
 obtain ⟨g1, g2, g3, g4⟩ := runs_nm (c.pt 0) [] (by simp)
 rw [pt_len] at g4
 exact ⟨g2, fun v => by rw [g3]; simp, by simpa using g4⟩
theorem uses_eq (c : CT) : usesP c = sortS ((visit nmS c 0 []).2.map (·.1)) := by
 obtain ⟨h1, h2, _⟩ := nm_facts c
 exact cm_sort h1 h2
end
section
open Go
def errsN (n : Nat) (f : Nat → Int) : Int := firstNe ((List.range n).map f)
def OkTo (f : Nat → Int) (i : Nat) : Prop := ∀ j, j < i → f j = 0
theorem ok_0 (f : Nat → Int) : OkTo f 0 := fun j h => absurd h (Nat.not_lt_zero _)
theorem ok_s {f : Nat → Int} {i : Nat} (h : OkTo f i) (hi : f i = 0) : OkTo f (i + 1) := fun j hj => by
  rcases Nat.lt_or_ge j i with h1 | h1
  · exact h j h1
  · obtain rfl : j = i := by omega
    exact hi
theorem ok_take {n : Nat} {f : Nat → Int} {i : Nat} (h : OkTo f i) : (((List.range n).map f).take i).all (· == 0) = true := by
 rw [List.all_eq_true]
 intro x hx
 obtain ⟨j, hj, he⟩ := List.getElem_of_mem hx
 simp only [List.length_take, List.length_map, List.length_range] at hj
 simp only [List.getElem_take, List.getElem_map, List.getElem_range] at he
 rw [← he, h j (by omega)]; rfl
theorem errs_hit {n : Nat} {f : Nat → Int} {i : Nat} {e : Int} (hi : i < n) (h : OkTo f i) (c : f i = e) (he : e ≠ 0) : errsN n f = e := by
 have hg : ((List.range n).map f).getD i 0 = e := by simp [List.getD_eq_getElem?_getD, hi, c]
 unfold errsN
 rw [firstNe_hit (by simpa using hi) (ok_take h) (by rw [hg]; exact he), hg]
theorem errs_none {n : Nat} {f : Nat → Int} {i : Nat} (hi : n ≤ i) (h : OkTo f i) : errsN n f = 0 := firstNe_none (by simpa using hi) (ok_take h)
theorem errs_ok {n : Nat} {f : Nat → Int} (h : errsN n f = 0) : OkTo f n := fun j hj => by
 have := firstNe_zero h
 exact this (f j) (List.mem_map.2 ⟨j, List.mem_range.2 hj, rfl⟩)
structure Dom where
 n : L8
 st : Bool
 ab : Bool
 vs : List L8
def Dom.z : Dom := ⟨[], false, false, []⟩
def domD (d : Dom) : List D := [.str d.n, .bool d.st, .bool d.ab, .vec 1 (d.vs.map fun x => [.str x])]
def wFac : L8 := [102, 97, 99, 116, 32]
def wSet : L8 := [115, 101, 116, 116, 105, 110, 103, 32]
def markB (d : Dom) : L8 := if d.st then wSet ++ d.n else wFac ++ d.n
theorem mark_t {d : Dom} (h : d.st = true) : markB d = [115, 101, 116, 116, 105, 110, 103, 32] ++ d.n := by unfold markB; rw [if_pos h]; rfl
theorem mark_f {d : Dom} (h : d.st = false) : markB d = [102, 97, 99, 116, 32] ++ d.n := by unfold markB; rw [if_neg (Bool.eq_false_iff.1 h)]; rfl
theorem mark_same (a b : Dom) : (markB a == markB b) = (a.n == b.n && a.st == b.st) := by
 unfold markB
 cases ha : a.st <;> cases hb : b.st <;> simp [wFac, wSet]
def sizeD (d : Dom) : Nat := d.vs.length + (if d.ab then 1 else 0)
def valAt (vs : List L8) (k : Nat) : Int := if !valueB (vs.getD k []) then 2 else if (vs.take k).any (fun y => vs.getD k [] == y) then 6 else 0
def valE (vs : List L8) : Int := errsN vs.length (valAt vs)
def okN (d : Dom) : Bool := if d.st then pathB d.n else nameB d.n
def likeD (d o : Dom) : Bool := o.n == d.n && o.st == d.st
def domAt (l : List Dom) (i : Nat) : Int :=
 if !okN (l.getD i Dom.z) then 5 else if (l.take i).any (likeD (l.getD i Dom.z)) then 6 else if (((l.getD i Dom.z).vs.length : Int) == 0) && !(l.getD i Dom.z).ab then 9
 else if decide (((l.getD i Dom.z).vs.length : Int) > 20) then 4 else valE (l.getD i Dom.z).vs
def domsE (l : List Dom) : Int := errsN l.length (domAt l)
section
variable {l : List Dom} {i : Nat}
theorem da_5 (h : (!okN (l.getD i Dom.z)) = true) : domAt l i = 5 := if_pos h
variable (h : (!okN (l.getD i Dom.z)) = false)
include h
theorem da_6 (h2 : (l.take i).any (likeD (l.getD i Dom.z)) = true) : domAt l i = 6 := by unfold domAt; rw [if_neg (Bool.eq_false_iff.1 h), if_pos h2]
variable (h2 : (l.take i).any (likeD (l.getD i Dom.z)) = false)
include h2
theorem da_9 (h3 : ((((l.getD i Dom.z).vs.length : Int) == 0) && !(l.getD i Dom.z).ab) = true) : domAt l i = 9 := by unfold domAt; rw [if_neg (Bool.eq_false_iff.1 h), if_neg (Bool.eq_false_iff.1 h2), if_pos h3]
variable (h3 : ((((l.getD i Dom.z).vs.length : Int) == 0) && !(l.getD i Dom.z).ab) = false)
include h3
theorem da_4 (h4 : decide (((l.getD i Dom.z).vs.length : Int) > 20) = true) : domAt l i = 4 := by unfold domAt; rw [if_neg (Bool.eq_false_iff.1 h), if_neg (Bool.eq_false_iff.1 h2), if_neg (Bool.eq_false_iff.1 h3), if_pos h4]
theorem da_v (h4 : decide (((l.getD i Dom.z).vs.length : Int) > 20) = false) : domAt l i = valE (l.getD i Dom.z).vs := by unfold domAt; rw [if_neg (Bool.eq_false_iff.1 h), if_neg (Bool.eq_false_iff.1 h2), if_neg (Bool.eq_false_iff.1 h3), if_neg (Bool.eq_false_iff.1 h4)]
end
theorem va_2 {vs : List L8} {k : Nat} (h : (!valueB (vs.getD k [])) = true) : valAt vs k = 2 := if_pos h
theorem va_6 {vs : List L8} {k : Nat} (h : (!valueB (vs.getD k [])) = false) (h2 : (vs.take k).any (fun y => vs.getD k [] == y) = true) : valAt vs k = 6 := by unfold valAt; rw [if_neg (Bool.eq_false_iff.1 h), if_pos h2]
theorem va_0 {vs : List L8} {k : Nat} (h : (!valueB (vs.getD k [])) = false) (h2 : (vs.take k).any (fun y => vs.getD k [] == y) = false) : valAt vs k = 0 := by unfold valAt; rw [if_neg (Bool.eq_false_iff.1 h), if_neg (Bool.eq_false_iff.1 h2)]
theorem da_pos {l : List Dom} {i : Nat} (h : domAt l i = 0) : 1 ≤ sizeD (l.getD i Dom.z) ∧ (l.getD i Dom.z).vs.length ≤ 20 ∧ okN (l.getD i Dom.z) = true := by
 unfold domAt at h
 split at h
 ·skip
  cases h
 ·skip
  rename_i h0
  split at h
  ·skip
   cases h
  ·skip
   split at h
   ·skip
    cases h
   ·skip
    rename_i h1
    split at h
    ·skip
     cases h
    ·skip
     rename_i h2
     refine ⟨?_, by rw [decide_eq_true_eq] at h2; omega, by simpa using h0⟩
     unfold sizeD
     cases hb : (l.getD i Dom.z).ab with
     | true => simp
     | false =>
      rw [hb] at h1
      simp only [Bool.not_false, Bool.and_true, beq_iff_eq] at h1
      omega
def prodL : List Dom → Nat
 | [] => 1
 | d :: l => sizeD d * prodL l
theorem prodL_snoc (d : Dom) : ∀ l : List Dom, prodL (l ++ [d]) = prodL l * sizeD d
 | [] => by simp [prodL]
 | a :: l => by show sizeD a * prodL (l ++ [d]) = sizeD a * prodL l * sizeD d; rw [prodL_snoc d l, Nat.mul_assoc]
theorem prod_s {l : List Dom} {i : Nat} (hi : i < l.length) : prodL (l.take (i + 1)) = prodL (l.take i) * sizeD (l.getD i Dom.z) := by rw [take_getD (d := Dom.z) hi, prodL_snoc]
def capW (M : Nat) (l : List Dom) : Nat := if prodL l ≤ M then prodL l else M
theorem cap_le (M : Nat) (l : List Dom) : capW M l ≤ M := by unfold capW; split <;> omega
theorem cap_s {M : Nat} {l : List Dom} {i : Nat} (hi : i < l.length) (hp : 1 ≤ sizeD (l.getD i Dom.z)) :
  capW M (l.take (i + 1)) = if capW M (l.take i) * sizeD (l.getD i Dom.z) ≤ M then capW M (l.take i) * sizeD (l.getD i Dom.z) else M := by
 unfold capW
 rw [prod_s hi]
 by_cases h : prodL (l.take i) ≤ M
 ·skip
  rw [if_pos h]
 ·skip
  rw [if_neg h]
  have h1 : prodL (l.take i) * 1 ≤ prodL (l.take i) * sizeD (l.getD i Dom.z) := Nat.mul_le_mul_left _ hp
  have h2 : M * 1 ≤ M * sizeD (l.getD i Dom.z) := Nat.mul_le_mul_left _ hp
  rw [if_neg (by omega)]
  split <;> omega
theorem cap_big {M : Nat} {l : List Dom} (hM : 1000 < M) : capW M l > 1000 ↔ prodL l > 1000 := by unfold capW; split <;> omega
theorem cap_small {M : Nat} {l : List Dom} (hM : 1000 < M) (h : ¬ capW M l > 1000) : capW M l = prodL l := by
 have := mt (cap_big (l := l) hM).2 h
 unfold capW; rw [if_pos (by omega)]
def stepW (d : Dom) (w : Nat) (W : Tab) : Tab := if w % sizeD d < d.vs.length then setL beqS W (markB d) (d.vs.getD (w % sizeD d) []) else W
def wTab : List Dom → Nat → Tab → Tab
 | [], _, W => W
 | d :: l, w, W => wTab l (w / sizeD d) (stepW d w W)
theorem wTab_snoc (d : Dom) : ∀ (l : List Dom) (w : Nat) (W : Tab), wTab (l ++ [d]) w W = stepW d (w / prodL l) (wTab l w W)
  | [], w, W => by simp [wTab, prodL]
  | a :: l, w, W => by
    show wTab (l ++ [d]) (w / sizeD a) (stepW a w W) = _
    rw [wTab_snoc d l, Nat.div_div_eq_div_mul]; rfl
theorem wTab_s {l : List Dom} {i w : Nat} (hi : i < l.length) : wTab (l.take (i + 1)) w [] = stepW (l.getD i Dom.z) (w / prodL (l.take i)) (wTab (l.take i) w []) := by
 rw [take_getD (d := Dom.z) hi, wTab_snoc]
def leafW (ψ : Tab → Bool) : List Dom → Tab → Bool
 | [], W => ψ W
 | d :: l, W => (d.vs.all fun v => leafW ψ l (setL beqS W (markB d) v)) && (if d.ab then leafW ψ l W else true)
theorem all_mul (f : Nat → Bool) (s M : Nat) (hs : 0 < s) : (List.range (s * M)).all f = (List.range s).all fun k => (List.range M).all fun r => f (k + s * r) := by
 rw [Bool.eq_iff_iff]
 simp only [List.all_eq_true, List.mem_range]
 constructor
 ·skip
  intro h k hk r hr
  refine h _ ?_
  have : s * (r + 1) ≤ s * M := Nat.mul_le_mul_left _ hr
  rw [Nat.mul_add, Nat.mul_one] at this
  omega
 ·skip
  intro h w hw
  have h1 := h (w % s) (Nat.mod_lt _ hs) (w / s) (Nat.div_lt_of_lt_mul hw)
  rwa [Nat.mod_add_div] at h1
theorem vs_all (g : L8 → Bool) (vs : List L8) : vs.all g = (List.range vs.length).all fun k => g (vs.getD k []) := by
 rw [Bool.eq_iff_iff]
 simp only [List.all_eq_true, List.mem_range]
 constructor
 ·skip
  intro h k hk
  exact h _ (by rw [List.getD_eq_getElem?_getD, List.getElem?_eq_getElem hk]; exact List.getElem_mem _)
 ·skip
  intro h v hv
  obtain ⟨k, hk, rfl⟩ := List.getElem_of_mem hv
  have := h k hk
  rwa [List.getD_eq_getElem?_getD, List.getElem?_eq_getElem hk] at this
theorem leafW_all (ψ : Tab → Bool) : ∀ (l : List Dom) (W : Tab), (∀ d ∈ l, 1 ≤ sizeD d) → leafW ψ l W = (List.range (prodL l)).all fun w => ψ (wTab l w W)
  | [], W, _ => by simp [leafW, prodL, wTab]
  | d :: l, W, h => by
    have hd := h d (by simp)
    have ih := fun W => leafW_all ψ l W (fun x hx => h x (by simp [hx]))
    show ((d.vs.all fun v => leafW ψ l (setL beqS W (markB d) v)) && (if d.ab then leafW ψ l W else true)) = _
    have e : prodL (d :: l) = sizeD d * prodL l := rfl
    rw [e, all_mul _ _ _ hd]
    have hw : ∀ k, k < sizeD d → ((List.range (prodL l)).all fun r => ψ (wTab (d :: l) (k + sizeD d * r) W)) = leafW ψ l (if k < d.vs.length then setL beqS W (markB d) (d.vs.getD k []) else W) := fun k hk => by
      rw [ih]
      refine congrArg _ (funext fun r => ?_)
      show ψ (wTab l ((k + sizeD d * r) / sizeD d) (stepW d (k + sizeD d * r) W)) = _
      unfold stepW
      rw [Nat.add_mul_mod_self_left, Nat.mod_eq_of_lt hk, Nat.add_mul_div_left _ _ hd, Nat.div_eq_of_lt hk, Nat.zero_add]
    have hall : ((List.range (sizeD d)).all fun k => (List.range (prodL l)).all fun r => ψ (wTab (d :: l) (k + sizeD d * r) W)) = (List.range (sizeD d)).all fun k => leafW ψ l (if k < d.vs.length then setL beqS W (markB d) (d.vs.getD k []) else W) := by
      rw [Bool.eq_iff_iff]
      simp only [List.all_eq_true, List.mem_range]
      constructor
      · intro h k hk; rw [← hw k hk]; exact List.all_eq_true.2 fun r hr => h k hk r (List.mem_range.1 hr)
      · intro h k hk
        have := h k hk
        rw [← hw k hk, List.all_eq_true] at this
        exact fun r hr => this r (List.mem_range.2 hr)
    rw [hall, vs_all]
    have hlow : ((List.range d.vs.length).all fun k => leafW ψ l (setL beqS W (markB d) (d.vs.getD k []))) = (List.range d.vs.length).all fun k => leafW ψ l (if k < d.vs.length then setL beqS W (markB d) (d.vs.getD k []) else W) := by
      rw [Bool.eq_iff_iff]
      simp only [List.all_eq_true, List.mem_range]
      constructor
      · intro h k hk; rw [if_pos hk]; exact h k hk
      · intro h k hk; have := h k hk; rwa [if_pos hk] at this
    rw [hlow]
    unfold sizeD
    cases d.ab with
    | false => simp
    | true =>
      rw [if_pos rfl, if_pos rfl, List.range_succ, List.all_append]
      simp
def leafs (φ : Tab → Tab → Bool) : List Dom → Tab → Tab → Bool
 | [], F, G => φ F G
 | d :: l, F, G => (d.vs.all fun v => leafs φ l (if d.st then F else setL beqS F d.n v) (if d.st then setL beqS G d.n v else G)) && (if d.ab then leafs φ l F G else true)
theorem tell_set (t : Tab) (k v q : L8) : (getL beqS [] (setL beqS t k v) q, hasL beqS (setL beqS t k v) q) = if q == k then (v, true) else (getL beqS [] t q, hasL beqS t q) := by
 rw [get_lk, has_lk, lk_set, get_lk, has_lk]
 unfold setF
 by_cases h : (q == k) = true
 ·skip
  rw [if_pos h, if_pos h]; rfl
 ·skip
  rw [if_neg h, if_neg h]
def SameW (F G W : Tab) : Prop := ∀ q, (getL beqS [] W (wFac ++ q), hasL beqS W (wFac ++ q)) = (getL beqS [] F q, hasL beqS F q) ∧ (getL beqS [] W (wSet ++ q), hasL beqS W (wSet ++ q)) = (getL beqS [] G q, hasL beqS G q)
theorem SameW.put {F G W : Tab} (h : SameW F G W) (d : Dom) (v : L8) : SameW (if d.st then F else setL beqS F d.n v) (if d.st then setL beqS G d.n v else G) (setL beqS W (markB d) v) := fun q => by
 rw [tell_set, tell_set]
 cases hd : d.st with
 | true =>
  rw [mark_t hd]
  simp only [if_true]
  have h1 : (wFac ++ q == [115, 101, 116, 116, 105, 110, 103, 32] ++ d.n) = false := by simp [wFac]
  have h2 : (wSet ++ q == [115, 101, 116, 116, 105, 110, 103, 32] ++ d.n) = (q == d.n) := by simp [wSet]
  rw [h1, h2, if_neg (by simp), tell_set]
  refine ⟨(h q).1, ?_⟩
  rw [(h q).2]
 | false =>
  rw [mark_f hd]
  simp only [if_false, Bool.false_eq_true]
  have h1 : (wFac ++ q == [102, 97, 99, 116, 32] ++ d.n) = (q == d.n) := by simp [wFac]
  have h2 : (wSet ++ q == [102, 97, 99, 116, 32] ++ d.n) = false := by simp [wSet]
  rw [h1, h2, if_neg (by simp : ¬ (false = true)), tell_set]
  refine ⟨?_, (h q).2⟩
  rw [(h q).1]
theorem leafs_eq {φ : Tab → Tab → Bool} {ψ : Tab → Bool} (hφ : ∀ F G W, SameW F G W → φ F G = ψ W) : ∀ (l : List Dom) (F G W : Tab), SameW F G W → leafs φ l F G = leafW ψ l W
  | [], F, G, W, h => hφ F G W h
  | d :: l, F, G, W, h => by
    show ((d.vs.all fun v => leafs φ l _ _) && _) = ((d.vs.all fun v => leafW ψ l _) && _)
    rw [leafs_eq hφ l F G W h]
    congr 1
    exact congrArg (fun f => d.vs.all f) (funext fun v => leafs_eq hφ l _ _ _ (h.put d v))
def unkn (l : List Dom) (n : L8) : Bool := !l.any fun d => markB d == n
def holdT (c : CT) (F G : Tab) : Bool := c.ho (fun q => (getL beqS [] F q, hasL beqS F q)) (fun q => (getL beqS [] G q, hasL beqS G q))
def holdW (c : CT) (W : Tab) : Bool := c.ho (fun q => (getL beqS [] W (wFac ++ q), hasL beqS W (wFac ++ q))) (fun q => (getL beqS [] W (wSet ++ q), hasL beqS W (wSet ++ q)))
theorem hold_same (c : CT) (F G W : Tab) (h : SameW F G W) : holdT c F G = holdW c W := by
 unfold holdT holdW
 rw [show (fun q => (getL beqS [] W (wFac ++ q), hasL beqS W (wFac ++ q))) = fun q => (getL beqS [] F q, hasL beqS F q) from funext fun q => (h q).1,
  show (fun q => (getL beqS [] W (wSet ++ q), hasL beqS W (wSet ++ q))) = fun q => (getL beqS [] G q, hasL beqS G q) from funext fun q => (h q).2]
def domF (l : List Dom) : Int := if decide ((l.length : Int) > 20) then 4 else domsE l
def alwP (c : CT) (l : List Dom) : Bool × Bool × Int :=
 if checkP c != 0 then (false, false, checkP c) else if domF l != 0 then (false, false, domF l) else if decide (prodL l > 1000) then (false, false, 4)
 else if (usesP c).any (unkn l) then (false, false, 10) else ((List.range (prodL l)).all fun w => holdW c (wTab l w []), (List.range (prodL l)).all fun w => !holdW c (wTab l w []), 0)
def domR (c : CT) (l : List Dom) : Int := if domF l != 0 then domF l else if decide (prodL l > 1000) then 4 else if (usesP c).any (unkn l) then 10 else 0
theorem doms_pos {l : List Dom} (h : domF l = 0) : ∀ d ∈ l, 1 ≤ sizeD d := fun d hd => by
 unfold domF at h
 split at h
 ·skip
  cases h
 ·skip
  obtain ⟨i, hi, rfl⟩ := List.getElem_of_mem hd
  have := (da_pos (errs_ok h i hi)).1
  rwa [List.getD_eq_getElem?_getD, List.getElem?_eq_getElem hi] at this
theorem alw_law {c : CT} {l : List Dom} (h : firstNe [checkP c, domR c l] = 0) : alwP c l = (leafs (holdT c) l [] [], leafs (fun F G => !holdT c F G) l [] [], 0) := by
 have hz := firstNe_zero h
 have h0 : checkP c = 0 := hz _ (by simp)
 have h1 : domR c l = 0 := hz _ (by simp)
 unfold domR at h1
 split at h1
 ·skip
  rename_i h2; rw [h1] at h2; exact absurd h2 (by decide)
 ·skip
  rename_i h2
  split at h1
  ·skip
   cases h1
  ·skip
   rename_i h3
   split at h1
   ·skip
    cases h1
   ·skip
    rename_i h4
    have hd : domF l = 0 := by simpa using h2
    have hp := doms_pos hd
    have hs : SameW [] [] [] := fun q => ⟨rfl, rfl⟩
    rw [leafs_eq (hold_same c) l [] [] [] hs, leafs_eq (φ := fun F G => !holdT c F G) (ψ := fun W => !holdW c W) (fun F G W h => by rw [hold_same c F G W h]) l [] [] [] hs, leafW_all _ _ _ hp, leafW_all _ _ _ hp]
    unfold alwP
    rw [if_neg (by rw [h0]; decide), if_neg h2, if_neg h3, if_neg h4]
theorem alw_err {c : CT} {l : List Dom} (h : firstNe [checkP c, domR c l] ≠ 0) : alwP c l = (false, false, firstNe [checkP c, domR c l]) := by
 rw [first2] at h ⊢
 unfold firstB at h ⊢
 unfold alwP
 by_cases h0 : (checkP c != 0) = true
 ·skip
  rw [if_pos h0, if_pos h0]
 ·skip
  rw [if_neg h0] at h
  rw [if_neg h0, if_neg h0]
  unfold domR at h ⊢
  split
  ·skip
   rfl
  ·skip
   rename_i h2
   rw [if_neg h2] at h
   split
   ·skip
    rfl
   ·skip
    rename_i h3
    rw [if_neg h3] at h
    split
    ·skip
     rfl
    ·skip
     rename_i h4; rw [if_neg h4] at h; exact absurd rfl h
theorem doms_hit {l : List Dom} {i : Nat} {e : Int} (hi : i < l.length) (h : OkTo (domAt l) i) (c : domAt l i = e) (he : e ≠ 0) : domsE l = e := errs_hit hi h c he
theorem doms_none {l : List Dom} {i : Nat} (hi : l.length ≤ i) (h : OkTo (domAt l) i) : domsE l = 0 := errs_none hi h
theorem vals_hit {vs : List L8} {i : Nat} {e : Int} (hi : i < vs.length) (h : OkTo (valAt vs) i) (c : valAt vs i = e) (he : e ≠ 0) : valE vs = e := errs_hit hi h c he
theorem vals_none {vs : List L8} {i : Nat} (hi : vs.length ≤ i) (h : OkTo (valAt vs) i) : valE vs = 0 := errs_none hi h
theorem okN_t {d : Dom} (h : d.st = true) : okN d = pathB d.n := if_pos h
theorem okN_f {d : Dom} (h : d.st = false) : okN d = nameB d.n := if_neg (Bool.eq_false_iff.1 h)
def dfP (l : List Dom) : Int × Nat := if decide ((l.length : Int) > 20) then (4, 0) else if domsE l != 0 then (domsE l, 0) else (0, capW 1001 l)
theorem df_4 {l : List Dom} (h : decide ((l.length : Int) > 20) = true) : dfP l = (4, 0) := if_pos h
theorem df_e {l : List Dom} (h : decide ((l.length : Int) > 20) = false) {e : Int} (he : domsE l = e) (hne : e ≠ 0) : dfP l = (e, 0) := by
 unfold dfP; rw [if_neg (Bool.eq_false_iff.1 h), he, if_pos (by simpa using hne)]
theorem df_0 {l : List Dom} (h : decide ((l.length : Int) > 20) = false) (he : domsE l = 0) : dfP l = (0, capW 1001 l) := by
 unfold dfP; rw [if_neg (Bool.eq_false_iff.1 h), he, if_neg (by decide)]
theorem df_fst (l : List Dom) : (dfP l).1 = domF l := by
 unfold dfP domF
 split
 ·skip
  rfl
 ·skip
  split
  ·skip
   rfl
  ·skip
   rename_i h; simpa using (show domsE l = 0 by simpa using h).symm
theorem size_t {d : Dom} (h : d.ab = true) (hl : d.vs.length ≤ 20) : V.one (.d (.int .i64 (IntKind.i64.wrap (((d.vs.map fun x => ([.str x] : List D)).length : Int) + 1)))) = V.one (.d (.int .i64 ((sizeD d : Nat) : Int))) := by
 have : sizeD d = d.vs.length + 1 := by unfold sizeD; rw [h]; rfl
 rw [List.length_map, wrap_i64 (by omega) (by omega), this]; rfl
theorem size_f {d : Dom} (h : d.ab = false) : ((d.vs.map fun x => ([.str x] : List D)).length : Int) = ((sizeD d : Nat) : Int) := by
 unfold sizeD; rw [h, List.length_map]; simp
theorem mul_cap {a b M : Nat} {x : Int} (hx : x = (b : Int)) (ha : a ≤ M) (hM : M ≤ 1048576) (hb : b ≤ 21) : V.one (.d (.int .i64 (IntKind.i64.wrap ((a : Int) * x)))) = V.one (.d (.int .i64 ((a * b : Nat) : Int))) := by
 have h1 : a * b ≤ M * 21 := Nat.mul_le_mul ha hb
 rw [hx, show (a : Int) * (b : Int) = ((a * b : Nat) : Int) by simp, wrap_i64 (by omega) (by omega)]
theorem min_cap {M : Nat} {l : List Dom} {i : Nat} {m : Int} (hm : m = (M : Int)) (hi : i < l.length) (hp : 1 ≤ sizeD (l.getD i Dom.z)) :
  V.one (.d (.int .i64 (if m < ((capW M (l.take i) * sizeD (l.getD i Dom.z) : Nat) : Int) then m else ((capW M (l.take i) * sizeD (l.getD i Dom.z) : Nat) : Int)))) = V.one (.d (.int .i64 ((capW M (l.take (i + 1)) : Nat) : Int))) := by
 rw [cap_s hi hp, hm]
 congr 3
 split <;> split <;> omega
theorem size_le {d : Dom} (h : d.vs.length ≤ 20) : sizeD d ≤ 21 := by unfold sizeD; split <;> omega
theorem sl_take {α : Type} {f : α → List D} {l : List α} {i sz : Nat} : V.one (.d (.vec sz (((l.map f).take ((i : Int)).toNat).drop (0 : Int).toNat))) = V.one (.d (.vec sz ((l.take i).map f))) := by
 rw [Int.toNat_natCast, List.map_take]; rfl
theorem rem_ok {x : Int} {s : Nat} (hx : x = (s : Int)) (hp : 1 ≤ s) : (!(x == 0)) = true := by
 rw [hx]
 have : ¬ (s : Int) = 0 := by omega
 simpa using this
theorem rem_eq {a s : Nat} {x : Int} (hx : x = (s : Int)) : V.one (.d (.int .i64 ((a : Int).tmod x))) = V.one (.d (.int .i64 ((a % s : Nat) : Int))) := by
 rw [hx, Int.ofNat_tmod]
theorem quo_eq {a s : Nat} {x : Int} (hx : x = (s : Int)) (ha : a ≤ 1048576) : V.one (.d (.int .i64 (IntKind.i64.wrap ((a : Int).tdiv x)))) = V.one (.d (.int .i64 ((a / s : Nat) : Int))) := by
 have h1 : a / s ≤ a := Nat.div_le_self _ _
 rw [hx, ← Int.ofNat_tdiv]
 generalize a / s = q at h1 ⊢
 rw [wrap_i64 (by omega) (by omega)]
theorem rest_s {l : List Dom} {i w : Nat} (hi : i < l.length) : w / prodL (l.take i) / sizeD (l.getD i Dom.z) = w / prodL (l.take (i + 1)) := by
 rw [prod_s hi, Nat.div_div_eq_div_mul]
def tellH (W : Tab) (h : L8) (q : L8) : L8 × Bool := (getL beqS [] W (h ++ q), hasL beqS W (h ++ q))
theorem holdW_eq (c : CT) (W : Tab) : holdW c W = c.ho (tellH W wFac) (tellH W wSet) := rfl
theorem step_t {l : List Dom} {i w : Nat} (hi : i < l.length) (h : w / prodL (l.take i) % sizeD (l.getD i Dom.z) < (l.getD i Dom.z).vs.length) :
  setL beqS (wTab (l.take i) w []) (markB (l.getD i Dom.z)) ((l.getD i Dom.z).vs.getD (w / prodL (l.take i) % sizeD (l.getD i Dom.z)) []) = wTab (l.take (i + 1)) w [] := by
 rw [wTab_s hi]; unfold stepW; rw [if_pos h]
theorem step_f {l : List Dom} {i w : Nat} (hi : i < l.length) (h : ¬ w / prodL (l.take i) % sizeD (l.getD i Dom.z) < (l.getD i Dom.z).vs.length) : wTab (l.take i) w [] = wTab (l.take (i + 1)) w [] := by
 rw [wTab_s hi]; unfold stepW; rw [if_neg h]
theorem wTab_len {N : Nat} : ∀ (l : List Dom) (w : Nat) (W : Tab), (∀ d ∈ l, ∀ v ∈ d.vs, v.length ≤ N) → (∀ q, (getL beqS [] W q).length ≤ N) → ∀ q, (getL beqS [] (wTab l w W) q).length ≤ N
  | [], w, W, _, h => h
  | d :: l, w, W, hv, h => by
    refine wTab_len l _ _ (fun x hx => hv x (by simp [hx])) (fun q => ?_)
    unfold stepW
    split
    · rename_i hk
      have h1 := congrArg Prod.fst (tell_set W (markB d) (d.vs.getD (w % sizeD d) []) q)
      have h1 : getL beqS [] (setL beqS W (markB d) (d.vs.getD (w % sizeD d) [])) q = _ := h1
      rw [h1]
      split
      · exact hv d (by simp) _ (mem_getD hk)
      · exact h q
    · exact h q
theorem all_s (f : Nat → Bool) (w : Nat) : (List.range (w + 1)).all f = ((List.range w).all f && f w) := by rw [List.range_succ, List.all_append]; simp
def alwA (c : CT) (l : List Dom) (w : Nat) : Bool := (List.range w).all fun u => holdW c (wTab l u [])
def alwN (c : CT) (l : List Dom) (w : Nat) : Bool := (List.range w).all fun u => !holdW c (wTab l u [])
theorem alwA_t {c : CT} {l : List Dom} {w : Nat} (h : holdW c (wTab l w []) = true) : alwA c l w = alwA c l (w + 1) := by unfold alwA; rw [all_s, h, Bool.and_true]
theorem alwA_f {c : CT} {l : List Dom} {w : Nat} (h : holdW c (wTab l w []) = false) : false = alwA c l (w + 1) := by unfold alwA; rw [all_s, h, Bool.and_false]
theorem alwN_f {c : CT} {l : List Dom} {w : Nat} (h : holdW c (wTab l w []) = false) : alwN c l w = alwN c l (w + 1) := by unfold alwN; rw [all_s, h]; simp
theorem alwN_t {c : CT} {l : List Dom} {w : Nat} (h : holdW c (wTab l w []) = true) : false = alwN c l (w + 1) := by unfold alwN; rw [all_s, h]; simp
theorem ap_1 {c : CT} {l : List Dom} (h : (checkP c != 0) = true) : alwP c l = (false, false, checkP c) := if_pos h
section
variable {c : CT} {l : List Dom} (h : (checkP c != 0) = false)
include h
theorem ap_2 (h2 : (domF l != 0) = true) : alwP c l = (false, false, domF l) := by unfold alwP; rw [if_neg (Bool.eq_false_iff.1 h), if_pos h2]
variable (h2 : (domF l != 0) = false)
include h2
theorem ap_3 (h3 : prodL l > 1000) : alwP c l = (false, false, 4) := by unfold alwP; rw [if_neg (Bool.eq_false_iff.1 h), if_neg (Bool.eq_false_iff.1 h2), if_pos (by simpa using h3)]
variable (h3 : ¬ prodL l > 1000)
include h3
theorem ap_4 (h4 : (usesP c).any (unkn l) = true) : alwP c l = (false, false, 10) := by unfold alwP; rw [if_neg (Bool.eq_false_iff.1 h), if_neg (Bool.eq_false_iff.1 h2), if_neg (by simpa using h3), if_pos h4]
theorem ap_5 (h4 : (usesP c).any (unkn l) = false) : alwP c l = (alwA c l (prodL l), alwN c l (prodL l), 0) := by unfold alwP; rw [if_neg (Bool.eq_false_iff.1 h), if_neg (Bool.eq_false_iff.1 h2), if_neg (by simpa using h3), if_neg (Bool.eq_false_iff.1 h4)]; rfl
end
theorem df_snd {l : List Dom} (h : (domF l != 0) = false) : (dfP l).2 = capW 1001 l := by
 unfold domF at h
 unfold dfP
 split at h
 ·skip
  cases h
 ·skip
  rename_i h1; rw [if_neg h1, if_neg (Bool.eq_false_iff.1 h)]
theorem doms_at {l : List Dom} {i : Nat} (h : (domF l != 0) = false) (hi : i < l.length) : domAt l i = 0 := by
  unfold domF at h
  split at h
  · cases h
  · have h0 : domsE l = 0 := by simpa using h
    exact errs_ok h0 i hi
end
section
open Go
open Go.RowKit
attribute [local irreducible] thenK blockK W
attribute [local irreducible] pathB nameB valueB domsE domAt valE valAt capW prodL markB sizeD okN
structure DomB (l : List Dom) : Prop where
 n : l.length ≤ 2000000
 d : ∀ d ∈ l, d.n.length ≤ 2000000 ∧ d.vs.length ≤ 2000000 ∧ ∀ v ∈ d.vs, v.length ≤ 2000000
theorem dom_at {l : List Dom} (h : DomB l) {i : Nat} (hi : i < l.length) : (l.getD i Dom.z).n.length ≤ 2000000 ∧ (l.getD i Dom.z).vs.length ≤ 2000000 ∧ ∀ v ∈ (l.getD i Dom.z).vs, v.length ≤ 2000000 := h.d _ (mem_getD (d := Dom.z) hi)
theorem pc_mark (d : Dom) (hn : d.n.length ≤ 2000000) :
  PureCall Tryz.prog J 26 [.agg [.d (.str d.n), .d (.bool d.st), .d (.bool d.ab), .d (.vec 1 (d.vs.map fun x => [.str x]))]] (.one (.d (.str (markB d)))) := by
 refine PureCall.of_body tOk (fn := Tryz.f26) Tryz.func26 (by kernel_rfl) rfl (Nat.le_of_ble_eq_true rfl) (fun E => ?_)
 iterate 9 first|refine Yp rfl ?_|refine S.box rfl rfl rfl rfl ?_|apply Y1|apply Yn|apply Ys
 refine W.cond rfl (fun c1=>?_) fun c1=>?_
 ·skip
  apply Y1
  iterate 2 refine Yp rfl ?_
  refine YP rfl (cat_ok (by simp <;> omega)) rfl ?_
  refine Yp rfl ?_
  apply Yn
  apply Yt
  apply Yu
  exact Yz rfl rfl rfl (by rw [mark_t c1])
 apply Yk
 apply Y3
 iterate 2 refine Yp rfl ?_
 refine YP rfl (cat_ok (by simp <;> omega)) rfl ?_
 refine Yp rfl ?_
 apply Yn
 apply Yt
 exact Yz rfl rfl rfl (by rw [mark_f c1])
theorem pc_IndexFunc_Dom (f : Nat) (caps : List C) (b : List (List C)) (r : List (Option RowO)) (m : List (List (DV × DV))) (φ : Dom → Bool) (l : List Dom) (hl : l.length ≤ 1000000000) (hc : ∀ d ∈ l, HCall Tryz.prog J f (.agg [.d (.str d.n), .d (.bool d.st), .d (.bool d.ab), .d (.vec 1 (d.vs.map fun x => [.str x]))] :: caps.map V.one) b r m (isH (.one (.d (.bool (φ d)))) b r m)) :
  HCall Tryz.prog J 72 ([.one (.d (.vec 4 (l.map domD))), .one (.clo f caps)]) (b) (r) (m) (isH (.one (.d (.int .i64 (idxOf φ l)))) (b) (r) (m)) := by
 have hmap : (l.map domD).length = l.length := List.length_map _
 refine HCall.ofN tOk (fn := Tryz.f72) Tryz.func72 (by kernel_rfl) rfl (Nat.le_of_ble_eq_true rfl) (fun E => ?_)
 iterate 9 first|refine Yp rfl ?_|apply Y1|apply Yn|apply Ys
 apply Yb
 refine W.loop (fun k st => ∃ i : Nat, i ≤ l.length ∧ (l.take i).any φ = false ∧ k = l.length - i ∧ ∃ t, st = ⟨t, b, r, m⟩ ∧ holdsL t [(0, .one (.d (.vec 4 (l.map domD)))), (1, .one (.clo f caps)), (6, .one (.d (.vec 4 (l.map domD)))), (7, .one (.d (.int .i64 ((l.map domD).length : Int)))), (8, .one (.d (.int .i64 (i : Int))))]) (l.length) ⟨0, Nat.zero_le _, by simp, rfl, _, rfl, rfl, rfl, rfl, rfl, rfl, trivial⟩ ?_
 rintro k0 _ ⟨i, f0_0, f0_1, rfl, t0, rfl, hh0⟩
 refine W.keep _ hh0 ?_
 apply Y1
 refine Yp rfl ?_
 apply Yn
 apply Ys
 refine W.cond rfl (fun c1=>?_) fun c1=>?_
 ·skip
  have hi := row_lt c1
  iterate 11 first|refine Yp rfl ?_|apply Yb|apply Yk|apply Y3|apply Y1|apply Ys|apply Yn
  refine YE rfl (row_ok hi) (row_at Dom.z hi) rfl ?_
  refine Yp rfl ?_
  refine S.hcallU rfl rfl rfl (hc (l.getD i Dom.z) (mem_getD (d := Dom.z) hi)) ?_
  apply Yn
  refine W.cond rfl (fun c2=>?_) fun c2=>?_
  ·skip
   iterate 10 first|apply Yu|apply Yv|refine Yp rfl ?_|apply Yt|apply Y1|apply Yn
   exact ⟨_, rfl, LeG.of_eq (congrArg (fun x => V.one (C.d (D.int .i64 x))) (idxOf_at (d := Dom.z) hi f0_1 c2).symm), rfl, rfl, rfl⟩
  apply Yk
  apply Yw
  apply Y4
  iterate 2 refine Yp rfl ?_
  refine loop_n (l.length - (i + 1)) (by omega) ⟨i + 1, hi, any_take (d := Dom.z) hi f0_1 c2, rfl, _, rfl, rfl, rfl, rfl, rfl, inc_i64 (by omega), trivial⟩
 have hi := row_ge c1
 apply Yq
 apply Ye
 apply Ye
 apply Yx
 apply Y3
 refine Yp rfl ?_
 apply Yn
 apply Yt
 exact ⟨_, rfl, LeG.of_eq (congrArg (fun x => V.one (C.d (D.int .i64 x))) (idxOf_none (any_end hi f0_1)).symm), rfl, rfl, rfl⟩
theorem pc_ContainsFunc_Dom (f : Nat) (caps : List C) (b : List (List C)) (r : List (Option RowO)) (m : List (List (DV × DV))) (φ : Dom → Bool) (l : List Dom) (hl : l.length ≤ 1000000000) (hc : ∀ d ∈ l, HCall Tryz.prog J f (.agg [.d (.str d.n), .d (.bool d.st), .d (.bool d.ab), .d (.vec 1 (d.vs.map fun x => [.str x]))] :: caps.map V.one) b r m (isH (.one (.d (.bool (φ d)))) b r m)) :
  HCall Tryz.prog J 24 ([.one (.d (.vec 4 (l.map domD))), .one (.clo f caps)]) (b) (r) (m) (isH (.one (.d (.bool (l.any φ)))) (b) (r) (m)) := by
 refine HCall.ofN tOk (fn := Tryz.f24) Tryz.func24 (by kernel_rfl) rfl (Nat.le_of_ble_eq_true rfl) (fun E => ?_)
 iterate 5 first|refine Yp rfl ?_|apply Y3|apply Y1
 refine S.hcallD rfl rfl rfl rfl (pc_IndexFunc_Dom f caps b r m φ l hl hc) ?_
 iterate 2 refine Yp rfl ?_
 apply Yn
 apply Yt
 exact ⟨_, rfl, LeG.of_eq (congrArg (fun x => V.one (C.d (D.bool x))) idxOf_ge), rfl, rfl, rfl⟩
theorem pc_IndexStr (l : List (List UInt8)) (x : List UInt8) (hl : l.length ≤ 1000000000) :
  PureCall Tryz.prog J 117 [.one (.d (.vec 1 (l.map fun x => [.str x]))), .one (.d (.str x))] (.one (.d (.int .i64 (idxOf (fun y => x == y) l)))) := by
 refine PureCall.of_body tOk (fn := Tryz.f117) Tryz.func117 (by kernel_rfl) rfl (Nat.le_of_ble_eq_true rfl) (fun E => ?_)
 iterate 9 first|refine Yp rfl ?_|apply Y1|apply Yn|apply Ys
 apply Yb
 refine W.loop (fun k st => ∃ i : Nat, i ≤ l.length ∧ (l.take i).any (fun y => x == y) = false ∧ k = l.length - i ∧ ∃ t b2 r2 m2, st = ⟨t, [] ++ b2, [] ++ r2, [] ++ m2⟩ ∧ holdsL t [(0, .one (.d (.vec 1 (l.map fun x => [.str x])))), (1, .one (.d (.str x))), (7, .one (.d (.int .i64 ((l.map fun x => ([.str x] : List D)).length : Int)))), (8, .one (.d (.int .i64 (i : Int))))]) (l.length) ⟨0, Nat.zero_le _, by simp, rfl, _, _, _, _, rfl, rfl, rfl, rfl, rfl, trivial⟩ ?_
 rintro k0 _ ⟨i, f0_0, f0_1, rfl, t0, bb0, rr0, mm0, rfl, hh0⟩
 refine W.keepR _ _ _ _ _ _ _ hh0 rfl ?_
 apply Y1
 refine Yp rfl ?_
 apply Yn
 apply Ys
 refine W.cond rfl (fun c1=>?_) fun c1=>?_
 ·skip
  have hi := row_lt c1
  iterate 11 first|refine Yp rfl ?_|apply Yb|apply Yk|apply Y3|apply Y1|apply Ys|apply Yn
  refine YE rfl (row_ok hi) (row_at [] hi) rfl ?_
  iterate 2 refine Yp rfl ?_
  apply Yn
  refine W.cond rfl (fun c2=>?_) fun c2=>?_
  ·skip
   iterate 10 first|apply Yu|apply Yv|refine Yp rfl ?_|apply Yt|apply Y1|apply Yn
   exact ⟨_, rfl, rfl, LeV.of_eq (congrArg (fun x => V.one (C.d (D.int .i64 x))) (idxOf_at (d := []) hi f0_1 c2).symm)⟩
  apply Yk
  apply Yw
  apply Y4
  iterate 2 refine Yp rfl ?_
  refine loop_n (l.length - (i + 1)) (by omega) ⟨i + 1, hi, any_take (d := []) hi f0_1 c2, rfl, _, _, _, _, rfl, rfl, rfl, rfl, inc_i64 (by omega), trivial⟩
 have hi := row_ge c1
 apply Yq
 apply Ye
 apply Ye
 apply Yx
 apply Y3
 refine Yp rfl ?_
 apply Yn
 apply Yt
 exact ⟨_, rfl, rfl, LeV.of_eq (congrArg (fun x => V.one (C.d (D.int .i64 x))) (idxOf_none (any_end hi f0_1)).symm)⟩
theorem pc_ContainsStr (l : List (List UInt8)) (x : List UInt8) (hl : l.length ≤ 1000000000) :
  PureCall Tryz.prog J 71 [.one (.d (.vec 1 (l.map fun x => [.str x]))), .one (.d (.str x))] (.one (.d (.bool (l.any (fun y => x == y))))) := by
 refine PureCall.of_body tOk (fn := Tryz.f71) Tryz.func71 (by kernel_rfl) rfl (Nat.le_of_ble_eq_true rfl) (fun E => ?_)
 iterate 5 first|refine Yp rfl ?_|apply Y3|apply Y1
 refine S.call rfl rfl rfl rfl rfl (pc_IndexStr l x hl) ?_
 iterate 2 refine Yp rfl ?_
 apply Yn
 apply Yt
 exact ⟨_, rfl, rfl, LeV.of_eq (congrArg (fun x => V.one (C.d (D.bool x))) idxOf_ge)⟩
theorem pc_like (d o : Dom) :
  HCall Tryz.prog J 69 ([.agg [.d (.str o.n), .d (.bool o.st), .d (.bool o.ab), .d (.vec 1 (o.vs.map fun x => [.str x]))], .one (.ptr 0 0)]) ([[.d (.str d.n), .d (.bool d.st), .d (.bool d.ab), .d (.vec 1 (d.vs.map fun x => [.str x]))]]) ([]) ([]) (isH (.one (.d (.bool (likeD d o)))) ([[.d (.str d.n), .d (.bool d.st), .d (.bool d.ab), .d (.vec 1 (d.vs.map fun x => [.str x]))]]) ([]) ([])) := by
 refine HCall.ofD tOk ⟨1, 0, 0⟩ (fn := Tryz.f69) Tryz.func69 (by kernel_rfl) rfl (Nat.le_of_ble_eq_true rfl) (fun E => ?_)
 iterate 19 first|refine S.pickAnd tOk zOk rfl rfl tg ?_|refine Yp rfl ?_|refine Yg rfl rfl tg ?_|apply Yt|refine S.box rfl rfl rfl rfl ?_|apply Y3|apply Y1|apply Yn
 exact ⟨_, rfl, rfl, LeG.refl _, rfl, rfl, rfl⟩
theorem pc_ver_domainsFault (l : List Dom) (hb : DomB l) :
  PureCall Tryz.prog J 23 [.one (.d (.vec 4 (l.map domD)))] (.tup [.one (.d (.int .i64 (dfP l).1)), .one (.d (.int .i64 ((dfP l).2 : Int)))]) := by
 have hn := hb.n
 refine PureCall.of_body tOk (fn := Tryz.f23) Tryz.func23 (by kernel_rfl) rfl (Nat.le_of_ble_eq_true rfl) (fun E => ?_)
 iterate 10 first|refine Yp rfl ?_|apply Y1|apply Yn|apply Ys
 refine W.cond rfl (fun c1=>?_) fun c1=>?_
 ·skip
  have hres := df_4 (l := l) (by simpa using c1)
  iterate 6 first|refine Yp rfl ?_|apply Yu|apply Yt|apply Y1|apply Yn
  exact Yz rfl rfl rfl (by rw [hres]; rfl)
 have c1 : decide ((l.length : Int) > 20) = false := by simpa using c1
 iterate 11 first|refine Yp rfl ?_|apply Yb|apply Yk|apply Y1|apply Y3|apply Yn|apply Ys
 refine W.loop (fun k st => ∃ i : Nat, i ≤ l.length ∧ OkTo (domAt l) i ∧ k = l.length - i ∧ ∃ t b2 r2 m2, st = ⟨t, [] ++ b2, [] ++ r2, [] ++ m2⟩ ∧ holdsL t [(0, .one (.d (.vec 4 (l.map domD)))), (4, .one (.d (.int .i64 ((capW 1001 (l.take i) : Nat) : Int)))), (14, .one (.d (.vec 4 (l.map domD)))), (15, .one (.d (.int .i64 ((l.map domD).length : Int)))), (16, .one (.d (.int .i64 (i : Int))))]) (l.length) ⟨0, Nat.zero_le _, ok_0 _, rfl, _, _, _, _, rfl, rfl, (by unfold capW prodL; rfl), rfl, rfl, rfl, trivial⟩ ?_
 rintro k0 _ ⟨i, f0_0, f0_1, rfl, t0, bb0, rr0, mm0, rfl, hh0⟩
 refine W.keepR _ _ _ _ _ _ _ hh0 rfl ?_
 apply Y1
 refine Yp rfl ?_
 apply Yn
 apply Ys
 refine W.cond rfl (fun c2=>?_) fun c2=>?_
 ·skip
  have hi := row_lt c2
  have hdi := dom_at hb hi
  apply Yk
  apply Yn
  apply Ys
  apply Yb
  apply Y1
  refine Yp rfl ?_
  refine YE rfl (row_ok hi) (row_at Dom.z hi) rfl ?_
  iterate 12 first|refine Yp rfl ?_|refine S.store tOk rfl rfl rfl rfl rfl rfl rfl rfl ?_|refine S.alloc tOk rfl rfl rfl rfl ?_|apply Y1|apply Y3|apply Yn|apply Ys
  refine W.cond rfl (fun c3=>?_) fun c3=>?_
  ·skip
   have hok := okN_t c3
   iterate 9 first|refine Yp rfl ?_|apply Yb|apply Y1|apply Ys|apply Yn|apply Yr
   refine S.call rfl rfl rfl rfl rfl (pc_ver_IsPath (l.getD i Dom.z).n (by omega)) ?_
   iterate 2 refine Yp rfl ?_
   apply Yn
   refine W.cond rfl (fun c4=>?_) fun c4=>?_
   ·skip
    have e5 : (!okN (l.getD i Dom.z)) = true := by rw [hok]; assumption
    have hres := df_e c1 (doms_hit hi f0_1 (da_5 e5) (by decide)) (by decide)
    iterate 12 first|apply Yu|apply Yv|refine Yp rfl ?_|apply Yt|apply Y1|apply Yn
    exact Yz rfl rfl rfl (by rw [hres]; rfl)
   have e5 : (!okN (l.getD i Dom.z)) = false := by rw [hok]; assumption
   apply Y1
   iterate 2 refine Yp rfl ?_
   refine YE rfl (sl_okT (l := 0) (h := (i : Int)) rfl rfl (by omega) (by omega) (by simp; omega)) (sl_take) rfl ?_
   refine S.makeFunc rfl rfl rfl ?_
   refine S.hcallD rfl rfl rfl rfl (pc_ContainsFunc_Dom 69 [.ptr 0 0] _ _ _ (likeD (l.getD i Dom.z)) (l.take i) (by simp; omega) (fun o ho => (pc_like (l.getD i Dom.z) o).fd [0] [] [] rfl)) ?_
   refine Yp rfl ?_
   apply Yn
   refine W.cond rfl (fun c5=>?_) fun c5=>?_
   ·skip
    have e6 : (l.take i).any (likeD (l.getD i Dom.z)) = true := by assumption
    have hres := df_e c1 (doms_hit hi f0_1 (da_6 e5 e6) (by decide)) (by decide)
    iterate 12 first|apply Yu|apply Yv|refine Yp rfl ?_|apply Yt|apply Y1|apply Yn
    exact Yz rfl rfl rfl (by rw [hres]; rfl)
   have e6 : (l.take i).any (likeD (l.getD i Dom.z)) = false := by assumption
   iterate 12 first|refine S.pickAnd tOk zOk rfl rfl tg ?_|refine Yp rfl ?_|refine Yg rfl rfl tg ?_|apply Y1|apply Yn
   refine W.cond rfl (fun c6=>?_) fun c6=>?_
   ·skip
    have e9 : ((((l.getD i Dom.z).vs.length : Int) == 0) && !(l.getD i Dom.z).ab) = true := by rw [← List.length_map (f := fun x => ([.str x] : List D))]; assumption
    have hres := df_e c1 (doms_hit hi f0_1 (da_9 e5 e6 e9) (by decide)) (by decide)
    iterate 12 first|apply Yu|apply Yv|refine Yp rfl ?_|apply Yt|apply Y1|apply Yn
    exact Yz rfl rfl rfl (by rw [hres]; rfl)
   have e9 : ((((l.getD i Dom.z).vs.length : Int) == 0) && !(l.getD i Dom.z).ab) = false := by rw [← List.length_map (f := fun x => ([.str x] : List D))]; assumption
   apply Y1
   iterate 5 refine Yp rfl ?_
   apply Yn
   refine W.cond rfl (fun c7=>?_) fun c7=>?_
   ·skip
    have e4 : decide (((l.getD i Dom.z).vs.length : Int) > 20) = true := by rw [← List.length_map (f := fun x => ([.str x] : List D))]; assumption
    have hres := df_e c1 (doms_hit hi f0_1 (da_4 e5 e6 e9 e4) (by decide)) (by decide)
    iterate 12 first|apply Yu|apply Yv|refine Yp rfl ?_|apply Yt|apply Y1|apply Yn
    exact Yz rfl rfl rfl (by rw [hres]; rfl)
   have e4 : decide (((l.getD i Dom.z).vs.length : Int) > 20) = false := by rw [← List.length_map (f := fun x => ([.str x] : List D))]; assumption
   iterate 11 first|refine Yp rfl ?_|apply Yb|apply Yw|apply Yk|apply Y1|apply Yn|apply Ys
   refine W.loop (fun k st => ∃ j : Nat, j ≤ (l.getD i Dom.z).vs.length ∧ OkTo (valAt (l.getD i Dom.z).vs) j ∧ k = (l.getD i Dom.z).vs.length - j ∧ ∃ t b2 r2 m2, st = ⟨t, [[.d (.str (l.getD i Dom.z).n), .d (.bool (l.getD i Dom.z).st), .d (.bool (l.getD i Dom.z).ab), .d (.vec 1 ((l.getD i Dom.z).vs.map fun x => [.str x]))]] ++ b2, [] ++ r2, [] ++ m2⟩ ∧ holdsL t [(0, .one (.d (.vec 4 (l.map domD)))), (4, .one (.d (.int .i64 ((capW 1001 (l.take i) : Nat) : Int)))), (6, .one (.ptr 0 0)), (14, .one (.d (.vec 4 (l.map domD)))), (15, .one (.d (.int .i64 ((l.map domD).length : Int)))), (16, .one (.d (.int .i64 (i : Int)))), (51, .one (.d (.vec 1 ((l.getD i Dom.z).vs.map fun x => [.str x])))), (52, .one (.d (.int .i64 (((l.getD i Dom.z).vs.map fun x => ([.str x] : List D)).length : Int)))), (53, .one (.d (.int .i64 (j : Int))))]) ((l.getD i Dom.z).vs.length) ⟨0, Nat.zero_le _, ok_0 _, rfl, _, _, _, _, rfl, rfl, rfl, rfl, rfl, rfl, rfl, rfl, rfl, rfl, trivial⟩ ?_
   rintro k3 _ ⟨j, f3_0, f3_1, rfl, t3, bb3, rr3, mm3, rfl, hh3⟩
   refine W.keepR _ _ _ _ _ _ _ hh3 rfl ?_
   apply Y1
   refine Yp rfl ?_
   apply Yn
   apply Ys
   refine W.cond rfl (fun c8=>?_) fun c8=>?_
   ·skip
    have hk := row_lt (by assumption)
    have hvl := hdi.2.2 ((l.getD i Dom.z).vs.getD j []) (mem_getD (d := ([] : L8)) hk)
    iterate 6 first|refine Yp rfl ?_|apply Yb|apply Yk|apply Y1|apply Ys|apply Yn
    refine YE rfl (row_ok hk) (row_at [] hk) rfl ?_
    iterate 7 first|refine Yp rfl ?_|apply Y1|apply Ys|apply Yn
    refine S.call rfl rfl rfl rfl rfl (pc_ver_IsValue ((l.getD i Dom.z).vs.getD j []) (by omega)) ?_
    refine Yp rfl ?_
    apply Yn
    refine W.cond rfl (fun c9=>?_) fun c9=>?_
    ·skip
     have e2 : (!valueB ((l.getD i Dom.z).vs.getD j [])) = true := by assumption
     have hres := df_e c1 (doms_hit hi f0_1 ((da_v e5 e6 e9 e4).trans (vals_hit hk f3_1 (va_2 e2) (by decide))) (by decide)) (by decide)
     iterate 16 first|apply Yu|apply Yv|refine Yp rfl ?_|apply Yt|apply Y1|apply Yn
     exact Yz rfl rfl rfl (by rw [hres]; rfl)
    have e2 : (!valueB ((l.getD i Dom.z).vs.getD j [])) = false := by assumption
    iterate 5 first|refine Yp rfl ?_|apply Yk|apply Y3
    refine YE rfl (sl_okT (l := 0) (h := (j : Int)) rfl rfl (by omega) (by omega) (by rw [List.length_map]; omega)) (sl_take) rfl ?_
    refine Yp rfl ?_
    refine S.call rfl rfl rfl rfl rfl (pc_ContainsStr ((l.getD i Dom.z).vs.take j) ((l.getD i Dom.z).vs.getD j []) (by simp; omega)) ?_
    apply Yn
    refine W.cond rfl (fun c10=>?_) fun c10=>?_
    ·skip
     have hres := df_e c1 (doms_hit hi f0_1 ((da_v e5 e6 e9 e4).trans (vals_hit hk f3_1 (va_6 e2 (by assumption)) (by decide))) (by decide)) (by decide)
     iterate 15 first|apply Yu|apply Yv|refine Yp rfl ?_|apply Yt|apply Y1|apply Yn
     exact Yz rfl rfl rfl (by rw [hres]; rfl)
    iterate 5 first|refine Yp rfl ?_|apply Yw|apply Yk|apply Y4
    refine loop_n ((l.getD i Dom.z).vs.length - (j + 1)) (by omega) ⟨j + 1, hk, ok_s f3_1 (va_0 e2 (by assumption)), rfl, _, _, _, _, rfl, rfl, rfl, rfl, rfl, rfl, rfl, rfl, rfl, inc_i64 (by omega), trivial⟩
   have hk := row_ge (by assumption)
   have hd0 : domAt l i = 0 := (da_v e5 e6 e9 e4).trans (vals_none hk f3_1)
   have hpos := da_pos hd0
   have hsl := size_le hpos.2.1
   have hcl := cap_le 1001 (l.take i)
   iterate 15 first|refine Yp rfl ?_|apply Ye|apply Yx|apply Yq|apply Y1|apply Y3|apply Yn|apply Ys
   refine W.cond rfl (fun c11=>?_) fun c11=>?_
   ·skip
    have hab : (l.getD i Dom.z).ab = true := by assumption
    have hsz : ((sizeD (l.getD i Dom.z) : Nat) : Int) = ((sizeD (l.getD i Dom.z) : Nat) : Int) := rfl
    apply Yr
    refine Yp rfl ?_
    refine YE rfl rfl (size_t hab hpos.2.1) rfl ?_
    iterate 4 first|refine Yp rfl ?_|apply Y4
    refine YE rfl rfl (mul_cap hsz hcl (by decide) hsl) rfl ?_
    iterate 6 first|refine Yp rfl ?_|apply Yw|apply Y4
    refine loop_n (l.length - (i + 1)) (by omega) ⟨i + 1, hi, ok_s f0_1 hd0, rfl, _, _, _, _, rfl, rfl, min_cap rfl hi hpos.1, rfl, rfl, inc_i64 (by omega), trivial⟩
   have hab : (l.getD i Dom.z).ab = false := by assumption
   have hsz := size_f hab
   apply Yk
   apply Y4
   iterate 2 refine Yp rfl ?_
   refine YE rfl rfl (mul_cap hsz hcl (by decide) hsl) rfl ?_
   iterate 6 first|refine Yp rfl ?_|apply Yw|apply Y4
   refine loop_n (l.length - (i + 1)) (by omega) ⟨i + 1, hi, ok_s f0_1 hd0, rfl, _, _, _, _, rfl, rfl, min_cap rfl hi hpos.1, rfl, rfl, inc_i64 (by omega), trivial⟩
  have hok := okN_f c3
  iterate 8 first|refine Yp rfl ?_|apply Yb|apply Yk|apply Y1|apply Ys|apply Yn
  refine S.call rfl rfl rfl rfl rfl (pc_ver_IsName (l.getD i Dom.z).n (by omega)) ?_
  iterate 2 refine Yp rfl ?_
  apply Yn
  refine W.cond rfl (fun c12=>?_) fun c12=>?_
  ·skip
   have e5 : (!okN (l.getD i Dom.z)) = true := by rw [hok]; assumption
   have hres := df_e c1 (doms_hit hi f0_1 (da_5 e5) (by decide)) (by decide)
   iterate 12 first|apply Yu|apply Yv|refine Yp rfl ?_|apply Yt|apply Y1|apply Yn
   exact Yz rfl rfl rfl (by rw [hres]; rfl)
  have e5 : (!okN (l.getD i Dom.z)) = false := by rw [hok]; assumption
  apply Y1
  iterate 2 refine Yp rfl ?_
  refine YE rfl (sl_okT (l := 0) (h := (i : Int)) rfl rfl (by omega) (by omega) (by simp; omega)) (sl_take) rfl ?_
  refine S.makeFunc rfl rfl rfl ?_
  refine S.hcallD rfl rfl rfl rfl (pc_ContainsFunc_Dom 69 [.ptr 0 0] _ _ _ (likeD (l.getD i Dom.z)) (l.take i) (by simp; omega) (fun o ho => (pc_like (l.getD i Dom.z) o).fd [0] [] [] rfl)) ?_
  refine Yp rfl ?_
  apply Yn
  refine W.cond rfl (fun c13=>?_) fun c13=>?_
  ·skip
   have e6 : (l.take i).any (likeD (l.getD i Dom.z)) = true := by assumption
   have hres := df_e c1 (doms_hit hi f0_1 (da_6 e5 e6) (by decide)) (by decide)
   iterate 12 first|apply Yu|apply Yv|refine Yp rfl ?_|apply Yt|apply Y1|apply Yn
   exact Yz rfl rfl rfl (by rw [hres]; rfl)
  have e6 : (l.take i).any (likeD (l.getD i Dom.z)) = false := by assumption
  iterate 12 first|refine S.pickAnd tOk zOk rfl rfl tg ?_|refine Yp rfl ?_|refine Yg rfl rfl tg ?_|apply Y1|apply Yn
  refine W.cond rfl (fun c14=>?_) fun c14=>?_
  ·skip
   have e9 : ((((l.getD i Dom.z).vs.length : Int) == 0) && !(l.getD i Dom.z).ab) = true := by rw [← List.length_map (f := fun x => ([.str x] : List D))]; assumption
   have hres := df_e c1 (doms_hit hi f0_1 (da_9 e5 e6 e9) (by decide)) (by decide)
   iterate 12 first|apply Yu|apply Yv|refine Yp rfl ?_|apply Yt|apply Y1|apply Yn
   exact Yz rfl rfl rfl (by rw [hres]; rfl)
  have e9 : ((((l.getD i Dom.z).vs.length : Int) == 0) && !(l.getD i Dom.z).ab) = false := by rw [← List.length_map (f := fun x => ([.str x] : List D))]; assumption
  apply Y1
  iterate 5 refine Yp rfl ?_
  apply Yn
  refine W.cond rfl (fun c15=>?_) fun c15=>?_
  ·skip
   have e4 : decide (((l.getD i Dom.z).vs.length : Int) > 20) = true := by rw [← List.length_map (f := fun x => ([.str x] : List D))]; assumption
   have hres := df_e c1 (doms_hit hi f0_1 (da_4 e5 e6 e9 e4) (by decide)) (by decide)
   iterate 12 first|apply Yu|apply Yv|refine Yp rfl ?_|apply Yt|apply Y1|apply Yn
   exact Yz rfl rfl rfl (by rw [hres]; rfl)
  have e4 : decide (((l.getD i Dom.z).vs.length : Int) > 20) = false := by rw [← List.length_map (f := fun x => ([.str x] : List D))]; assumption
  iterate 11 first|refine Yp rfl ?_|apply Yb|apply Yw|apply Yk|apply Y1|apply Yn|apply Ys
  refine W.loop (fun k st => ∃ j : Nat, j ≤ (l.getD i Dom.z).vs.length ∧ OkTo (valAt (l.getD i Dom.z).vs) j ∧ k = (l.getD i Dom.z).vs.length - j ∧ ∃ t b2 r2 m2, st = ⟨t, [[.d (.str (l.getD i Dom.z).n), .d (.bool (l.getD i Dom.z).st), .d (.bool (l.getD i Dom.z).ab), .d (.vec 1 ((l.getD i Dom.z).vs.map fun x => [.str x]))]] ++ b2, [] ++ r2, [] ++ m2⟩ ∧ holdsL t [(0, .one (.d (.vec 4 (l.map domD)))), (4, .one (.d (.int .i64 ((capW 1001 (l.take i) : Nat) : Int)))), (6, .one (.ptr 0 0)), (14, .one (.d (.vec 4 (l.map domD)))), (15, .one (.d (.int .i64 ((l.map domD).length : Int)))), (16, .one (.d (.int .i64 (i : Int)))), (51, .one (.d (.vec 1 ((l.getD i Dom.z).vs.map fun x => [.str x])))), (52, .one (.d (.int .i64 (((l.getD i Dom.z).vs.map fun x => ([.str x] : List D)).length : Int)))), (53, .one (.d (.int .i64 (j : Int))))]) ((l.getD i Dom.z).vs.length) ⟨0, Nat.zero_le _, ok_0 _, rfl, _, _, _, _, rfl, rfl, rfl, rfl, rfl, rfl, rfl, rfl, rfl, rfl, trivial⟩ ?_
  rintro k3 _ ⟨j, f3_0, f3_1, rfl, t3, bb3, rr3, mm3, rfl, hh3⟩
  refine W.keepR _ _ _ _ _ _ _ hh3 rfl ?_
  apply Y1
  refine Yp rfl ?_
  apply Yn
  apply Ys
  refine W.cond rfl (fun c16=>?_) fun c16=>?_
  ·skip
   have hk := row_lt (by assumption)
   have hvl := hdi.2.2 ((l.getD i Dom.z).vs.getD j []) (mem_getD (d := ([] : L8)) hk)
   apply Yk
   apply Yn
   apply Ys
   apply Yb
   apply Y1
   refine Yp rfl ?_
   refine YE rfl (row_ok hk) (row_at [] hk) rfl ?_
   iterate 7 first|refine Yp rfl ?_|apply Y1|apply Ys|apply Yn
   refine S.call rfl rfl rfl rfl rfl (pc_ver_IsValue ((l.getD i Dom.z).vs.getD j []) (by omega)) ?_
   refine Yp rfl ?_
   apply Yn
   refine W.cond rfl (fun c17=>?_) fun c17=>?_
   ·skip
    have e2 : (!valueB ((l.getD i Dom.z).vs.getD j [])) = true := by assumption
    have hres := df_e c1 (doms_hit hi f0_1 ((da_v e5 e6 e9 e4).trans (vals_hit hk f3_1 (va_2 e2) (by decide))) (by decide)) (by decide)
    iterate 16 first|apply Yu|apply Yv|refine Yp rfl ?_|apply Yt|apply Y1|apply Yn
    exact Yz rfl rfl rfl (by rw [hres]; rfl)
   have e2 : (!valueB ((l.getD i Dom.z).vs.getD j [])) = false := by assumption
   apply Yk
   apply Y3
   iterate 3 refine Yp rfl ?_
   refine YE rfl (sl_okT (l := 0) (h := (j : Int)) rfl rfl (by omega) (by omega) (by rw [List.length_map]; omega)) (sl_take) rfl ?_
   refine Yp rfl ?_
   refine S.call rfl rfl rfl rfl rfl (pc_ContainsStr ((l.getD i Dom.z).vs.take j) ((l.getD i Dom.z).vs.getD j []) (by simp; omega)) ?_
   apply Yn
   refine W.cond rfl (fun c18=>?_) fun c18=>?_
   ·skip
    have hres := df_e c1 (doms_hit hi f0_1 ((da_v e5 e6 e9 e4).trans (vals_hit hk f3_1 (va_6 e2 (by assumption)) (by decide))) (by decide)) (by decide)
    iterate 15 first|apply Yu|apply Yv|refine Yp rfl ?_|apply Yt|apply Y1|apply Yn
    exact Yz rfl rfl rfl (by rw [hres]; rfl)
   iterate 5 first|refine Yp rfl ?_|apply Yw|apply Yk|apply Y4
   refine loop_n ((l.getD i Dom.z).vs.length - (j + 1)) (by omega) ⟨j + 1, hk, ok_s f3_1 (va_0 e2 (by assumption)), rfl, _, _, _, _, rfl, rfl, rfl, rfl, rfl, rfl, rfl, rfl, rfl, inc_i64 (by omega), trivial⟩
  have hk := row_ge (by assumption)
  have hd0 : domAt l i = 0 := (da_v e5 e6 e9 e4).trans (vals_none hk f3_1)
  have hpos := da_pos hd0
  have hsl := size_le hpos.2.1
  have hcl := cap_le 1001 (l.take i)
  iterate 15 first|refine Yp rfl ?_|apply Ye|apply Yx|apply Yq|apply Y1|apply Y3|apply Yn|apply Ys
  refine W.cond rfl (fun c19=>?_) fun c19=>?_
  ·skip
   have hab : (l.getD i Dom.z).ab = true := by assumption
   have hsz : ((sizeD (l.getD i Dom.z) : Nat) : Int) = ((sizeD (l.getD i Dom.z) : Nat) : Int) := rfl
   apply Yr
   refine Yp rfl ?_
   refine YE rfl rfl (size_t hab hpos.2.1) rfl ?_
   iterate 4 first|refine Yp rfl ?_|apply Y4
   refine YE rfl rfl (mul_cap hsz hcl (by decide) hsl) rfl ?_
   iterate 6 first|refine Yp rfl ?_|apply Yw|apply Y4
   refine loop_n (l.length - (i + 1)) (by omega) ⟨i + 1, hi, ok_s f0_1 hd0, rfl, _, _, _, _, rfl, rfl, min_cap rfl hi hpos.1, rfl, rfl, inc_i64 (by omega), trivial⟩
  have hab : (l.getD i Dom.z).ab = false := by assumption
  have hsz := size_f hab
  apply Yk
  apply Y4
  iterate 2 refine Yp rfl ?_
  refine YE rfl rfl (mul_cap hsz hcl (by decide) hsl) rfl ?_
  iterate 6 first|refine Yp rfl ?_|apply Yw|apply Y4
  refine loop_n (l.length - (i + 1)) (by omega) ⟨i + 1, hi, ok_s f0_1 hd0, rfl, _, _, _, _, rfl, rfl, min_cap rfl hi hpos.1, rfl, rfl, inc_i64 (by omega), trivial⟩
 have hi := row_ge c2
 obtain rfl : i = l.length := by omega
 rw [List.take_length]
 have hres := df_0 c1 (doms_none (Nat.le_refl _) f0_1)
 iterate 9 first|refine Yp rfl ?_|apply Ye|apply Yx|apply Yq|apply Y3|apply Yn
 apply Yt
 exact Yz rfl rfl rfl (by rw [hres]; rfl)
end
section
open Go
def compactG {α : Type} (eq : α → α → Bool) : α → List α → List α
 | _, [] => []
 | p, y :: l => if eq y p then compactG eq y l else y :: compactG eq y l
def compactF {α : Type} (eq : α → α → Bool) : List α → List α
 | [] => []
 | x :: l => x :: compactG eq x l
end
end Go.Proofs.YtfcdmcdhhikhaaaGreatDoor
