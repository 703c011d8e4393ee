/- Plain words on versions: the reference's order and errors are the program's. -/
import Derived.Test.YtepdjimbnbiicaaGreatDoorV3
import Derived.Lib.AtoiTie
import Derived.Test.YtepdjimbnbiicaaGreatDoorP1
set_option linter.unusedVariables false
set_option linter.unusedSimpArgs false
namespace Go.Proofs.YtepdjimbnbiicaaGreatDoor
open Go

/-! ### Errors -/
section
variable {v : Ver}
theorem chk_a (h : (!inB v.a 0 999999) = true) : v.check = 3 := by
  rw [inB_eq, Bool.not_not] at h
  simp [Ver.check, checkB, outsideN, h]
theorem in_out {x : Int} (h : (!inB x 0 999999) = false) : outsideN x = false := by
  rw [inB_eq, Bool.not_not] at h; exact h
theorem chk_b (ha : (!inB v.a 0 999999) = false) (h : (!inB v.b 0 999999) = true) : v.check = 3 := by
  rw [inB_eq, Bool.not_not] at h
  simp [Ver.check, checkB, outsideN, h]
theorem chk_c (ha : (!inB v.a 0 999999) = false) (hb : (!inB v.b 0 999999) = false) (h : (!inB v.c 0 999999) = true) : v.check = 3 := by
  rw [inB_eq, Bool.not_not] at h
  simp [Ver.check, checkB, outsideN, h]
theorem chk_0 (ha : (!inB v.a 0 999999) = false) (hb : (!inB v.b 0 999999) = false) (hc : (!inB v.c 0 999999) = false) (he : (v.e == []) = true) : v.check = 0 := by
  simp [Ver.check, checkB, in_out ha, in_out hb, in_out hc, he]
theorem chk_e (ha : (!inB v.a 0 999999) = false) (hb : (!inB v.b 0 999999) = false) (hc : (!inB v.c 0 999999) = false) (he : (v.e == []) = false) : v.check = if earlyB v.e then 0 else 2 := by
  simp only [Ver.check, checkB, in_out ha, in_out hb, in_out hc, he]
  cases earlyB v.e <;> rfl
theorem chk_len (ha : (!inB v.a 0 999999) = false) (hb : (!inB v.b 0 999999) = false) (hc : (!inB v.c 0 999999) = false) (he : (v.e == []) = false) (h : decide ((v.e.length : Int) > 40) = true) : v.check = 2 := by
  rw [chk_e ha hb hc he, earlyB, Bool.and_comm, not_le_of h]; rfl
theorem chk_word {j : Nat} (ha : (!inB v.a 0 999999) = false) (hb : (!inB v.b 0 999999) = false) (hc : (!inB v.c 0 999999) = false) (he : (v.e == []) = false) (hj : j < (Lib.split v.e [46]).length) (h : wordB ((Lib.split v.e [46]).getD j []) = false) : v.check = 2 := by
  rw [chk_e ha hb hc he, earlyB, all_false_of hj h]; rfl
theorem chk_ok {j : Nat} (ha : (!inB v.a 0 999999) = false) (hb : (!inB v.b 0 999999) = false) (hc : (!inB v.c 0 999999) = false) (he : (v.e == []) = false) (hl : decide ((v.e.length : Int) ≤ 40) = true) (hj : (Lib.split v.e [46]).length ≤ j) (h : ((Lib.split v.e [46]).take j).all wordB = true) : v.check = 0 := by
  rw [chk_e ha hb hc he, earlyB, all_of_take hj h, hl]; rfl
end
theorem verr_at {vs : List Ver} {i : Nat} (hi : i < vs.length) : (vs.map Ver.check).getD i 0 = (vs.getD i Ver.z).check := by
  simp [List.getD, List.getElem?_eq_getElem hi]
theorem verr_go {vs : List Ver} {i : Nat} (hi : i < vs.length) (h : (vs.getD i Ver.z).check = 0) : ((vs.map Ver.check).getD i 0 == 0) = true := by
  rw [verr_at hi, h]; rfl
theorem verr_hit {vs : List Ver} {i : Nat} {n : Int} (hi : i < vs.length) (ht : ((vs.map Ver.check).take i).all (· == 0) = true) (h : (vs.getD i Ver.z).check = n) (hn : n ≠ 0) : firstNe (vs.map Ver.check) = n := by
  rw [firstNe_hit (by simpa using hi) ht (by rw [verr_at hi, h]; exact hn), verr_at hi, h]
theorem ver_at {vs : List Ver} {i n : Nat} (hv : ∀ v ∈ vs, v.e.length < n) (hi : i < vs.length) : (vs.getD i Ver.z).e.length < n := by
  rw [List.getD_eq_getElem?_getD, List.getElem?_eq_getElem hi]
  exact hv _ (List.getElem_mem hi)
theorem checkB_or (x y z : Int) : checkB x y z [] = 0 ∨ checkB x y z [] = 3 := by
  by_cases h : checkB x y z [] = 0
  · exact .inl h
  · exact .inr (checkB_nil x y z h)

/-! ### The order -/
theorem cw_pq {p q : List UInt8} (h : (ofB p digitS && ofB q digitS) = true) : cwR p q = Lib.compareInt (atoiV p) (atoiV q) := if_pos h
theorem cw_p {p q : List UInt8} (h : (ofB p digitS && ofB q digitS) = false) (hp : ofB p digitS = true) : cwR p q = -1 := by rw [cwR, if_neg (Bool.eq_false_iff.1 h), if_pos hp]
theorem cw_q {p q : List UInt8} (h : (ofB p digitS && ofB q digitS) = false) (hp : ofB p digitS = false) (hq : ofB q digitS = true) : cwR p q = 1 := by rw [cwR, if_neg (Bool.eq_false_iff.1 h), if_neg (Bool.eq_false_iff.1 hp), if_pos hq]
theorem cw_n {p q : List UInt8} (h : (ofB p digitS && ofB q digitS) = false) (hp : ofB p digitS = false) (hq : ofB q digitS = false) : cwR p q = Lib.compareBytes p q := by rw [cwR, if_neg (Bool.eq_false_iff.1 h), if_neg (Bool.eq_false_iff.1 hp), if_neg (Bool.eq_false_iff.1 hq)]
theorem cw_go {xs ys : List (List UInt8)} {i : Nat} {x : Int} (hi : i < xs.length ∧ i < ys.length) (h : cwR (xs.getD i []) (ys.getD i []) = x) (hx : (x != 0) = false) : ((List.zipWith cwR xs ys).getD i 0 == 0) = true := by
  rw [zip_at [] [] hi.1 hi.2, h]; simpa using hx
theorem cw_lt {xs ys : List (List UInt8)} {i : Nat} (hi : i < xs.length ∧ i < ys.length) : i < (List.zipWith cwR xs ys).length := by simp; omega
theorem cw_hit {xs ys : List (List UInt8)} {i : Nat} {x : Int} (hi : i < xs.length ∧ i < ys.length) (ht : ((List.zipWith cwR xs ys).take i).all (· == 0) = true) (h : cwR (xs.getD i []) (ys.getD i []) = x) (hx : (x != 0) = true) : rowsR xs ys = x := by
  have hz := zip_at (f := cwR) [] [] hi.1 hi.2
  have hh := firstNe_hit (cw_lt hi) ht (by rw [hz, h]; simpa using hx)
  rw [hz, h] at hh
  rw [rowsR, hh, if_pos hx]
theorem cw_end {xs ys : List (List UInt8)} {i : Nat} (hi : xs.length ≤ i ∨ ys.length ≤ i) (ht : ((List.zipWith cwR xs ys).take i).all (· == 0) = true) : rowsR xs ys = Lib.compareInt xs.length ys.length := by
  rw [rowsR, firstNe_none (by simp; omega) ht]; rfl
section
variable {v w : Ver}
theorem cmp_1 (h : (firstNe [Lib.compareInt v.a w.a, Lib.compareInt v.b w.b, Lib.compareInt v.c w.c] != 0) = true) : compareR v w = firstNe [Lib.compareInt v.a w.a, Lib.compareInt v.b w.b, Lib.compareInt v.c w.c] := if_pos h
theorem cmp_2 (h : (firstNe [Lib.compareInt v.a w.a, Lib.compareInt v.b w.b, Lib.compareInt v.c w.c] != 0) = false) (he : (v.e == [] || w.e == []) = true) : compareR v w = Lib.compareInt (min1 w.e.length) (min1 v.e.length) := by
  rw [compareR, if_neg (Bool.eq_false_iff.1 h), if_pos he]
theorem cmp_3 (h : (firstNe [Lib.compareInt v.a w.a, Lib.compareInt v.b w.b, Lib.compareInt v.c w.c] != 0) = false) (he : (v.e == [] || w.e == []) = false) : compareR v w = rowsR (Lib.split v.e [46]) (Lib.split w.e [46]) := by
  rw [compareR, if_neg (Bool.eq_false_iff.1 h), if_neg (Bool.eq_false_iff.1 he)]
end

/-! ### Numerals -/
theorem dec_ge : ∀ (l : List UInt8) (acc : Nat), acc * 10 ^ l.length ≤ dec acc l
  | [], acc => by rw [dec_nil]; exact Nat.le_of_eq (Nat.mul_one acc)
  | c :: l, acc => by
    have h := dec_ge l (acc * 10 + (c.toNat - 48))
    simp only [dec_cons, List.length_cons, Nat.pow_succ]
    refine Nat.le_trans ?_ h
    rw [Nat.mul_comm (10 ^ l.length) 10, ← Nat.mul_assoc]
    exact Nat.mul_le_mul_right _ (by omega)
theorem dig_le {c : UInt8} (h : isDigit (bI c) = true) : 48 ≤ c.toNat ∧ c.toNat ≤ 57 := by
  unfold isDigit bI at h; simp at h; omega
theorem dec_lt : ∀ (l : List UInt8) (acc : Nat), (l.all fun c => isDigit (bI c)) = true → dec acc l < (acc + 1) * 10 ^ l.length
  | [], acc, _ => by rw [dec_nil]; exact Nat.lt_of_lt_of_le (Nat.lt_succ_self acc) (Nat.le_of_eq (Nat.mul_one _).symm)
  | c :: l, acc, h => by
    simp only [List.all_cons, Bool.and_eq_true] at h
    have h1 := dig_le h.1
    have h2 := dec_lt l (acc * 10 + (c.toNat - 48)) h.2
    simp only [dec_cons, List.length_cons, Nat.pow_succ]
    refine Nat.lt_of_lt_of_le h2 ?_
    rw [Nat.mul_comm (10 ^ l.length) 10, ← Nat.mul_assoc]
    exact Nat.mul_le_mul_right _ (by omega)
theorem dec_mono {l m : List UInt8} {a b : Nat} (hn : l.length = m.length) (hl : (l.all fun c => isDigit (bI c)) = true) (h : a < b) : dec a l < dec b m := by
  refine Nat.lt_of_lt_of_le (dec_lt l a hl) (Nat.le_trans ?_ (dec_ge m b))
  rw [hn]; exact Nat.mul_le_mul_right _ h
theorem cmp_refl (x : Int) : Lib.compareInt x x = 0 := by unfold Lib.compareInt; rw [if_neg (by omega), if_neg (by omega)]
theorem cmp_lt {x y : Int} (h : x < y) : Lib.compareInt x y = -1 := by unfold Lib.compareInt; rw [if_pos h]
theorem cmp_gt {x y : Int} (h : y < x) : Lib.compareInt x y = 1 := by unfold Lib.compareInt; rw [if_neg (by omega), if_pos h]
theorem dec_cmp : ∀ (l m : List UInt8) (acc : Nat), l.length = m.length → (l.all fun c => isDigit (bI c)) = true → (m.all fun c => isDigit (bI c)) = true → Lib.compareBytes l m = Lib.compareInt (dec acc l) (dec acc m)
  | [], [], acc, _, _, _ => by rw [dec_nil, cmp_refl]; rfl
  | [], _ :: _, _, h, _, _ => by simp at h
  | _ :: _, [], _, h, _, _ => by simp at h
  | a :: l, b :: m, acc, h, hl, hm => by
    simp only [List.length_cons, Nat.add_right_cancel_iff] at h
    simp only [List.all_cons, Bool.and_eq_true] at hl hm
    have h1 := dig_le hl.1
    have h2 := dig_le hm.1
    unfold Lib.compareBytes
    split
    · rename_i hab
      have hab' : a.toNat < b.toNat := hab
      have := dec_mono (l := l) (m := m) (a := acc * 10 + (a.toNat - 48)) (b := acc * 10 + (b.toNat - 48)) h hl.2 (by omega)
      rw [cmp_lt (by rw [dec_cons, dec_cons]; omega)]
    · split
      · rename_i hab
        have hab' : b.toNat < a.toNat := hab
        have := dec_mono (l := m) (m := l) (a := acc * 10 + (b.toNat - 48)) (b := acc * 10 + (a.toNat - 48)) h.symm hm.2 (by omega)
        rw [cmp_gt (by rw [dec_cons, dec_cons]; omega)]
      · rename_i h3 h4
        have h3' : ¬ a.toNat < b.toNat := h3
        have h4' : ¬ b.toNat < a.toNat := h4
        have e : a.toNat = b.toNat := by omega
        rw [dec_cons, dec_cons, e]
        exact dec_cmp l m _ h hl.2 hm.2
theorem decFrom_dec : ∀ (l : List UInt8) (acc : Nat), (l.all fun c => isDigit (bI c)) = true → Lib.decFrom acc l = some (dec acc l)
  | [], acc, _ => by rw [dec_nil]; rfl
  | c :: l, acc, h => by
    simp only [List.all_cons, Bool.and_eq_true] at h
    have h1 := dig_le h.1
    unfold Lib.decFrom
    rw [show Lib.digitVal c = some (c.toNat - 48) by unfold Lib.digitVal; rw [if_pos h1]]
    rw [dec_cons]
    exact decFrom_dec l _ h.2
theorem atoi_dec {l : List UInt8} (hn : l ≠ []) (hl : l.length ≤ 18) (h : (l.all fun c => isDigit (bI c)) = true) : atoiV l = dec 0 l ∧ atoiOk l = true := by
  have e : Lib.atoiAll l = .ok ((dec 0 l : Nat) : Int) := by
    rw [Lib.atoiAll_short l hl]
    have : Lib.atoi l = some ((dec 0 l : Nat) : Int) := by
      match l, hn with
      | c :: r, _ =>
        have hd := decFrom_dec (c :: r) 0 h
        simp only [List.all_cons, Bool.and_eq_true] at h
        have h1 := dig_le h.1
        have h45 : (c == 45) = false := by rw [beq_eq_false_iff_ne]; intro e; subst e; simp at h1
        have h43 : (c == 43) = false := by rw [beq_eq_false_iff_ne]; intro e; subst e; simp at h1
        simp only [Lib.atoi, h45, h43, Lib.decNat, hd]
        rfl
    rw [this]; rfl
  unfold atoiV atoiOk
  rw [e]; exact ⟨rfl, rfl⟩
theorem numeral_of {w : List UInt8} (h : numeralB w = true) : (w.all fun c => isDigit (bI c)) = true ∧ w ≠ [] ∧ w.length ≤ 10 := by
  unfold numeralB eachB at h
  simp only [Bool.and_eq_true, Bool.not_eq_true', beq_eq_false_iff_ne, decide_eq_true_eq] at h
  exact ⟨h.1, h.2.1, by omega⟩
theorem word_of {w : List UInt8} (h : wordB w = true) : w ≠ [] ∧ w.length ≤ 10 ∧ numeralB w = ofB w digitS ∧ (numeralB w = true → bI (w.getD 0 0) = 48 → w = [48]) := by
  unfold wordB eachB at h
  simp only [Bool.and_eq_true, Bool.not_eq_true', beq_eq_false_iff_ne, decide_eq_true_eq] at h
  refine ⟨h.1.2.1, by omega, ?_, fun h1 h2 => ?_⟩
  · rw [ofB_digit, numeralB, eachB]
    have h10 : decide ((w.length : Int) ≤ 10) = true := decide_eq_true h.1.2.2
    rw [h10, show (w == []) = false from beq_eq_false_iff_ne.2 h.1.2.1]
    simp
  · have := h.2
    rw [h1, h2] at this
    simpa using this
theorem dec_long {p q : List UInt8} (hp : numeralB p = true) (hq : numeralB q = true) (h0 : bI (q.getD 0 0) = 48 → q = [48]) (h : p.length < q.length) : dec 0 p < dec 0 q := by
  obtain ⟨p1, p2, p3⟩ := numeral_of hp
  obtain ⟨q1, q2, q3⟩ := numeral_of hq
  have hlt := dec_lt p 0 p1
  match q, q2 with
  | c :: r, _ =>
    have hr : p.length ≤ r.length := by simp at h; omega
    have hc : c.toNat - 48 ≥ 1 := by
      simp only [List.all_cons, Bool.and_eq_true] at q1
      have h1 := dig_le q1.1
      apply Decidable.byContradiction; intro hh
      have e := h0 (by simp [bI]; omega)
      have : p.length = 0 := by
        have := congrArg List.length e; simp at this; simp [this] at hr
        exact hr ▸ rfl
      exact p2 (List.length_eq_zero_iff.1 this)
    have hge := dec_ge r (c.toNat - 48)
    have h2 : 10 ^ p.length ≤ 10 ^ r.length := Nat.pow_le_pow_right (by decide) hr
    have h3 : 1 * 10 ^ r.length ≤ (c.toNat - 48) * 10 ^ r.length := Nat.mul_le_mul_right _ hc
    simp only [dec_cons, Nat.zero_mul, Nat.zero_add] at hge ⊢
    omega
theorem cw_eq {p q : List UInt8} (hp : wordB p = true) (hq : wordB q = true) : cwB p q = cwR p q := by
  obtain ⟨p1, p2, p3, p4⟩ := word_of hp
  obtain ⟨q1, q2, q3, q4⟩ := word_of hq
  unfold cwB cwR
  rw [← p3, ← q3]
  cases np : numeralB p <;> cases nq : numeralB q <;> simp only [Bool.and_true, Bool.and_false, Bool.false_and, Bool.true_and, if_true, if_false, Bool.false_eq_true]
  · obtain ⟨dp, _, _⟩ := numeral_of np
    obtain ⟨dq, _, _⟩ := numeral_of nq
    rw [(atoi_dec p1 (by omega) dp).1, (atoi_dec q1 (by omega) dq).1]
    by_cases hl : p.length = q.length
    · rw [if_neg (by simp [hl])]
      exact dec_cmp p q 0 hl dp dq
    · rw [if_pos (by simp; omega)]
      by_cases h : p.length < q.length
      · rw [cmp_lt (by omega), cmp_lt (by have := dec_long np nq (q4 nq) h; omega)]
      · rw [cmp_gt (by omega), cmp_gt (by have := dec_long nq np (p4 np) (by omega); omega)]
theorem zip_eq : ∀ {xs ys : List (List UInt8)}, xs.all wordB = true → ys.all wordB = true → List.zipWith cwB xs ys = List.zipWith cwR xs ys
  | [], _, _, _ => by simp
  | _ :: _, [], _, _ => by simp
  | x :: xs, y :: ys, h1, h2 => by
    simp only [List.all_cons, Bool.and_eq_true] at h1 h2
    simp only [List.zipWith_cons_cons, cw_eq h1.1 h2.1, zip_eq h1.2 h2.2]
theorem bytes_refl : ∀ (l : List UInt8), Lib.compareBytes l l = 0
  | [] => rfl
  | a :: l => by
    unfold Lib.compareBytes
    rw [if_neg (by show ¬ a.toNat < a.toNat; omega), if_neg (by show ¬ a.toNat < a.toNat; omega)]
    exact bytes_refl l
theorem cwB_refl (p : List UInt8) : cwB p p = 0 := by
  unfold cwB
  cases numeralB p <;> simp [bytes_refl]
theorem rows_refl (xs : List (List UInt8)) : rowsB xs xs = 0 := by
  have : firstNe (List.zipWith cwB xs xs) = 0 := by
    unfold firstNe
    rw [List.find?_eq_none.2]
    · rfl
    · intro x hx
      have : ∀ (l : List (List UInt8)), ∀ x ∈ List.zipWith cwB l l, x = 0 := by
        intro l
        induction l with
        | nil => simp
        | cons a l ih => intro x hx; simp only [List.zipWith_cons_cons, List.mem_cons, cwB_refl] at hx; exact hx.elim id (ih x)
      simp [this xs x hx]
  rw [rowsB, this, cmp_refl]; rfl
theorem check_early {v : Ver} (h : v.check = 0) : v.e = [] ∨ (Lib.split v.e [46]).all wordB = true := by
  unfold Ver.check checkB at h
  split at h
  · cases h
  · split at h
    · cases h
    · rename_i h2
      cases he : (v.e == []) with
      | true => exact .inl (by simpa using he)
      | false =>
        refine .inr ?_
        rw [he] at h2
        simp only [Bool.not_false, Bool.true_and, Bool.not_eq_true, Bool.not_eq_false'] at h2
        unfold earlyB at h2
        exact (Bool.and_eq_true_iff.1 h2).1
theorem first3 (a b c d : Int) : firstNe [a, b, c, d] = if firstNe [a, b, c] != 0 then firstNe [a, b, c] else d := by
  unfold firstNe
  by_cases ha : a = 0 <;> by_cases hb : b = 0 <;> by_cases hc : c = 0 <;> by_cases hd : d = 0 <;> simp [ha, hb, hc, hd, bne_iff_ne]
theorem min1_nil : min1 (([] : List UInt8).length : Int) = 0 := rfl
theorem min1_pos {l : List UInt8} (h : l ≠ []) : min1 (l.length : Int) = 1 := by
  unfold min1
  cases l with
  | nil => exact absurd rfl h
  | cons a l => rw [if_neg (by simp only [List.length_cons]; omega)]
/-- Of right versions the reference's order is the program's. -/
theorem compare_eq {v w : Ver} (hv : v.check = 0) (hw : w.check = 0) : compareR v w = orderB v w := by
  unfold compareR orderB
  rw [first3]
  split
  · rfl
  · unfold ceB
    by_cases e1 : v.e = []
    · by_cases e2 : w.e = []
      · simp [e1, e2, min1, Lib.compareInt]
      · have hs : (([] : List UInt8) == w.e) = false := by rw [beq_eq_false_iff_ne]; exact fun e => e2 e.symm
        rw [e1, min1_nil, min1_pos e2, hs]; rfl
    · by_cases e2 : w.e = []
      · have hs : (v.e == ([] : List UInt8)) = false := by rw [beq_eq_false_iff_ne]; exact e1
        rw [e2, min1_nil, min1_pos e1, hs]; rfl
      · have h1 : (v.e == ([] : List UInt8)) = false := by rw [beq_eq_false_iff_ne]; exact e1
        have h2 : (w.e == ([] : List UInt8)) = false := by rw [beq_eq_false_iff_ne]; exact e2
        rw [h1, h2]
        have hr : rowsR (Lib.split v.e [46]) (Lib.split w.e [46]) = rowsB (Lib.split v.e [46]) (Lib.split w.e [46]) := by
          unfold rowsR rowsB
          rw [zip_eq ((check_early hv).resolve_left e1) ((check_early hw).resolve_left e2)]
        simp only [Bool.or_self, Bool.false_eq_true, if_false]
        rw [hr]
        by_cases e : v.e = w.e
        · rw [e, rows_refl]; simp
        · rw [if_neg (by simpa using e)]
end Go.Proofs.YtepdjimbnbiicaaGreatDoor
