/- Plain words on versions: what is printed is read again. -/
import Derived.Test.YtepdjimbnbiicaaGreatDoorV4
set_option linter.unusedVariables false
set_option linter.unusedSimpArgs false
namespace Go.Proofs.YtepdjimbnbiicaaGreatDoor
open Go
theorem num_itoa {n : Int} (h : outsideN n = false) : numB (Lib.itoa n) = (n, true) ∧ (∀ c ∈ Lib.itoa n, 48 ≤ c.toNat ∧ c.toNat ≤ 57) := by
  have hb : 0 ≤ n ∧ n ≤ 999999 := by unfold outsideN outsideB at h; simp at h; omega
  have hi : Lib.itoa n = Lib.decDigits n.toNat := by unfold Lib.itoa; rw [if_neg (by omega)]
  rw [hi]
  refine ⟨?_, digits_all _⟩
  have hd : ((Lib.decDigits n.toNat).all fun c => isDigit (bI c)) = true := by
    rw [List.all_eq_true]; intro c hc
    have := digits_all _ c hc
    unfold isDigit bI; simp; omega
  have hl := digits_len 5 n.toNat (by have : (10 : Nat) ^ 6 = 1000000 := by decide
                                      omega)
  have ha := atoi_dec (digits_ne n.toNat) (by omega) hd
  have he : eachB isDigit (Lib.decDigits n.toNat) 9 = true := by
    unfold eachB
    rw [hd]; simp only [Bool.true_and, Bool.and_eq_true, Bool.not_eq_true', beq_eq_false_iff_ne, decide_eq_true_eq]
    exact ⟨digits_ne _, by omega⟩
  have hz : (bI ((Lib.decDigits n.toNat).getD 0 0) == 48 && !(Lib.decDigits n.toNat == [48])) = false := by
    by_cases h0 : n.toNat = 0
    · rw [h0, digits_zero]; rfl
    · have := digits_head _ h0
      have : (bI ((Lib.decDigits n.toNat).getD 0 0) == 48) = false := by rw [beq_eq_false_iff_ne]; unfold bI; omega
      rw [this]; rfl
  unfold numB
  rw [he, hz, ha.1, ha.2, digits_dec]
  simp only [Bool.not_true, Bool.or_self, Bool.false_eq_true, if_false, Prod.mk.injEq, and_true]
  omega
theorem not_mem_of {x : List UInt8} {c : UInt8} (h : ∀ d ∈ x, 48 ≤ d.toNat ∧ d.toNat ≤ 57) (hc : c.toNat < 48) : c ∉ x := fun hm => by have := h c hm; omega
theorem parse_text {v : Ver} (h : v.check = 0) : parseB (textB v.a v.b v.c v.e) = (v, 0) := by
  have h' := h
  unfold Ver.check checkB at h'
  split at h'
  · cases h'
  · rename_i ho
    have ho' : outsideN v.a = false ∧ outsideN v.b = false ∧ outsideN v.c = false := by
      cases ha : outsideN v.a <;> cases hb : outsideN v.b <;> cases hc : outsideN v.c <;> simp [ha, hb, hc] at ho ⊢
    obtain ⟨pa, qa⟩ := num_itoa ho'.1
    obtain ⟨pb, qb⟩ := num_itoa ho'.2.1
    obtain ⟨pc, qc⟩ := num_itoa ho'.2.2
    have hA : (45 : UInt8) ∉ Lib.itoa v.a ++ 46 :: (Lib.itoa v.b ++ 46 :: Lib.itoa v.c) := by
      have n1 := not_mem_of (c := 45) qa (by decide)
      have n2 := not_mem_of (c := 45) qb (by decide)
      have n3 := not_mem_of (c := 45) qc (by decide)
      simp [n1, n2, n3]
    have hs : Lib.split (Lib.itoa v.a ++ 46 :: (Lib.itoa v.b ++ 46 :: Lib.itoa v.c)) [46] = [Lib.itoa v.a, Lib.itoa v.b, Lib.itoa v.c] := by
      rw [split_cons (not_mem_of qa (by decide)), split_cons (not_mem_of qb (by decide)), split_none (not_mem_of qc (by decide))]
    have ht : threeB v.e (Lib.itoa v.a) (Lib.itoa v.b) (Lib.itoa v.c) = (v, 0) := by
      unfold threeB
      rw [pa, pb, pc]
      have : checkB v.a v.b v.c v.e = 0 := h
      simp [this]
    unfold parseB
    by_cases he : v.e = []
    · have e : textB v.a v.b v.c v.e = Lib.itoa v.a ++ 46 :: (Lib.itoa v.b ++ 46 :: Lib.itoa v.c) := by
        unfold textB; rw [he]; simp
      rw [e, cut_none hA, hs, parse_ok (by rfl), ← he]
      exact ht
    · have e : textB v.a v.b v.c v.e = (Lib.itoa v.a ++ 46 :: (Lib.itoa v.b ++ 46 :: Lib.itoa v.c)) ++ 45 :: v.e := by
        unfold textB
        rw [if_neg (by simpa using he)]; simp
      rw [e, cut_at hA, hs, parse_ok (by simp [he])]
      exact ht
theorem text_len {v : Ver} (h : v.check = 0) (he : v.e.length < 4294967000) : (textB v.a v.b v.c v.e).length < 4294967281 := by
  unfold Ver.check checkB at h
  split at h
  · cases h
  · rename_i ho
    have key : ∀ n, outsideN n = false → (Lib.itoa n).length ≤ 6 := fun n hn => by
      have hb : 0 ≤ n ∧ n ≤ 999999 := by unfold outsideN outsideB at hn; simp at hn; omega
      have hi : Lib.itoa n = Lib.decDigits n.toNat := by unfold Lib.itoa; rw [if_neg (by omega)]
      rw [hi]
      exact digits_len 5 n.toNat (by have : (10 : Nat) ^ 6 = 1000000 := by decide
                                     omega)
    have ho' : outsideN v.a = false ∧ outsideN v.b = false ∧ outsideN v.c = false := by
      cases ha : outsideN v.a <;> cases hb : outsideN v.b <;> cases hc : outsideN v.c <;> simp [ha, hb, hc] at ho ⊢
    have h1 := key _ ho'.1
    have h2 := key _ ho'.2.1
    have h3 := key _ ho'.2.2
    unfold textB
    split <;> simp <;> omega

def firstB (a b : Int) : Int := if a != 0 then a else b
theorem first2 (a b : Int) : firstNe [a, b] = firstB a b := by
  unfold firstNe firstB
  by_cases ha : a = 0 <;> by_cases hb : b = 0 <;> simp [ha, hb, bne_iff_ne]
theorem first1 (a : Int) : firstNe [a] = a := by
  unfold firstNe
  by_cases ha : a = 0 <;> simp [ha, bne_iff_ne]
def partE (p : Int) : Int := if !inB p 0 2 then 3 else 0
section
variable {v : Ver} {p : Int}
theorem part_ok (h : (firstB v.check (partE p) != 0) = false) : v.check = 0 ∧ 0 ≤ p ∧ p ≤ 2 := by
  unfold firstB partE at h
  by_cases hc : v.check = 0
  · simp [hc] at h
    unfold inB at h
    simp at h
    exact ⟨hc, by omega⟩
  · simp [hc] at h
theorem nxt_err (h : (firstB v.check (partE p) != 0) = true) : nextB v p = (Ver.z, firstB v.check (partE p)) := by
  unfold nextB
  by_cases hc : v.check = 0
  · have hp : partE p = 3 ∧ ¬ (0 ≤ p ∧ p ≤ 2) := by
      unfold firstB at h
      simp [hc] at h
      unfold partE at h ⊢
      cases hi : inB p 0 2 with
      | true => simp [hi] at h
      | false => unfold inB at hi; simp at hi; exact ⟨rfl, by omega⟩
    have h0 : (p == 0) = false := by simp; omega
    have h1 : (p == 1) = false := by simp; omega
    have h2 : (p == 2) = false := by simp; omega
    unfold firstB
    rw [hc, h0, h1, h2, hp.1]; rfl
  · unfold firstB
    rw [if_pos (by simpa using hc), if_pos (by simpa using hc)]
theorem nxt_0 (h : (firstB v.check (partE p) != 0) = false) (h0 : (p == 0) = true) : nextB v p = nextOk (w1 v.a) 0 0 := by
  unfold nextB
  rw [(part_ok h).1, h0]; rfl
theorem nxt_1 (h : (firstB v.check (partE p) != 0) = false) (h0 : (p == 0) = false) (h1 : (p == 1) = true) : nextB v p = nextOk v.a (w1 v.b) 0 := by
  unfold nextB
  rw [(part_ok h).1, h0, h1]; rfl
theorem two_of (h : (firstB v.check (partE p) != 0) = false) (h0 : (p == 0) = false) (h1 : (p == 1) = false) : (p == 2) = true := by
  have := part_ok h
  simp at h0 h1 ⊢; omega
theorem nxt_2 (h : (firstB v.check (partE p) != 0) = false) (h0 : (p == 0) = false) (h1 : (p == 1) = false) (h2 : (!(!(v.e == []))) = true) : nextB v p = nextOk v.a v.b (w1 v.c) := by
  unfold nextB
  rw [(part_ok h).1, h0, h1, two_of h h0 h1]
  rw [Bool.not_not] at h2
  rw [h2]; rfl
theorem nxt_3 (h : (firstB v.check (partE p) != 0) = false) (h0 : (p == 0) = false) (h1 : (p == 1) = false) (h2 : (!(!(v.e == []))) = false) : nextB v p = nextOk v.a v.b v.c := by
  unfold nextB
  rw [(part_ok h).1, h0, h1, two_of h h0 h1]
  rw [Bool.not_not] at h2
  rw [h2]; rfl
theorem nextOk_err {x y z : Int} (h : (checkB x y z [] != 0) = true) : nextOk x y z = (Ver.z, checkB x y z []) := by
  unfold nextOk
  rw [if_pos h, checkB_nil x y z (by simpa using h)]
theorem nextOk_ok {x y z : Int} (h : (checkB x y z [] != 0) = false) : nextOk x y z = (⟨x, y, z, []⟩, 0) := if_neg (Bool.eq_false_iff.1 h)
end
theorem printB_2 (v : Ver) : (printB v).2 = v.check := by
  unfold printB
  split
  · rfl
  · rename_i h; simp at h; exact h.symm
theorem compareB_2 (v w : Ver) : (compareB v w).2 = firstB v.check w.check := by
  unfold compareB firstB
  by_cases h1 : v.check = 0
  · by_cases h2 : w.check = 0 <;> simp [h1, h2]
  · simp [h1]
theorem print_len (v : Ver) (he : v.e.length < 4294967000) : (printB v).1.length < 4294967281 := by
  unfold printB
  split
  · simp
  · rename_i h; exact text_len (by simpa using h) he
theorem law_4 (v : Ver) (h : v.check = 0) : parseB (printB v).1 = (v, 0) := by
  have : (printB v).1 = textB v.a v.b v.c v.e := by unfold printB; rw [h]; rfl
  rw [this]; exact parse_text h
theorem versions_ok : (printB ⟨1, 0, 0, []⟩) = ([49, 46, 48, 46, 48], 0) := by
  have h0 : Lib.itoa 0 = [48] := by unfold Lib.itoa; rw [if_neg (by decide)]; exact digits_zero
  have h1 : Lib.itoa 1 = [49] := by unfold Lib.itoa; rw [if_neg (by decide)]; show Lib.decDigits 1 = _; rw [Lib.decDigits, dif_pos (by decide)]; rfl
  have hc : (⟨1, 0, 0, []⟩ : Ver).check = 0 := by decide
  unfold printB
  rw [hc]
  simp [textB, h0, h1]
theorem law_2 (a b : Ver) : ¬ ((((a.check != 0 && !((printB a).1 == [])) || (a.check == 0 && !((printB a).1 == textB a.a a.b a.c a.e))) || (firstB a.check b.check != 0 && !((compareB a b).1 == 0))) || (firstB a.check b.check == 0 && !((compareB a b).1 == compareR a b))) = true := by
  unfold printB compareB firstB
  by_cases h1 : a.check = 0
  · by_cases h2 : b.check = 0
    · simp [h1, h2, compare_eq h1 h2]
    · simp [h1, h2]
  · simp [h1]
end Go.Proofs.YtepdjimbnbiicaaGreatDoor
