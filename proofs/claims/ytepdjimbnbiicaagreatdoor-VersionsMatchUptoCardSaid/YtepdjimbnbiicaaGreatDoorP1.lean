/- Plain words on cutting and splitting at one byte, and on decimal numerals. -/
import Derived.Test.YtepdjimbnbiicaaGreatDoorP0
import Derived.Lib.IndexMore
set_option linter.unusedVariables false
set_option linter.unusedSimpArgs false
namespace Go.Proofs.YtepdjimbnbiicaaGreatDoor
open Go

theorem index_none {c : UInt8} : ∀ {s : List UInt8}, c ∉ s → Lib.index s [c] = -1
  | [], _ => rfl
  | b :: l, h => by
    have h1 : c ≠ b := fun e => h (e ▸ List.mem_cons_self ..)
    have h2 := index_none (s := l) (fun e => h (List.mem_cons_of_mem _ e))
    have hp : List.isPrefixOf [c] (b :: l) = false := by simp [List.isPrefixOf, h1]
    unfold Lib.index
    rw [hp, h2]; rfl
theorem index_at {c : UInt8} {y : List UInt8} : ∀ {x : List UInt8}, c ∉ x → Lib.index (x ++ c :: y) [c] = x.length
  | [], _ => by
    have hp : List.isPrefixOf [c] (c :: y) = true := by simp [List.isPrefixOf]
    show Lib.index (c :: y) [c] = 0
    unfold Lib.index
    rw [hp]; rfl
  | b :: l, h => by
    have h1 : c ≠ b := fun e => h (e ▸ List.mem_cons_self ..)
    have h2 := index_at (x := l) (y := y) (fun e => h (List.mem_cons_of_mem _ e))
    have hp : List.isPrefixOf [c] (b :: (l ++ c :: y)) = false := by simp [List.isPrefixOf, h1]
    show Lib.index (b :: (l ++ c :: y)) [c] = _
    unfold Lib.index
    rw [hp, h2]
    simp only [List.length_cons, Bool.false_eq_true, if_false]
    rw [if_neg (by simp)]
    rfl
theorem cut_none {c : UInt8} {s : List UInt8} (h : c ∉ s) : Lib.cut s [c] = (s, [], false) := by
  unfold Lib.cut
  rw [index_none h]; rfl
theorem cut_at {c : UInt8} {x y : List UInt8} (h : c ∉ x) : Lib.cut (x ++ c :: y) [c] = (x, y, true) := by
  unfold Lib.cut
  rw [index_at h, if_pos (by omega)]
  have e1 : ((x.length : Int)).toNat = x.length := by omega
  rw [e1]
  have e2 : x.length + [c].length = (x ++ [c]).length := by simp
  rw [e2]
  have e3 : x ++ c :: y = (x ++ [c]) ++ y := by simp
  rw [e3, List.drop_left]
  simp
theorem countFrom_fuel {sub : List UInt8} (hs : sub ≠ []) : ∀ (f g : Nat) (s : List UInt8), s.length < f → s.length < g → Lib.countFrom sub f s = Lib.countFrom sub g s
  | 0, _, _, h, _ => absurd h (Nat.not_lt_zero _)
  | _ + 1, 0, _, _, h => absurd h (Nat.not_lt_zero _)
  | f + 1, g + 1, s, h1, h2 => by
    unfold Lib.countFrom
    split
    · rfl
    · rename_i hi
      have h0 : 0 ≤ Lib.index s sub := by
        rcases Lib.index_spec s sub with h | ⟨i, h, _⟩
        · simp [h.1] at hi
        · omega
      have hr := Lib.index_room s sub h0
      have hl : 1 ≤ sub.length := by cases sub with | nil => exact absurd rfl hs | cons a l => simp
      rw [countFrom_fuel hs f g _ (by simp; omega) (by simp; omega)]
theorem split_none {c : UInt8} {s : List UInt8} (h : c ∉ s) : Lib.split s [c] = [s] := by
  have : Lib.count s [c] = 0 := by simp [Lib.count, Lib.countFrom, index_none h]
  unfold Lib.split
  rw [this]; rfl
theorem split_cons {c : UInt8} {x y : List UInt8} (h : c ∉ x) : Lib.split (x ++ c :: y) [c] = x :: Lib.split y [c] := by
  have hi := index_at (y := y) h
  have hm : ¬ (Lib.index (x ++ c :: y) [c] == -1) = true := by rw [hi]; simp
  have e1 : ((x.length : Int)).toNat = x.length := by omega
  have hd : (x ++ c :: y).drop (x.length + [c].length) = y := by
    have e2 : x.length + [c].length = (x ++ [c]).length := by simp
    have e3 : x ++ c :: y = (x ++ [c]) ++ y := by simp
    rw [e2, e3, List.drop_left]
  have hc : Lib.count (x ++ c :: y) [c] = Lib.count y [c] + 1 := by
    unfold Lib.count
    rw [Lib.countFrom, if_neg hm, hi, e1, hd, Nat.add_comm 1]
    rw [countFrom_fuel (by simp) _ (y.length + 1) y (by simp; omega) (by omega)]
  unfold Lib.split
  rw [hc, Lib.splitK, if_neg hm, hi, e1, hd]
  simp

def dstep (a : Nat) (c : UInt8) : Nat := a * 10 + (c.toNat - 48)
theorem dstep_eq (a : Nat) (c : UInt8) : dstep a c = a * 10 + (c.toNat - 48) := by unfold dstep; rfl
def dec (acc : Nat) (l : List UInt8) : Nat := l.foldl dstep acc
theorem dec_nil (acc : Nat) : dec acc [] = acc := by unfold dec; rw [List.foldl_nil]
theorem dec_cons (acc : Nat) (c : UInt8) (l : List UInt8) : dec acc (c :: l) = dec (acc * 10 + (c.toNat - 48)) l := by unfold dec; rw [List.foldl_cons, dstep_eq]
theorem dec_snoc (acc : Nat) (l : List UInt8) (c : UInt8) : dec acc (l ++ [c]) = dec acc l * 10 + (c.toNat - 48) := by unfold dec; rw [List.foldl_append, List.foldl_cons, List.foldl_nil, dstep_eq]
theorem dig_nat {u : Nat} (h : u < 10) : (UInt8.ofNat (48 + u)).toNat = 48 + u := by
  simp [UInt8.toNat_ofNat]; omega
theorem digits_all (u : Nat) : ∀ c ∈ Lib.decDigits u, 48 ≤ c.toNat ∧ c.toNat ≤ 57 := by
  induction u using Nat.strongRecOn with
  | ind u ih =>
    intro c hc
    rw [Lib.decDigits] at hc
    split at hc
    · rename_i h
      simp only [List.mem_singleton] at hc
      rw [hc, dig_nat h]; omega
    · rename_i h
      rw [List.mem_append] at hc
      rcases hc with hc | hc
      · exact ih (u / 10) (by omega) c hc
      · simp only [List.mem_singleton] at hc
        rw [hc, dig_nat (by omega)]; omega
theorem digits_dec (u : Nat) : dec 0 (Lib.decDigits u) = u := by
  induction u using Nat.strongRecOn with
  | ind u ih =>
    rw [Lib.decDigits]
    split
    · rename_i h
      rw [dec_cons, dec_nil, dig_nat h]; omega
    · rename_i h
      rw [dec_snoc, ih (u / 10) (by omega), dig_nat (by omega)]; omega
theorem digits_ne (u : Nat) : Lib.decDigits u ≠ [] := by
  rw [Lib.decDigits]; split <;> simp
theorem digits_head (u : Nat) (h0 : u ≠ 0) : ((Lib.decDigits u).getD 0 0).toNat ≠ 48 := by
  induction u using Nat.strongRecOn with
  | ind u ih =>
    rw [Lib.decDigits]
    split
    · rename_i h
      show (UInt8.ofNat (48 + u)).toNat ≠ 48
      rw [dig_nat h]; omega
    · rename_i h
      have h1 := ih (u / 10) (by omega) (by omega)
      have h2 := digits_ne (u / 10)
      match hx : Lib.decDigits (u / 10), h2 with
      | a :: l, _ => rw [hx] at h1; simpa using h1
theorem digits_len : ∀ (k u : Nat), u < 10 ^ (k + 1) → (Lib.decDigits u).length ≤ k + 1
  | 0, u, h => by rw [Lib.decDigits, dif_pos (by simpa using h)]; simp
  | k + 1, u, h => by
    rw [Lib.decDigits]
    split
    · simp
    · have := digits_len k (u / 10) (by rw [Nat.pow_succ] at h; omega)
      simp; omega
theorem digits_zero : Lib.decDigits 0 = [48] := by rw [Lib.decDigits, dif_pos (by omega)]; rfl
end Go.Proofs.YtepdjimbnbiicaaGreatDoor
