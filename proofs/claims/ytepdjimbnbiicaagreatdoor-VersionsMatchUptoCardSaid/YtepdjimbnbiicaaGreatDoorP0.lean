/- Plain words on lists and on what the library's functions hand back. -/
import Derived.Lib.SplitLaws
import Derived.Lib.ItoaNum
import Derived.Lib.AtoiAll
set_option linter.unusedVariables false
namespace Go.Proofs.YtepdjimbnbiicaaGreatDoor

theorem all_take_succ {α : Type} {φ : α → Bool} {s : List α} {d : α} {i : Nat} (hi : i < s.length) (h : (s.take i).all φ = true) (hc : φ (s.getD i d) = true) : (s.take (i + 1)).all φ = true := by
  rw [List.take_add_one, List.all_append, h]
  rw [List.getD_eq_getElem?_getD, List.getElem?_eq_getElem hi] at hc
  simp only [List.getElem?_eq_getElem hi, Option.toList_some, List.all_cons, List.all_nil, Bool.and_true, Bool.true_and]
  simpa using hc
theorem all_false_of {α : Type} {φ : α → Bool} {s : List α} {d : α} {i : Nat} (hi : i < s.length) (hc : φ (s.getD i d) = false) : s.all φ = false := by
  rw [List.getD_eq_getElem?_getD, List.getElem?_eq_getElem hi] at hc
  rw [← Bool.not_eq_true, List.all_eq_true]
  intro h
  have := h s[i] (List.getElem_mem hi)
  simp at hc
  rw [hc] at this
  cases this
theorem all_of_take {α : Type} {φ : α → Bool} {s : List α} {i : Nat} (hi : s.length ≤ i) (h : (s.take i).all φ = true) : s.all φ = true := by
  rwa [List.take_of_length_le hi] at h

theorem countFrom_le (sub : List UInt8) : ∀ (f : Nat) (s : List UInt8), Go.Lib.countFrom sub f s ≤ f
  | 0, _ => Nat.le_refl _
  | f + 1, s => by
    unfold Go.Lib.countFrom
    split
    · omega
    · have := countFrom_le sub f (s.drop ((Go.Lib.index s sub).toNat + sub.length)); omega
theorem splitK_le (sep : List UInt8) (save : Nat) : ∀ (k : Nat) (s : List UInt8), (Go.Lib.splitK sep save k s).length ≤ k + 1
  | 0, _ => by simp [Go.Lib.splitK]
  | k + 1, s => by
    unfold Go.Lib.splitK
    split
    · simp
    · have := splitK_le sep save k (s.drop ((Go.Lib.index s sep).toNat + sep.length)); simp; omega
theorem split_le (s sep : List UInt8) : (Go.Lib.split s sep).length ≤ s.length + 2 := by
  have h1 := splitK_le sep 0 (Go.Lib.count s sep) s
  have h2 := countFrom_le sep (s.length + 1) s
  unfold Go.Lib.count at h1
  unfold Go.Lib.split Go.Lib.count
  omega
theorem splitK_mem (sep : List UInt8) : ∀ (k : Nat) (s x : List UInt8), x ∈ Go.Lib.splitK sep 0 k s → x.length ≤ s.length
  | 0, s, x, h => by simp [Go.Lib.splitK] at h; rw [h]; exact Nat.le_refl _
  | k + 1, s, x, h => by
    unfold Go.Lib.splitK at h
    split at h
    · simp at h; rw [h]; exact Nat.le_refl _
    · rcases List.mem_cons.1 h with rfl | h
      · simp; omega
      · have := splitK_mem sep k _ x h; simp at this; omega
theorem split_mem {s sep x : List UInt8} (h : x ∈ Go.Lib.split s sep) : x.length ≤ s.length := splitK_mem sep _ s x h
theorem split_at {s sep : List UInt8} {i : Nat} : ((Go.Lib.split s sep).getD i []).length ≤ s.length := by
  rw [List.getD_eq_getElem?_getD]
  cases h : (Go.Lib.split s sep)[i]? with
  | none => simp
  | some x => exact split_mem (List.mem_of_getElem? h)

/-- What strconv.Atoi hands back. -/
def atoiV (s : List UInt8) : Int := match Go.Lib.atoiAll s with
  | .ok v => v
  | .syntax => 0
  | .range => Go.Lib.atoiSat s
def atoiOk (s : List UInt8) : Bool := match Go.Lib.atoiAll s with
  | .ok _ => true
  | _ => false

/-- The first number that is not 0. -/
def firstNe (l : List Int) : Int := (l.find? (· != 0)).getD 0
theorem firstNe_hit {l : List Int} {i : Nat} (hi : i < l.length) (h : (l.take i).all (· == 0) = true) (hc : l.getD i 0 ≠ 0) : firstNe l = l.getD i 0 := by
  induction l generalizing i with
  | nil => simp at hi
  | cons a l ih =>
    unfold firstNe
    cases i with
    | zero => simp at hc; simp [hc]
    | succ i =>
      simp only [List.take_succ_cons, List.all_cons, Bool.and_eq_true, beq_iff_eq] at h
      simp only [h.1, List.find?_cons, bne_self_eq_false]
      exact ih (by simpa using hi) h.2 (by simpa using hc)
theorem firstNe_none {l : List Int} {i : Nat} (hi : l.length ≤ i) (h : (l.take i).all (· == 0) = true) : firstNe l = 0 := by
  rw [List.take_of_length_le hi] at h
  unfold firstNe
  rw [List.find?_eq_none.2]
  · rfl
  · intro x hx
    have := List.all_eq_true.1 h x hx
    simpa using this
theorem zip_at {α β : Type} {f : α → β → Int} {xs : List α} {ys : List β} {i : Nat} (d : α) (e : β) (h1 : i < xs.length) (h2 : i < ys.length) : (List.zipWith f xs ys).getD i 0 = f (xs.getD i d) (ys.getD i e) := by
  simp [List.getD, List.getElem?_zipWith, h1, h2]
theorem three {α : Type} {l : List α} (h : l.length = 3) : ∃ a b c, l = [a, b, c] := by
  match l, h with
  | [a, b, c], _ => exact ⟨a, b, c, rfl⟩
end Go.Proofs.YtepdjimbnbiicaaGreatDoor
