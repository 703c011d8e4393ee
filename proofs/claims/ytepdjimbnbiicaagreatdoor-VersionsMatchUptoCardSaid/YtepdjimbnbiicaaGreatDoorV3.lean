/- Plain words on versions, as the reference says them. -/
import Derived.Test.YtepdjimbnbiicaaGreatDoorV2
import Derived.Lib.SlTrimSet
set_option linter.unusedVariables false
namespace Go.Proofs.YtepdjimbnbiicaaGreatDoor
open Go

theorem byte_all {p : UInt8 → Bool} (h : (List.range 256).all (fun n => p (UInt8.ofNat n)) = true) (c : UInt8) : p c = true := by
  have := List.all_eq_true.1 h c.toNat (List.mem_range.2 c.toNat_lt)
  simpa using this
def smallS : List UInt8 := [97, 98, 99, 100, 101, 102, 103, 104, 105, 106, 107, 108, 109, 110, 111, 112, 113, 114, 115, 116, 117, 118, 119, 120, 121, 122]
def digitS : List UInt8 := [48, 49, 50, 51, 52, 53, 54, 55, 56, 57]
def smallDigitS : List UInt8 := [97, 98, 99, 100, 101, 102, 103, 104, 105, 106, 107, 108, 109, 110, 111, 112, 113, 114, 115, 116, 117, 118, 119, 120, 121, 122, 48, 49, 50, 51, 52, 53, 54, 55, 56, 57]
def nameS : List UInt8 := [97, 98, 99, 100, 101, 102, 103, 104, 105, 106, 107, 108, 109, 110, 111, 112, 113, 114, 115, 116, 117, 118, 119, 120, 121, 122, 48, 49, 50, 51, 52, 53, 54, 55, 56, 57, 45, 46]
def partS : List UInt8 := [97, 98, 99, 100, 101, 102, 103, 104, 105, 106, 107, 108, 109, 110, 111, 112, 113, 114, 115, 116, 117, 118, 119, 120, 121, 122, 65, 66, 67, 68, 69, 70, 71, 72, 73, 74, 75, 76, 77, 78, 79, 80, 81, 82, 83, 84, 85, 86, 87, 88, 89, 90, 48, 49, 50, 51, 52, 53, 54, 55, 56, 57, 45, 46, 95]
theorem smallS_eq (c : UInt8) : smallS.contains c = isSmall (bI c) := by
  have := byte_all (p := fun c => smallS.contains c == isSmall (bI c)) (by decide +kernel) c
  simpa using this
theorem digitS_eq (c : UInt8) : digitS.contains c = isDigit (bI c) := by
  have := byte_all (p := fun c => digitS.contains c == isDigit (bI c)) (by decide +kernel) c
  simpa using this
theorem smallDigitS_eq (c : UInt8) : smallDigitS.contains c = earlyC (bI c) := by
  have := byte_all (p := fun c => smallDigitS.contains c == earlyC (bI c)) (by decide +kernel) c
  simpa using this
theorem nameS_eq (c : UInt8) : nameS.contains c = nameC (bI c) := by
  have := byte_all (p := fun c => nameS.contains c == nameC (bI c)) (by decide +kernel) c
  simpa using this
theorem partS_eq (c : UInt8) : partS.contains c = partC' (bI c) := by
  have := byte_all (p := fun c => partS.contains c == partC' (bI c)) (by decide +kernel) c
  simpa using this

/-- 'Of': these bytes alone. -/
def ofB (s cs : List UInt8) : Bool := s.all fun c => cs.contains c
theorem ofB_small (s : List UInt8) : ofB s smallS = s.all fun c => isSmall (bI c) := by simp only [ofB, smallS_eq]
theorem ofB_digit (s : List UInt8) : ofB s digitS = s.all fun c => isDigit (bI c) := by simp only [ofB, digitS_eq]
theorem ofB_smallDigit (s : List UInt8) : ofB s smallDigitS = s.all fun c => earlyC (bI c) := by simp only [ofB, smallDigitS_eq]
theorem ofB_name (s : List UInt8) : ofB s nameS = s.all fun c => nameC (bI c) := by simp only [ofB, nameS_eq]
theorem ofB_part (s : List UInt8) : ofB s partS = s.all fun c => partC' (bI c) := by simp only [ofB, partS_eq]

theorem dropWhile_all {α : Type} {p : α → Bool} : ∀ {l : List α}, l.all p = true → l.dropWhile p = []
  | [], _ => rfl
  | a :: l, h => by
    simp only [List.all_cons, Bool.and_eq_true] at h
    simp only [List.dropWhile_cons, h.1, if_true]
    exact dropWhile_all h.2
theorem trim_ofB (s cs : List UInt8) (h : ofB s cs = true) : Lib.trimS s cs = [] := by
  unfold Lib.trimS Lib.trimLeftS Lib.trimRightS
  have h1 : (s.all fun c => cs.contains c) = true := h
  have h2 : (s.reverse.all fun c => cs.contains c) = true := by simpa using h1
  show ((s.reverse.dropWhile (fun c => cs.contains c)).reverse).dropWhile (fun c => cs.contains c) = []
  rw [dropWhile_all h2]; rfl
theorem of_eq (s cs : List UInt8) : (Lib.trimS s cs == [] && ofB s cs) = ofB s cs := by
  cases h : ofB s cs with
  | false => simp
  | true => simp [trim_ofB s cs h]
theorem indexByte_neg (l : List UInt8) (c : UInt8) : decide (Lib.indexByte l c < 0) = !(l.contains c) := by
  induction l with
  | nil => simp [Lib.indexByte]
  | cons a l ih =>
    unfold Lib.indexByte
    by_cases h : a = c
    · subst h; simp
    · have h' : ¬ c = a := fun e => h e.symm
      have hge := Lib.indexByte_ge l c
      simp only [beq_iff_eq, h, if_false, List.contains_cons, h', beq_eq_false_iff_ne.2 h', Bool.false_or]
      rw [← ih]
      split
      · rename_i hm; simp [hm]
      · rename_i hm; simp only [decide_eq_decide]; omega

def inB (n l h : Int) : Bool := decide (n ≥ l) && decide (n ≤ h)
theorem inB_eq (n l h : Int) : inB n l h = !outsideB n l h := by
  unfold inB outsideB
  by_cases h1 : n < l <;> by_cases h2 : n > h <;> simp_all <;> omega

theorem nameR (s : List UInt8) : (((!(s == []) && decide ((s.length : Int) ≤ 40)) && ofB s nameS) && ofB (s.take 1) smallS) = nameB s := by
  rw [ofB_name, ofB_small, nameB, eachB]
  cases s with
  | nil => simp
  | cons a l => simp [Bool.and_assoc, Bool.and_comm, Bool.and_left_comm]
theorem partR (p : List UInt8) : ((((p == [] || p == [46]) || p == [46, 46]) || decide ((p.length : Int) > 40)) || !ofB p partS) = !partB p := by
  rw [ofB_part, partB, eachB]
  have : decide ((p.length : Int) > 40) = !decide ((p.length : Int) ≤ 40) := by by_cases h : (p.length : Int) ≤ 40 <;> simp [h] <;> omega
  rw [this]
  cases (p == []) <;> cases (p == [46]) <;> cases (p == [46, 46]) <;> cases decide ((p.length : Int) ≤ 40) <;> cases (p.all fun c => partC' (bI c)) <;> rfl
theorem lead0 (s : List UInt8) (hs : s ≠ []) : (decide ((s.length : Int) > 1) && bI (s.getD 0 0) == 48) = (bI (s.getD 0 0) == 48 && !(s == [48])) := by
  match s, hs with
  | [a], _ =>
    by_cases h : a = 48
    · subst h; decide
    · have : bI a ≠ 48 := fun e => h (UInt8.toNat_inj.1 (by unfold bI at e; show a.toNat = 48; omega))
      simp [this]
  | a :: b :: l, _ => simp; intro _; omega
def numR (s : List UInt8) (m : Int) : Int × Bool :=
  if (((s == [] || decide ((s.length : Int) > m)) || !ofB s digitS) || (decide ((s.length : Int) > 1) && bI (s.getD 0 0) == 48)) then (0, false) else (atoiV s, atoiOk s)
theorem numR_eq (s : List UInt8) : numR s 9 = numB s := by
  unfold numR numB
  rw [ofB_digit, eachB]
  have : decide ((s.length : Int) > 9) = !decide ((s.length : Int) ≤ 9) := by by_cases h : (s.length : Int) ≤ 9 <;> simp [h] <;> omega
  rw [this]
  cases hs : (s == []) with
  | true => simp
  | false =>
    rw [lead0 s (by simpa using hs)]
    cases decide ((s.length : Int) ≤ 9) <;> cases (s.all fun c => isDigit (bI c)) <;> rfl
theorem wordR (w : List UInt8) : ((((w == [] || decide ((w.length : Int) > 10)) || !ofB w smallDigitS)) || ((ofB w digitS && decide ((w.length : Int) > 1)) && bI (w.getD 0 0) == 48)) = !wordB w := by
  rw [ofB_smallDigit, ofB_digit, wordB, numeralB, eachB, eachB]
  have : decide ((w.length : Int) > 10) = !decide ((w.length : Int) ≤ 10) := by by_cases h : (w.length : Int) ≤ 10 <;> simp [h] <;> omega
  rw [this]
  cases hs : (w == []) with
  | true => simp
  | false =>
    rw [Bool.and_assoc, lead0 w (by simpa using hs)]
    cases decide ((w.length : Int) ≤ 10) <;> cases (w.all fun c => isDigit (bI c)) <;> cases (w.all fun c => earlyC (bI c)) <;> simp
theorem valueR (s : List UInt8) : (s.all (fun c => !(decide (bI c < 32) || decide (bI c > 126))) && decide ((s.length : Int) ≤ 1000)) = valueB s := by
  have : (fun c : UInt8 => !(decide (bI c < 32) || decide (bI c > 126))) = fun c => valueC (bI c) := by
    funext c; unfold valueC
    by_cases h1 : bI c < 32 <;> by_cases h2 : bI c > 126 <;> simp [h1, h2] <;> omega
  rw [this, valueB, eachB]
  cases s <;> simp
theorem checkB_nil (x y z : Int) (h : checkB x y z [] ≠ 0) : checkB x y z [] = 3 := by
  unfold checkB at h ⊢
  split
  · rfl
  · rename_i h1; rw [if_neg h1] at h; simp at h
def cwR (p q : List UInt8) : Int :=
  if ofB p digitS && ofB q digitS then Lib.compareInt (atoiV p) (atoiV q) else if ofB p digitS then -1 else if ofB q digitS then 1 else Lib.compareBytes p q
def rowsR (xs ys : List (List UInt8)) : Int := if firstNe (List.zipWith cwR xs ys) != 0 then firstNe (List.zipWith cwR xs ys) else Lib.compareInt xs.length ys.length
def min1 (x : Int) : Int := if x < 1 then x else 1
def compareR (v w : Ver) : Int :=
  if firstNe [Lib.compareInt v.a w.a, Lib.compareInt v.b w.b, Lib.compareInt v.c w.c] != 0 then firstNe [Lib.compareInt v.a w.a, Lib.compareInt v.b w.b, Lib.compareInt v.c w.c]
  else if v.e == [] || w.e == [] then Lib.compareInt (min1 w.e.length) (min1 v.e.length) else rowsR (Lib.split v.e [46]) (Lib.split w.e [46])

theorem in_t {l : List UInt8} {c : UInt8} (h : decide (Lib.indexByte l ((c.toNat : Int).toNat.toUInt8) < 0) = false) : l.contains c = true := by
  have h1 := indexByte_neg l c
  have h2 : (c.toNat : Int).toNat.toUInt8 = c := by simp
  rw [h2, h1] at h
  simpa using h
theorem in_f {l : List UInt8} {c : UInt8} (h : decide (Lib.indexByte l ((c.toNat : Int).toNat.toUInt8) < 0) = true) : l.contains c = false := by
  have h1 := indexByte_neg l c
  have h2 : (c.toNat : Int).toNat.toUInt8 = c := by simp
  rw [h2, h1] at h
  simpa using h
theorem name_len {s : List UInt8} {a b : Bool} (h : ((!(s == []) && a) && b) = true) : (1 : Int) ≤ (s.length : Int) := by
  cases s with
  | nil => simp at h
  | cons x l => simp only [List.length_cons]; omega
theorem gt1 {s : List UInt8} (h : decide ((s.length : Int) > 1) = true) : (0 : Int) < (s.length : Int) := by
  have := of_decide_eq_true h; omega
theorem path_t {p : List UInt8} (h : ((((p == [] || p == [46]) || p == [46, 46]) || decide ((p.length : Int) > 40)) || !ofB p partS) = false) : partB p = true := by
  rw [partR] at h; simpa using h
theorem path_f {p : List UInt8} (h : ((((p == [] || p == [46]) || p == [46, 46]) || decide ((p.length : Int) > 40)) || !ofB p partS) = true) : partB p = false := by
  rw [partR] at h; simpa using h
theorem word_t' {w : List UInt8} (h : ((((w == [] || decide ((w.length : Int) > 10)) || !ofB w smallDigitS)) || ((ofB w digitS && decide ((w.length : Int) > 1)) && bI (w.getD 0 0) == 48)) = false) : wordB w = true := by
  rw [wordR] at h; simpa using h
theorem word_f' {w : List UInt8} (h : ((((w == [] || decide ((w.length : Int) > 10)) || !ofB w smallDigitS)) || ((ofB w digitS && decide ((w.length : Int) > 1)) && bI (w.getD 0 0) == 48)) = true) : wordB w = false := by
  rw [wordR] at h; simpa using h
theorem not_le_of {x y : Int} {b : Bool} (h : decide (x > y) = true) : (decide (x ≤ y) && b) = false := by
  have := of_decide_eq_true h
  rw [decide_eq_false (by omega)]; rfl
theorem le_of {x y : Int} (h : decide (x > y) = false) : decide (x ≤ y) = true := by
  have := of_decide_eq_false h
  exact decide_eq_true (by omega)
theorem not_t {a : Bool} (h : a = true) : (!a) = false := by rw [h]; rfl
theorem not_f {a : Bool} (h : a = false) : (!a) = true := by rw [h]; rfl
end Go.Proofs.YtepdjimbnbiicaaGreatDoor
