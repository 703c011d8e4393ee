/- Plain words on versions: no program in sight. -/
import Derived.Test.YtepdjimbnbiicaaGreatDoorP0
set_option linter.unusedVariables false
namespace Go.Proofs.YtepdjimbnbiicaaGreatDoor

def isDigit (c : Int) : Bool := decide (c ≥ 48) && decide (c ≤ 57)
def isSmall (c : Int) : Bool := decide (c ≥ 97) && decide (c ≤ 122)
def outsideB (n l h : Int) : Bool := decide (n < l) || decide (n > h)
def bI (c : UInt8) : Int := (c.toNat : Int)
def nameC (c : Int) : Bool := isSmall c || isDigit c || c == 45 || c == 46
def partC' (c : Int) : Bool := isSmall c || (decide (c ≥ 65) && decide (c ≤ 90)) || isDigit c || c == 45 || c == 46 || c == 95
def valueC (c : Int) : Bool := decide (c ≥ 32) && decide (c ≤ 126)
def earlyC (c : Int) : Bool := isSmall c || isDigit c

/-- 'each': from 1 to so many bytes, each of which a condition accepts. -/
def eachB (φ : Int → Bool) (s : List UInt8) (m : Int) : Bool := s.all (fun c => φ (bI c)) && (!(s == []) && decide ((s.length : Int) ≤ m))

theorem eachB_pos {φ : Int → Bool} {s : List UInt8} {m : Int} (h : eachB φ s m = true) : (0 : Int) < (s.length : Int) := by
  unfold eachB at h
  cases s with
  | nil => simp at h
  | cons a l => simp only [List.length_cons]; omega

def nameB (s : List UInt8) : Bool := eachB nameC s 40 && isSmall (bI (s.getD 0 0))
def partB (s : List UInt8) : Bool := eachB partC' s 40 && !(s == [46]) && !(s == [46, 46])
def valueB (s : List UInt8) : Bool := s == [] || eachB valueC s 1000
def numeralB (s : List UInt8) : Bool := eachB isDigit s 10
def wordB (w : List UInt8) : Bool := eachB earlyC w 10 && !(numeralB w && bI (w.getD 0 0) == 48 && !(w == [48]))

theorem word_f {a b : Bool} (h : (!a || b) = true) : (a && !b) = false := by cases a <;> cases b <;> simp_all
theorem word_t {a b : Bool} (h : (!a || b) = false) : (a && !b) = true := by cases a <;> cases b <;> simp_all
/-- A path or a key; the tail of an early version. -/
def pathB (s : List UInt8) : Bool := (Go.Lib.split s [47]).all partB && decide ((s.length : Int) ≤ 200)
def earlyB (s : List UInt8) : Bool := (Go.Lib.split s [46]).all wordB && decide ((s.length : Int) ≤ 40)
def outsideN (n : Int) : Bool := outsideB n 0 999999
def checkB (a b c : Int) (e : List UInt8) : Int := if outsideN a || outsideN b || outsideN c then 3 else if !(e == []) && !earlyB e then 2 else 0
def textB (a b c : Int) (e : List UInt8) : List UInt8 := Go.Lib.itoa a ++ [46] ++ Go.Lib.itoa b ++ [46] ++ Go.Lib.itoa c ++ (if e == [] then [] else [45] ++ e)

end Go.Proofs.YtepdjimbnbiicaaGreatDoor
