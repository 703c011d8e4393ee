/- Plain words on versions: reading, texts, order, the next one. -/
import Derived.Test.YtepdjimbnbiicaaGreatDoorV1
import Derived.Lib.Small
import Derived.Lib.Bytealg
import Derived.Lib.IndexMore
set_option linter.unusedVariables false
namespace Go.Proofs.YtepdjimbnbiicaaGreatDoor
open Go

structure Ver where
  a : Int
  b : Int
  c : Int
  e : List UInt8
  deriving DecidableEq
def Ver.z : Ver := ⟨0, 0, 0, []⟩
def Ver.check (v : Ver) : Int := checkB v.a v.b v.c v.e
/-- The numbers are numbers of an int. -/
def VerOk (v : Ver) : Prop := -9223372036854775808 ≤ v.a ∧ v.a ≤ 9223372036854775807 ∧ -9223372036854775808 ≤ v.b ∧ v.b ≤ 9223372036854775807 ∧ -9223372036854775808 ≤ v.c ∧ v.c ≤ 9223372036854775807
def w1 (x : Int) : Int := IntKind.i64.wrap (x + 1)

def numB (s : List UInt8) : Int × Bool := if !eachB isDigit s 9 || (bI (s.getD 0 0) == 48 && !(s == [48])) then (0, false) else (atoiV s, atoiOk s)
def threeB (e p q r : List UInt8) : Ver × Int :=
  if !(numB p).2 then (Ver.z, 8) else if !(numB q).2 then (Ver.z, 8) else if !(numB r).2 then (Ver.z, 8) else
  if checkB (numB p).1 (numB q).1 (numB r).1 e != 0 then (Ver.z, checkB (numB p).1 (numB q).1 (numB r).1 e) else (⟨(numB p).1, (numB q).1, (numB r).1, e⟩, 0)
def parseW (e : List UInt8) (is : Bool) (ws : List (List UInt8)) : Ver × Int :=
  if !((ws.length : Int) == 3) || (is && e == []) then (Ver.z, 8) else match ws with
    | [p, q, r] => threeB e p q r
    | _ => (Ver.z, 8)
theorem parse_ok {e : List UInt8} {is : Bool} {p q r : List UInt8} (h : (!(([p, q, r].length : Int) == 3) || (is && e == [])) = false) : parseW e is [p, q, r] = threeB e p q r := if_neg (Bool.eq_false_iff.1 h)
def parseB (s : List UInt8) : Ver × Int := parseW (Lib.cut s [45]).2.1 (Lib.cut s [45]).2.2 (Lib.split (Lib.cut s [45]).1 [46])

def cwB (a b : List UInt8) : Int :=
  if numeralB a && numeralB b then (if !((a.length : Int) == (b.length : Int)) then Lib.compareInt a.length b.length else Lib.compareBytes a b)
  else if numeralB a then -1 else if numeralB b then 1 else Lib.compareBytes a b
def rowsB (xs ys : List (List UInt8)) : Int := if firstNe (List.zipWith cwB xs ys) != 0 then firstNe (List.zipWith cwB xs ys) else Lib.compareInt xs.length ys.length
def ceB (a b : List UInt8) : Int := if a == b then 0 else if a == [] then 1 else if b == [] then -1 else rowsB (Lib.split a [46]) (Lib.split b [46])
def orderB (v w : Ver) : Int := firstNe [Lib.compareInt v.a w.a, Lib.compareInt v.b w.b, Lib.compareInt v.c w.c, ceB v.e w.e]
def compareB (v w : Ver) : Int × Int := if v.check != 0 then (0, v.check) else if w.check != 0 then (0, w.check) else (orderB v w, 0)
def nextOk (x y z : Int) : Ver × Int := if checkB x y z [] != 0 then (Ver.z, 3) else (⟨x, y, z, []⟩, 0)
def nextB (v : Ver) (p : Int) : Ver × Int :=
  if v.check != 0 then (Ver.z, v.check) else
  if p == 0 then nextOk (w1 v.a) 0 0 else if p == 1 then nextOk v.a (w1 v.b) 0 else if p == 2 && v.e == [] then nextOk v.a v.b (w1 v.c) else if !(p == 2) then (Ver.z, 3) else nextOk v.a v.b v.c
def printB (v : Ver) : List UInt8 × Int := if v.check != 0 then ([], v.check) else (textB v.a v.b v.c v.e, 0)

theorem min_lt {α β : Type} {xs : List α} {ys : List β} {i : Nat} {x y : Int} (hx : x = (xs.length : Int)) (hy : y = (ys.length : Int)) (h : decide ((i : Int) < if y < x then y else x) = true) : i < xs.length ∧ i < ys.length := by
  subst hx; subst hy
  simp only [decide_eq_true_eq] at h
  split at h <;> omega
theorem min_ge {α β : Type} {xs : List α} {ys : List β} {i : Nat} {x y : Int} (hx : x = (xs.length : Int)) (hy : y = (ys.length : Int)) (h : decide ((i : Int) < if y < x then y else x) = false) : xs.length ≤ i ∨ ys.length ≤ i := by
  subst hx; subst hy
  simp only [decide_eq_false_iff_not] at h
  split at h <;> omega
theorem cut_le (s sep : List UInt8) : (Lib.cut s sep).1.length ≤ s.length ∧ (Lib.cut s sep).2.1.length ≤ s.length := by
  unfold Lib.cut
  split
  · simp; omega
  · simp
end Go.Proofs.YtepdjimbnbiicaaGreatDoor
