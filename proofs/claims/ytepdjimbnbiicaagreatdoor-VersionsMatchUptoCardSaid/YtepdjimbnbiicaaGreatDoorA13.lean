/- Steps whose value is told by an equation; rows of a mapped list; a loop's head in a known round. -/
import Derived.Test.YtepdjimbnbiicaaGreatDoorA12
set_option linter.unusedVariables false
namespace Go.Proofs.YtepdjimbnbiicaaGreatDoor
open Go Go.RowKit
variable {J : Inv} {E : Env J} {P : Program} {T : TypeId → Option TI} {n : Nat} {t : Nat → V} {b : List (List C)} {r : List (Option RowO)} {m : List (List (DV × DV))} {ops : Array Oper} {l : List Oper} {K : St → Prop}
  {i : Nat} {ty : TypeId} {pos : String} {after : Array Edge} {v' v : V}

theorem S.pureE (hT : TabOk P T) (hZ : ZeroOk T) {op : Op} {ok : Bool} {v0 v1 v : V} (he : evP T n ⟨t, b, r, m⟩ op = some (ok, v0)) (hok : ok = true) (hv : v0 = v1) (hf : forceV v1 = some v)
    (k : WL E P n ops l K ⟨upd t i v, b, r, m⟩) : WL E P n ops (⟨some i, op, ty, pos, after, none⟩ :: l) K ⟨t, b, r, m⟩ :=
  S.pure hT hZ he hok (hv ▸ hf) k
theorem S.pureEG (hT : TabOk P T) (hZ : ZeroOk T) {op : Op} {ok c : Bool} {v0 v1 v : V} {j : Nat} {want : Bool} (hg : guardV n ops t j want = some c)
    (he : evP T n ⟨bare t, b, r, m⟩ op = some (ok, v0)) (ht : allT c (tagsO t op.operands.toList)) (hok : c = true → ok = true) (hv : v0 = v1) (hf : forceV v1 = some v)
    (k : WL E P n ops l K ⟨upd t i (.when c v), b, r, m⟩) : WL E P n ops (⟨some i, op, ty, pos, after, some (j, want)⟩ :: l) K ⟨t, b, r, m⟩ :=
  S.pureG hT hZ hg he ht hok (hv ▸ hf) k
theorem D.pureE (hT : TabOk P T) (hZ : ZeroOk T) {op : Op} {ok : Bool} {v0 v1 v : V} (hcl : Nat.blt (cls op) 2 = true) (he : evP T n ⟨t, b, r, m⟩ op = some (ok, v0)) (hok : ok = true) (hv : v0 = v1) (hf : forceV v1 = some v)
    (k : WD E P n ops l K ⟨upd t i v, b, r, m⟩) : WD E P n ops (⟨some i, op, ty, pos, after, none⟩ :: l) K ⟨t, b, r, m⟩ :=
  D.pure hT hZ hcl he hok (hv ▸ hf) k
theorem D.pureEG (hT : TabOk P T) (hZ : ZeroOk T) {op : Op} {ok c : Bool} {v0 v1 v : V} {j : Nat} {want : Bool} (hcl : Nat.blt (cls op) 2 = true) (hg : guardV n ops t j want = some c)
    (he : evP T n ⟨bare t, b, r, m⟩ op = some (ok, v0)) (htg : allT c (tagsO t op.operands.toList)) (hok : c = true → ok = true) (hv : v0 = v1) (hf : forceV v1 = some v)
    (k : WD E P n ops l K ⟨upd t i (.when c v), b, r, m⟩) : WD E P n ops (⟨some i, op, ty, pos, after, some (j, want)⟩ :: l) K ⟨t, b, r, m⟩ :=
  D.pureG hT hZ hcl hg he htg hok (hv ▸ hf) k

theorem sl_okT {a b : Bool} {l h n : Int} (ha : a = true) (hb : b = true) (h0 : 0 ≤ l) (h1 : l ≤ h) (h2 : h ≤ n) : (a && (b && (decide (0 ≤ l) && decide (l ≤ h) && decide (h ≤ n)))) = true := by simp [ha, hb, h0, h1, h2]
theorem LeV.of_force {a v b : V} (hf : forceV a = some v) (h : v = b) : LeV a b := by
  obtain rfl := forceV_eq hf
  exact h ▸ LeV.refl _
@[simp] theorem constC_int (k : IntKind) (n : Int) : constC (.int k n) = .d (.int k n) := rfl
@[simp] theorem constC_bool (b : Bool) : constC (.bool b) = .d (.bool b) := rfl
@[simp] theorem constC_str (s : ByteArray) : constC (.string s) = .d (.str s.data.toList) := rfl
theorem row_at {α : Type} {f : α → List D} {l : List α} (d : α) {i : Nat} (h : i < l.length) : V.one (.eptr ((l.map f).getD ((i : Int)).toNat [])) = V.one (.eptr (f (l.getD i d))) := by
  simp [List.getD, List.getElem?_eq_getElem h]
theorem row_ok {α : Type} {f : α → List D} {l : List α} {i : Nat} (h : i < l.length) : (decide (0 ≤ (i : Int)) && decide ((i : Int) < ((l.map f).length : Int))) = true := by simp; omega
theorem str_ok {l : List UInt8} {i : Nat} (h : i < l.length) : (decide (0 ≤ (i : Int)) && decide ((i : Int) < (l.length : Int))) = true := by simp; omega
theorem row_lt {α : Type} {f : α → List D} {l : List α} {i : Nat} (h : decide ((i : Int) < ((l.map f).length : Int)) = true) : i < l.length := by simpa using h
theorem row_ge {α : Type} {f : α → List D} {l : List α} {i : Nat} (h : decide ((i : Int) < ((l.map f).length : Int)) = false) : l.length ≤ i := by simpa using h
end Go.Proofs.YtepdjimbnbiicaaGreatDoor
