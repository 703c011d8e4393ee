/- Boxes that nobody needs any more are dropped. -/
import Derived.Test.YtepdjimbnbiicaaGreatDoorA13
set_option linter.unusedVariables false
namespace Go.Proofs.YtepdjimbnbiicaaGreatDoor
open Go Go.RowKit

mutual
def lowC (L : Nat) : C → Bool
  | .ptr l _ => Nat.blt l L
  | .clo _ cs => lowCs L cs
  | _ => true
def lowCs (L : Nat) : List C → Bool
  | [] => true
  | c :: l => lowC L c && lowCs L l
end
mutual
def lowV (L : Nat) : V → Bool
  | .one c => lowC L c
  | .agg cs => lowCs L cs
  | .tup vs => lowVs L vs
  | .when _ v => lowV L v
  | .junk => true
def lowVs (L : Nat) : List V → Bool
  | [] => true
  | c :: l => lowV L c && lowVs L l
end
theorem lowCs_at {L : Nat} : ∀ {l : List C}, lowCs L l = true → ∀ (i : Nat) (c : C), l[i]? = some c → lowC L c = true
  | [], _, i, c, h => by simp at h
  | x :: l, h, 0, c, hc => by simp at hc; subst hc; exact (Bool.and_eq_true_iff.1 (by simpa [lowCs] using h)).1
  | x :: l, h, i + 1, c, hc => by simp at hc; exact lowCs_at (Bool.and_eq_true_iff.1 (by simpa [lowCs] using h)).2 i c hc
theorem lowVs_at {L : Nat} : ∀ {l : List V}, lowVs L l = true → ∀ (i : Nat) (c : V), l[i]? = some c → lowV L c = true
  | [], _, i, c, h => by simp at h
  | x :: l, h, 0, c, hc => by simp at hc; subst hc; exact (Bool.and_eq_true_iff.1 (by simpa [lowVs] using h)).1
  | x :: l, h, i + 1, c, hc => by simp at hc; exact lowVs_at (Bool.and_eq_true_iff.1 (by simpa [lowVs] using h)).2 i c hc

theorem RC.low {g : Gh} {h : Sh} {w : World} {c : C} {v : Value} (hx : RC g h w c v) (L : Nat) (hl : lowC L c = true) : RC g ⟨L, h.rows, h.M⟩ w c v := by
  induction hx with
  | d x v hx => exact .d _ _ hx
  | ptr l off _ => exact .ptr _ _ (by simpa [lowC, Nat.blt_eq] using hl)
  | eptr cells b o u hb hcell hrd => exact .eptr cells b o u hb hcell hrd
  | row r ver off n v hv hr hx => exact .row r ver off n v hv hr hx
  | rptr r ver off v hv hr hx => exact .rptr r ver off v hv hr hx
  | map m hm => exact .map _ hm
  | clo f caps vs hl' _ ih =>
    refine .clo f caps vs hl' (fun i c v h1 h2 => ih i c v h1 h2 (lowCs_at (by simpa [lowC] using hl) i c h1))
  | junk v h => exact .junk v h
theorem RV.low {g : Gh} {h : Sh} {w : World} {c : V} {v : Value} (hx : RV g h w c v) (L : Nat) (hl : lowV L c = true) : RV g ⟨L, h.rows, h.M⟩ w c v := by
  induction hx with
  | one c v hx => exact .one _ _ (hx.low L (by simpa [lowV] using hl))
  | agg cs vs hn hx => exact .agg cs vs hn (fun i c v h1 h2 => (hx i c v h1 h2).low L (lowCs_at (by simpa [lowV] using hl) i c h1))
  | tup us vs hn _ ih => exact .tup us vs hn (fun i c v h1 h2 => ih i c v h1 h2 (lowVs_at (by simpa [lowV] using hl) i c h1))
  | whenT u v _ ih => exact .whenT _ _ (ih (by simpa [lowV] using hl))
  | whenF u => exact .whenF _
  | junk v => exact .junk v

def lowL (L : Nat) : List (Nat × V) → Bool
  | [] => true
  | (_, v) :: l => lowV L v && lowL L l
def lowB (L : Nat) : List (List C) → Bool
  | [] => true
  | c :: l => lowCs L c && lowB L l
theorem lowL_of {L : Nat} : ∀ {l : List (Nat × V)}, lowL L l = true → ∀ j, lowV L (ofL l j) = true
  | [], _, j => rfl
  | (k, v) :: l, h, j => by
    simp only [lowL, Bool.and_eq_true] at h
    unfold ofL
    cases k.beq j with
    | true => exact h.1
    | false => exact lowL_of h.2 j
theorem lowB_at {L : Nat} : ∀ {l : List (List C)}, lowB L l = true → ∀ (i : Nat) (c : List C), l[i]? = some c → lowCs L c = true
  | [], _, i, c, h => by simp at h
  | x :: l, h, 0, c, hc => by simp at hc; subst hc; exact (Bool.and_eq_true_iff.1 (by simpa [lowB] using h)).1
  | x :: l, h, i + 1, c, hc => by simp at hc; exact lowB_at (Bool.and_eq_true_iff.1 (by simpa [lowB] using h)).2 i c hc

theorem W.keepD {J : Inv} {E : Env J} {P : Program} {n : Nat} {t : Nat → V} {r : List (Option RowO)} {m : List (List (DV × DV))} {c : Code} {K : Ex → St → Prop} (l : List (Nat × V)) (b1 b2 : List (List C)) (hl : holdsL t l)
    (hlow : (lowL b1.length l && lowB b1.length b1) = true) (h : W E P n c K ⟨ofL l, b1, r, m⟩) : W E P n c K ⟨t, b1 ++ b2, r, m⟩ := by
  rw [Bool.and_eq_true] at hlow
  have hlive : ∀ x, (⟨ofL l, b1, r, m⟩ : St).live x → (⟨t, b1 ++ b2, r, m⟩ : St).live x := fun x hx => by
    cases x with
    | b q => exact Nat.lt_of_lt_of_le hx (by simp)
    | r q => exact hx
    | m q => exact hx
  refine h.weaken fun g a w rel => ⟨g, rel.below, rel.im0, rel.imlt, rel.imold, fun x hx => rel.own x (hlive x hx), ⟨fun x hx => rel.heap.lt x (hlive x hx), fun x hx => rel.heap.new x (hlive x hx), fun x y hx hy => rel.heap.inj x y (hlive x hx) (hlive y hy), fun q cs hq => ?_, rel.heap.row, fun q es hq => ?_⟩, rel.size, rel.defers, fun i hi => ?_⟩
  · have hq' : (b1 ++ b2)[q]? = some cs := by
      rw [List.getElem?_append_left (List.getElem?_eq_some_iff.1 hq).1]; exact hq
    obtain ⟨vs, ty, h1, h2, h3⟩ := rel.heap.box q cs hq'
    exact ⟨vs, ty, h1, h2, fun j c v hc hv => (h3 j c v hc hv).low b1.length (lowCs_at (lowB_at hlow.2 q cs hq) j c hc)⟩
  · obtain ⟨arr, clock, h1, h2, h3⟩ := rel.heap.map q es hq
    refine ⟨arr, clock, h1, h2, fun i x e hx he => ?_⟩
    have lowDV : ∀ x : DV, lowV b1.length x.v = true := fun x => by
      cases x with
      | one d => rfl
      | agg ds =>
        show lowCs b1.length (ds.map .d) = true
        induction ds with
        | nil => rfl
        | cons d ds ih => simpa [lowCs, lowC] using ih
    exact ⟨(h3 i x e hx he).1.low b1.length (lowDV x.1), (h3 i x e hx he).2.low b1.length (lowDV x.2)⟩
  · show RV _ _ _ (ofL l i) _
    rcases ofL_or t l hl i with h | h
    · rw [h]; exact .junk _
    · have h1 := lowL_of hlow.1 i
      rw [h] at h1 ⊢
      exact (rel.tmps i hi).low b1.length h1
end Go.Proofs.YtepdjimbnbiicaaGreatDoor
